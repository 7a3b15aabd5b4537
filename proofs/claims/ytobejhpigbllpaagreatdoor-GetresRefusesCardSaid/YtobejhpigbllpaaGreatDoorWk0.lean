/-
  What functions compute, and that they do. Printed by mkwalk.py.
-/
import Derived.Test.YtobejhpigbllpaaGreatDoorCodes
set_option linter.unusedVariables false
set_option maxRecDepth 100000
namespace Go.Proofs.YtobejhpigbllpaaGreatDoor.Am

def internal_bytealg_IndexByteString (a0 : Str) (a1 : UInt8) : Option Int := some (findB a0 a1)
theorem sp_internal_bytealg_IndexByteString : Spec tb fn_internal_bytealg_IndexByteString [T.str, T.u8] [T.int .i64] (fun a => internal_bytealg_IndexByteString a.1 a.2) := Spec.byteS rfl
noncomputable def field_Name (a0 : Int) : Option Str :=
 (orO (decide (a0 < 1)) (some (decide (16 < a0)))).bind fun x3 =>
 if x3 = true then
 some []
 else
 (idx gx_0.l a0).bind fun x4 =>
 some x4
noncomputable def sim_field_Name (a : Res [(T.int .i64)]) : Sim tb ⟨argsT [(T.int .i64)] 0 a, []⟩ c_field_Name.body [] (QRes [T.str] c_field_Name.res) :=
 Sim.seqI <| Sim.op1 (h_mv o_s) <|
 Sim.doneS <| Sim.seqI <| Sim.seqI <| Sim.op1 (h_mv (o_t rfl)) <|
 Sim.op (h_cmp (I := (IT.int .i64)) rfl (o_t rfl) o_i) fun x1 =>
 Sim.op1 (h_mv (o_t rfl)) <|
 Sim.or 2 rfl rfl rfl (Grp.op1 (h_mv (o_t rfl)) <|
 Grp.op (h_cmp (I := (IT.int .i64)) rfl (o_t rfl) o_i) fun x2 =>
 Grp.nil (o_t rfl)) fun x3 =>
 Sim.doneS <| Sim.cond (o_t rfl) (
 Sim.seqI <| Sim.op1 (h_mv o_s) <|
 Sim.doneS <| Sim.ret (.one (res_t rfl))) (
 Sim.skip <| Sim.doneS <| Sim.seqI <| Sim.op1 (h_mv (o_t rfl)) <|
 Sim.op (h_iaa rfl rfl (o_g (t := (T.arr 17 T.str)) (x := gx_0) rfl gm_0 gr_0) (o_t rfl)) fun x4 =>
 Sim.opn (h_ld rfl rfl (o_t rfl)) fun x5 =>
 Sim.op1 (h_mv (o_t rfl)) <|
 Sim.doneS <| Sim.ret (.one (res_t rfl)))
theorem sp_field_Name : Spec tb fn_field_Name [(T.int .i64)] [T.str] (fun a => field_Name a) :=
  Spec.of f_field_Name rfl rfl rfl sim_field_Name

noncomputable def hexes_Encode (a0 : (GS UInt8)) : Option Str :=
 (iter (fun (s3 : (Int × Str)) =>
 if (decide (s3.1 < (a0.l.length : Int))) = true then
 (idx a0.l s3.1).bind fun x6 =>
 (if ((4 : UInt64).toNat : Int) < 0 then none else some (IT.u8.ofI (Int.fdiv (x6.toNat : Int) (2 ^ (min ((4 : UInt64).toNat : Int).toNat 8))))).bind fun x8 =>
 (idx ([48, 49, 50, 51, 52, 53, 54, 55, 56, 57, 97, 98, 99, 100, 101, 102] : Str) (x8.toNat : Int)).bind fun x9 =>
 (bldG s3.2 [x9]).bind fun x10 =>
 let x11 := IT.u8.ofI (bitsR .and .u8 (x6.toNat : Int) ((15 : UInt8).toNat : Int))
 (idx ([48, 49, 50, 51, 52, 53, 54, 55, 56, 57, 97, 98, 99, 100, 101, 102] : Str) (x11.toNat : Int)).bind fun x12 =>
 (bldG x10 [x12]).bind fun x13 =>
 some (.inl (IntKind.i64.wrap (s3.1 + 1), x13))
 else
 some (.inr (.inl s3.2))) (0, [])).bind (Sum.elim (fun (p4 : Str) =>
 (bldT false p4).bind fun x15 =>
 some x15) some)
noncomputable def sim_hexes_Encode (a : Res [(T.sl T.u8)]) : Sim tb ⟨argsT [(T.sl T.u8)] 0 a, []⟩ c_hexes_Encode.body [] (QRes [T.str] c_hexes_Encode.res) :=
 Sim.seqI <| Sim.op1 (h_mv o_s) <|
 Sim.doneS <| Sim.seqI <| Sim.opM (M_bldA 3 5 rfl rfl) fun x1 =>
 Sim.doneS <| Sim.seqI <| Sim.seqI <| Sim.op1 (h_mv (o_t rfl)) <|
 Sim.op (h_len (o_t rfl)) fun x2 =>
 Sim.op1 (h_mv o_i) <|
 Sim.doneS <| Sim.blkI <| Sim.loop (id := 0) (σ := (Int × Str)) (τ := Str) (fun s3 => ⟨[(3, .own 3), (6, .val (T.sl T.u8) a), (7, .val (T.int .i64) x2), (8, .val (T.int .i64) s3.1)], [(3, .dom (DBld 107 5 false) s3.2)]⟩) (fun p4 => ⟨[(3, .own 3)], [(3, .dom (DBld 107 5 false) p4)]⟩) (0, x1) ⟨⟨⟨rfl, trivial⟩, ⟨⟨rfl, trivial⟩, ⟨⟨rfl, trivial⟩, ⟨⟨rfl, trivial⟩, trivial⟩⟩⟩⟩, ⟨⟨rfl, trivial⟩, trivial⟩⟩ (fun _ => rfl) (fun s3 =>
 Sim.seqI <| Sim.op (h_cmp (I := (IT.int .i64)) rfl (o_t rfl) (o_t rfl)) fun x5 =>
 Sim.doneS <| Sim.seqI <| Sim.cond (o_t rfl) (
 Sim.skip <| Sim.doneS <| Sim.seqI <| Sim.blkI <| Sim.seqI <| Sim.op (h_ias rfl (o_t rfl) (o_t rfl)) fun x6 =>
 Sim.opn (h_ld rfl rfl (o_t rfl)) fun x7 =>
 Sim.op1 (h_mv (o_t rfl)) <|
 Sim.doneS <| Sim.seqI <| Sim.op1 (h_mv (o_t rfl)) <|
 Sim.op (h_shrN (I := NT.u8) (J := IT.u64) (o_t rfl) (o_u64 4 rfl)) fun x8 =>
 Sim.op (h_ixs o_s (o_n8 (o_t rfl))) fun x9 =>
 Sim.opM (M_bldB f_p_strings_Builder_copyCheck rfl f_p_strings_Builder_WriteByte (o_t rfl) rfl (o_t rfl)) fun x10 =>
 Sim.doneS <| Sim.op1 (h_mv (o_t rfl)) <|
 Sim.op (h_and (I := IT.u8) (o_t rfl) (o_u8 15 rfl)) fun x11 =>
 Sim.op (h_ixs o_s (o_n8 (o_t rfl))) fun x12 =>
 Sim.opM (M_bldB f_p_strings_Builder_copyCheck rfl f_p_strings_Builder_WriteByte (o_t rfl) rfl (o_t rfl)) fun x13 =>
 Sim.doneB <| Sim.doneS <| Sim.op (h_add (I := (IT.int .i64)) (o_t rfl) o_i) fun x14 =>
 Sim.op1 (h_mv (o_t rfl)) <|
 Sim.next (x14, x13) ⟨⟨⟨rfl, trivial⟩, ⟨⟨rfl, trivial⟩, ⟨⟨rfl, trivial⟩, ⟨⟨rfl, trivial⟩, trivial⟩⟩⟩⟩, ⟨⟨rfl, trivial⟩, trivial⟩⟩) (
 Sim.exitS <| Sim.out s3.2 ⟨⟨⟨rfl, trivial⟩, trivial⟩, ⟨⟨rfl, trivial⟩, trivial⟩⟩)) (fun p4 =>
 Sim.exitB <| Sim.doneS <| Sim.seqI <| Sim.opM (M_bldS f_p_strings_Builder_String (o_t rfl) rfl) fun x15 =>
 Sim.op1 (h_mv (o_t rfl)) <|
 Sim.doneS <| Sim.ret (.one (res_t rfl)))
theorem sp_hexes_Encode : Spec tb fn_hexes_Encode [(T.sl T.u8)] [T.str] (fun a => hexes_Encode a) :=
  Spec.of f_hexes_Encode rfl rfl rfl sim_hexes_Encode

noncomputable def keys_Hex (a0 : (Ar UInt8 32)) : Option Str :=
 (frzO a0.l 0 32 32).bind fun x1 =>
 (hexes_Encode x1).bind fun x2 =>
 some x2
noncomputable def sim_keys_Hex (a : Res [(T.arr 32 T.u8)]) : Sim tb ⟨argsT [(T.arr 32 T.u8)] 0 a, []⟩ c_keys_Hex.body [] (QRes [T.str] c_keys_Hex.res) :=
 Sim.seqI <| Sim.opM (M_box (t := (T.arr 32 T.u8)) 1 rfl rfl (o_t rfl)) fun _ =>
 Sim.op1 (h_mv o_s) <|
 Sim.doneS <| Sim.seqI <| Sim.op1 (h_slaL (k := 0) (m := 32) rfl rfl (o_t rfl) .none .none rfl rfl rfl) <|
 Sim.frzSl (o := 0) (k := 0) (m := 32) (t := (T.arr 32 T.u8)) (u := T.u8) 3 (Fld.id _) rfl rfl rfl rfl fun x1 =>
 Sim.op (h_call1 sp_hexes_Encode (.one (o_t rfl))) fun x2 =>
 Sim.op1 (h_mv (o_t rfl)) <|
 Sim.doneS <| Sim.ret (.one (res_t rfl))
theorem sp_keys_Hex : Spec tb fn_keys_Hex [(T.arr 32 T.u8)] [T.str] (fun a => keys_Hex a) :=
  Spec.of f_keys_Hex rfl rfl rfl sim_keys_Hex

noncomputable def field_keyed_2 (a0 : S_api_Field) : Option (Str × Bool) :=
 (keys_Hex a0.Key).bind fun x2 =>
 some (x2, true)
noncomputable def sim_field_keyed_2 (a : Res [T_api_Field]) : Sim tb ⟨argsT [T_api_Field] 0 a, []⟩ c_field_keyed_2.body [] (QRes [T.str, T.b] c_field_keyed_2.res) :=
 Sim.seqI <| Sim.opM (M_box (t := T_api_Field) 1 rfl rfl (o_t rfl)) fun _ =>
 Sim.op1 (h_mv o_s) <|
 Sim.op1 (h_mv o_b) <|
 Sim.doneS <| Sim.seqI <| Sim.op1 (h_faC (o_t rfl)) <|
 Sim.opn (h_ldC (t := T_api_Field) (u := (T.arr 32 T.u8)) (o_t rfl) rfl rfl F_api_Field_Key rfl rfl) fun x1 =>
 Sim.op (h_call1 sp_keys_Hex (.one (o_t rfl))) fun x2 =>
 Sim.op1 (h_mv (o_t rfl)) <|
 Sim.op1 (h_mv o_b) <|
 Sim.doneS <| Sim.ret (.cons (res_t rfl) <| .one (res_t rfl))
theorem sp_field_keyed_2 : Spec tb fn_field_keyed_2 [T_api_Field] [T.str, T.b] (fun a => field_keyed_2 a) :=
  Spec.of f_field_keyed_2 rfl rfl rfl sim_field_keyed_2

noncomputable def field_keyed_3 (a0 : S_api_Field) : Option S_api_Field :=
 let x2 := (⟨[0, 0, 0, 0, 0, 0, 0, 0, 0, 0, 0, 0, 0, 0, 0, 0, 0, 0, 0, 0, 0, 0, 0, 0, 0, 0, 0, 0, 0, 0, 0, 0], rfl⟩ : (Ar UInt8 32))
 some ({ a0 with Key := x2 })
noncomputable def sim_field_keyed_3 (a : Res [T_api_Field]) : Sim tb ⟨argsT [T_api_Field] 0 a, []⟩ c_field_keyed_3.body [] (QRes [T_api_Field] c_field_keyed_3.res) :=
 Sim.seqI <| Sim.opM (M_box (t := T_api_Field) 1 rfl rfl (o_t rfl)) fun _ =>
 Sim.opM (M_alloc (t := T_api_Field) 2 rfl rfl) fun x1 =>
 Sim.doneS <| Sim.seqI <| Sim.opn (h_bldA (t := T.u8) (⟨[0, 0, 0, 0, 0, 0, 0, 0, 0, 0, 0, 0, 0, 0, 0, 0, 0, 0, 0, 0, 0, 0, 0, 0, 0, 0, 0, 0, 0, 0, 0, 0], rfl⟩ : (Ar UInt8 32)) rfl (.nil _)) fun x2 =>
 Sim.op1 (h_faC (o_t rfl)) <|
 Sim.opM (M_stC (o_t rfl) (o_t rfl) rfl rfl F_api_Field_Key rfl) fun x3 =>
 Sim.doneS <| Sim.seqI <| Sim.opn (h_ldC (t := T_api_Field) (u := T_api_Field) (o_t rfl) rfl rfl (Fld.id _) rfl rfl) fun x4 =>
 Sim.opM (M_stC (o_t rfl) (o_t rfl) rfl rfl (Fld.id _) rfl) fun x5 =>
 Sim.doneS <| Sim.ret (.one (res_c rfl rfl rfl (Fld.id _) rfl rfl))
theorem sp_field_keyed_3 : Spec tb fn_field_keyed_3 [T_api_Field] [T_api_Field] (fun a => field_keyed_3 a) :=
  Spec.of f_field_keyed_3 rfl rfl rfl sim_field_keyed_3

noncomputable def field_ended_3 (a0 : S_api_Field) : Option S_api_Field :=
 let x3 := { a0 with End := (⟨T_api_Addr.z, 0⟩ : S_api_Endpoint) }
 some x3
noncomputable def sim_field_ended_3 (a : Res [T_api_Field]) : Sim tb ⟨argsT [T_api_Field] 0 a, []⟩ c_field_ended_3.body [] (QRes [T_api_Field] c_field_ended_3.res) :=
 Sim.seqI <| Sim.opM (M_box (t := T_api_Field) 1 rfl rfl (o_t rfl)) fun _ =>
 Sim.opM (M_alloc (t := T_api_Field) 2 rfl rfl) fun x1 =>
 Sim.doneS <| Sim.seqI <| Sim.op (h_bld rfl rfl (.nil _)) fun x2 =>
 Sim.op1 (h_faC (o_t rfl)) <|
 Sim.opM (M_stC (o_t rfl) (o_t rfl) rfl rfl F_api_Field_End rfl) fun x3 =>
 Sim.doneS <| Sim.seqI <| Sim.opn (h_ldC (t := T_api_Field) (u := T_api_Field) (o_t rfl) rfl rfl (Fld.id _) rfl rfl) fun x4 =>
 Sim.opM (M_stC (o_t rfl) (o_t rfl) rfl rfl (Fld.id _) rfl) fun x5 =>
 Sim.doneS <| Sim.ret (.one (res_c rfl rfl rfl (Fld.id _) rfl rfl))
theorem sp_field_ended_3 : Spec tb fn_field_ended_3 [T_api_Field] [T_api_Field] (fun a => field_ended_3 a) :=
  Spec.of f_field_ended_3 rfl rfl rfl sim_field_ended_3

noncomputable def field_allowed_3 (a0 : S_api_Field) : Option S_api_Field :=
 let x3 := { a0 with P := (⟨T_api_Addr.z, 0⟩ : S_api_Prefix) }
 some x3
noncomputable def sim_field_allowed_3 (a : Res [T_api_Field]) : Sim tb ⟨argsT [T_api_Field] 0 a, []⟩ c_field_allowed_3.body [] (QRes [T_api_Field] c_field_allowed_3.res) :=
 Sim.seqI <| Sim.opM (M_box (t := T_api_Field) 1 rfl rfl (o_t rfl)) fun _ =>
 Sim.opM (M_alloc (t := T_api_Field) 2 rfl rfl) fun x1 =>
 Sim.doneS <| Sim.seqI <| Sim.op (h_bld rfl rfl (.nil _)) fun x2 =>
 Sim.op1 (h_faC (o_t rfl)) <|
 Sim.opM (M_stC (o_t rfl) (o_t rfl) rfl rfl F_api_Field_P rfl) fun x3 =>
 Sim.doneS <| Sim.seqI <| Sim.opn (h_ldC (t := T_api_Field) (u := T_api_Field) (o_t rfl) rfl rfl (Fld.id _) rfl rfl) fun x4 =>
 Sim.opM (M_stC (o_t rfl) (o_t rfl) rfl rfl (Fld.id _) rfl) fun x5 =>
 Sim.doneS <| Sim.ret (.one (res_c rfl rfl rfl (Fld.id _) rfl rfl))
theorem sp_field_allowed_3 : Spec tb fn_field_allowed_3 [T_api_Field] [T_api_Field] (fun a => field_allowed_3 a) :=
  Spec.of f_field_allowed_3 rfl rfl rfl sim_field_allowed_3

noncomputable def field_counted_3 (a0 : S_api_Field) : Option S_api_Field :=
 some ({ a0 with N := (0 : UInt64) })
noncomputable def sim_field_counted_3 (a : Res [T_api_Field]) : Sim tb ⟨argsT [T_api_Field] 0 a, []⟩ c_field_counted_3.body [] (QRes [T_api_Field] c_field_counted_3.res) :=
 Sim.seqI <| Sim.opM (M_box (t := T_api_Field) 1 rfl rfl (o_t rfl)) fun _ =>
 Sim.opM (M_alloc (t := T_api_Field) 2 rfl rfl) fun x1 =>
 Sim.doneS <| Sim.seqI <| Sim.op1 (h_faC (o_t rfl)) <|
 Sim.opM (M_stC (o_t rfl) (o_u64 0 rfl) rfl rfl F_api_Field_N rfl) fun x2 =>
 Sim.doneS <| Sim.seqI <| Sim.opn (h_ldC (t := T_api_Field) (u := T_api_Field) (o_t rfl) rfl rfl (Fld.id _) rfl rfl) fun x3 =>
 Sim.opM (M_stC (o_t rfl) (o_t rfl) rfl rfl (Fld.id _) rfl) fun x4 =>
 Sim.doneS <| Sim.ret (.one (res_c rfl rfl rfl (Fld.id _) rfl rfl))
theorem sp_field_counted_3 : Spec tb fn_field_counted_3 [T_api_Field] [T_api_Field] (fun a => field_counted_3 a) :=
  Spec.of f_field_counted_3 rfl rfl rfl sim_field_counted_3

noncomputable def internal_strconv_small (a0 : Int) : Option Str :=
 if (decide (a0 < 10)) = true then
 (subL [48, 49, 50, 51, 52, 53, 54, 55, 56, 57, 97, 98, 99, 100, 101, 102, 103, 104, 105, 106, 107, 108, 109, 110, 111, 112, 113, 114, 115, 116, 117, 118, 119, 120, 121, 122] (some a0) (some (IntKind.i64.wrap (a0 + 1)))).bind fun x3 =>
 some x3
 else
 (subL [48, 48, 48, 49, 48, 50, 48, 51, 48, 52, 48, 53, 48, 54, 48, 55, 48, 56, 48, 57, 49, 48, 49, 49, 49, 50, 49, 51, 49, 52, 49, 53, 49, 54, 49, 55, 49, 56, 49, 57, 50, 48, 50, 49, 50, 50, 50, 51, 50, 52, 50, 53, 50, 54, 50, 55, 50, 56, 50, 57, 51, 48, 51, 49, 51, 50, 51, 51, 51, 52, 51, 53, 51, 54, 51, 55, 51, 56, 51, 57, 52, 48, 52, 49, 52, 50, 52, 51, 52, 52, 52, 53, 52, 54, 52, 55, 52, 56, 52, 57, 53, 48, 53, 49, 53, 50, 53, 51, 53, 52, 53, 53, 53, 54, 53, 55, 53, 56, 53, 57, 54, 48, 54, 49, 54, 50, 54, 51, 54, 52, 54, 53, 54, 54, 54, 55, 54, 56, 54, 57, 55, 48, 55, 49, 55, 50, 55, 51, 55, 52, 55, 53, 55, 54, 55, 55, 55, 56, 55, 57, 56, 48, 56, 49, 56, 50, 56, 51, 56, 52, 56, 53, 56, 54, 56, 55, 56, 56, 56, 57, 57, 48, 57, 49, 57, 50, 57, 51, 57, 52, 57, 53, 57, 54, 57, 55, 57, 56, 57, 57] (some (IntKind.i64.wrap (a0 * 2))) (some (IntKind.i64.wrap (IntKind.i64.wrap (a0 * 2) + 2)))).bind fun x7 =>
 some x7
noncomputable def sim_internal_strconv_small (a : Res [(T.int .i64)]) : Sim tb ⟨argsT [(T.int .i64)] 0 a, []⟩ c_internal_strconv_small.body [] (QRes [T.str] c_internal_strconv_small.res) :=
 Sim.seqI <| Sim.op1 (h_mv o_s) <|
 Sim.doneS <| Sim.seqI <| Sim.seqI <| Sim.op1 (h_mv (o_t rfl)) <|
 Sim.op (h_cmp (I := (IT.int .i64)) rfl (o_t rfl) o_i) fun x1 =>
 Sim.doneS <| Sim.cond (o_t rfl) (
 Sim.seqI <| Sim.op1 (h_mv (o_t rfl)) <|
 Sim.op1 (h_mv (o_t rfl)) <|
 Sim.op (h_add (I := (IT.int .i64)) (o_t rfl) o_i) fun x2 =>
 Sim.op (h_sls o_s (.some (o_t rfl)) (.some (o_t rfl))) fun x3 =>
 Sim.op1 (h_mv (o_t rfl)) <|
 Sim.doneS <| Sim.ret (.one (res_t rfl))) (
 Sim.skip <| Sim.doneS <| Sim.seqI <| Sim.op1 (h_mv (o_t rfl)) <|
 Sim.op (h_mul (I := (IT.int .i64)) (o_t rfl) o_i) fun x4 =>
 Sim.op1 (h_mv (o_t rfl)) <|
 Sim.op (h_mul (I := (IT.int .i64)) (o_t rfl) o_i) fun x5 =>
 Sim.op (h_add (I := (IT.int .i64)) (o_t rfl) o_i) fun x6 =>
 Sim.op (h_sls o_s (.some (o_t rfl)) (.some (o_t rfl))) fun x7 =>
 Sim.op1 (h_mv (o_t rfl)) <|
 Sim.doneS <| Sim.ret (.one (res_t rfl)))
theorem sp_internal_strconv_small : Spec tb fn_internal_strconv_small [(T.int .i64)] [T.str] (fun a => internal_strconv_small a) :=
  Spec.of f_internal_strconv_small rfl rfl rfl sim_internal_strconv_small

noncomputable def math_bits_Len64 (a0 : UInt64) : Option Int :=
 let x1 := decide (((4294967296 : UInt64).toNat : Int) ≤ (a0.toNat : Int))
 (if x1 = true then
 (if ((32 : UInt64).toNat : Int) < 0 then none else some (IT.u64.ofI (Int.fdiv (a0.toNat : Int) (2 ^ (min ((32 : UInt64).toNat : Int).toNat 64))))).bind fun x18 =>
 some (.inl (x18, 32))
 else
 some (.inl (a0, 0)) : Option ((UInt64 × Int) ⊕ _)).bind (Sum.elim (fun (p2 : (UInt64 × Int)) =>
 let x4 := decide (((65536 : UInt64).toNat : Int) ≤ (p2.1.toNat : Int))
 (if x4 = true then
 (if ((16 : UInt64).toNat : Int) < 0 then none else some (IT.u64.ofI (Int.fdiv (p2.1.toNat : Int) (2 ^ (min ((16 : UInt64).toNat : Int).toNat 64))))).bind fun x16 =>
 some (.inl (x16, IntKind.i64.wrap (p2.2 + 16)))
 else
 some (.inl (p2.1, p2.2)) : Option ((UInt64 × Int) ⊕ _)).bind (Sum.elim (fun (p5 : (UInt64 × Int)) =>
 let x7 := decide (((256 : UInt64).toNat : Int) ≤ (p5.1.toNat : Int))
 (if x7 = true then
 (if ((8 : UInt64).toNat : Int) < 0 then none else some (IT.u64.ofI (Int.fdiv (p5.1.toNat : Int) (2 ^ (min ((8 : UInt64).toNat : Int).toNat 64))))).bind fun x14 =>
 some (.inl (x14, IntKind.i64.wrap (p5.2 + 8)))
 else
 some (.inl (p5.1, p5.2)) : Option ((UInt64 × Int) ⊕ _)).bind (Sum.elim (fun (p8 : (UInt64 × Int)) =>
 (idx ([0, 1, 2, 2, 3, 3, 3, 3, 4, 4, 4, 4, 4, 4, 4, 4, 5, 5, 5, 5, 5, 5, 5, 5, 5, 5, 5, 5, 5, 5, 5, 5, 6, 6, 6, 6, 6, 6, 6, 6, 6, 6, 6, 6, 6, 6, 6, 6, 6, 6, 6, 6, 6, 6, 6, 6, 6, 6, 6, 6, 6, 6, 6, 6, 7, 7, 7, 7, 7, 7, 7, 7, 7, 7, 7, 7, 7, 7, 7, 7, 7, 7, 7, 7, 7, 7, 7, 7, 7, 7, 7, 7, 7, 7, 7, 7, 7, 7, 7, 7, 7, 7, 7, 7, 7, 7, 7, 7, 7, 7, 7, 7, 7, 7, 7, 7, 7, 7, 7, 7, 7, 7, 7, 7, 7, 7, 7, 7, 8, 8, 8, 8, 8, 8, 8, 8, 8, 8, 8, 8, 8, 8, 8, 8, 8, 8, 8, 8, 8, 8, 8, 8, 8, 8, 8, 8, 8, 8, 8, 8, 8, 8, 8, 8, 8, 8, 8, 8, 8, 8, 8, 8, 8, 8, 8, 8, 8, 8, 8, 8, 8, 8, 8, 8, 8, 8, 8, 8, 8, 8, 8, 8, 8, 8, 8, 8, 8, 8, 8, 8, 8, 8, 8, 8, 8, 8, 8, 8, 8, 8, 8, 8, 8, 8, 8, 8, 8, 8, 8, 8, 8, 8, 8, 8, 8, 8, 8, 8, 8, 8, 8, 8, 8, 8, 8, 8, 8, 8, 8, 8, 8, 8, 8, 8, 8, 8, 8, 8, 8, 8, 8, 8, 8, 8, 8, 8] : Str) ((IT.u8.ofI (p8.1.toNat : Int)).toNat : Int)).bind fun x11 =>
 let x13 := IntKind.i64.wrap (p8.2 + IntKind.i64.wrap (x11.toNat : Int))
 some x13) some)) some)) some)
noncomputable def sim_math_bits_Len64 (a : Res [T.u64]) : Sim tb ⟨argsT [T.u64] 0 a, []⟩ c_math_bits_Len64.body [] (QRes [(T.int .i64)] c_math_bits_Len64.res) :=
 Sim.seqI <| Sim.op1 (h_mv o_i) <|
 Sim.doneS <| Sim.seqI <| Sim.seqI <| Sim.op1 (h_mv (o_t rfl)) <|
 Sim.op (h_cmp (I := IT.u64) rfl (o_t rfl) (o_u64 4294967296 rfl)) fun x1 =>
 Sim.doneS <| Sim.joinS (τ := (UInt64 × Int)) (fun p2 => ⟨[(0, .val T.u64 p2.1), (2, .val (T.int .i64) p2.2)], []⟩) (fun p2 =>
 Sim.doneS <| Sim.seqI <| Sim.seqI <| Sim.op1 (h_mv (o_t rfl)) <|
 Sim.op (h_cmp (I := IT.u64) rfl (o_t rfl) (o_u64 65536 rfl)) fun x4 =>
 Sim.doneS <| Sim.joinS (τ := (UInt64 × Int)) (fun p5 => ⟨[(0, .val T.u64 p5.1), (2, .val (T.int .i64) p5.2)], []⟩) (fun p5 =>
 Sim.doneS <| Sim.seqI <| Sim.seqI <| Sim.op1 (h_mv (o_t rfl)) <|
 Sim.op (h_cmp (I := IT.u64) rfl (o_t rfl) (o_u64 256 rfl)) fun x7 =>
 Sim.doneS <| Sim.joinS (τ := (UInt64 × Int)) (fun p8 => ⟨[(0, .val T.u64 p8.1), (2, .val (T.int .i64) p8.2)], []⟩) (fun p8 =>
 Sim.doneS <| Sim.seqI <| Sim.op1 (h_mv (o_t rfl)) <|
 Sim.op1 (h_mv (o_t rfl)) <|
 Sim.op (h_cvi (I := IT.u64) (J := IT.u8) rfl (o_t rfl)) fun x10 =>
 Sim.op (h_ixs o_s (o_n8 (o_t rfl))) fun x11 =>
 Sim.op (h_cvi (I := IT.u8) (J := (IT.int .i64)) rfl (o_t rfl)) fun x12 =>
 Sim.op (h_add (I := (IT.int .i64)) (o_t rfl) (o_t rfl)) fun x13 =>
 Sim.op1 (h_mv (o_t rfl)) <|
 Sim.doneS <| Sim.ret (.one (res_t rfl))) <| Sim.cond (o_t rfl) (
 Sim.seqI <| Sim.op1 (h_mv (o_t rfl)) <|
 Sim.op (h_shrN (I := NT.u64) (J := IT.u64) (o_t rfl) (o_u64 8 rfl)) fun x14 =>
 Sim.op1 (h_mv (o_t rfl)) <|
 Sim.doneS <| Sim.op1 (h_mv (o_t rfl)) <|
 Sim.op (h_add (I := (IT.int .i64)) (o_t rfl) o_i) fun x15 =>
 Sim.op1 (h_mv (o_t rfl)) <|
 Sim.jn (x14, x15) ⟨⟨⟨rfl, trivial⟩, ⟨⟨rfl, trivial⟩, trivial⟩⟩, trivial⟩) (
 Sim.skip <| Sim.jn (p5.1, p5.2) ⟨⟨⟨rfl, trivial⟩, ⟨⟨rfl, trivial⟩, trivial⟩⟩, trivial⟩)) <| Sim.cond (o_t rfl) (
 Sim.seqI <| Sim.op1 (h_mv (o_t rfl)) <|
 Sim.op (h_shrN (I := NT.u64) (J := IT.u64) (o_t rfl) (o_u64 16 rfl)) fun x16 =>
 Sim.op1 (h_mv (o_t rfl)) <|
 Sim.doneS <| Sim.op1 (h_mv (o_t rfl)) <|
 Sim.op (h_add (I := (IT.int .i64)) (o_t rfl) o_i) fun x17 =>
 Sim.op1 (h_mv (o_t rfl)) <|
 Sim.jn (x16, x17) ⟨⟨⟨rfl, trivial⟩, ⟨⟨rfl, trivial⟩, trivial⟩⟩, trivial⟩) (
 Sim.skip <| Sim.jn (p2.1, p2.2) ⟨⟨⟨rfl, trivial⟩, ⟨⟨rfl, trivial⟩, trivial⟩⟩, trivial⟩)) <| Sim.cond (o_t rfl) (
 Sim.seqI <| Sim.op1 (h_mv (o_t rfl)) <|
 Sim.op (h_shrN (I := NT.u64) (J := IT.u64) (o_t rfl) (o_u64 32 rfl)) fun x18 =>
 Sim.op1 (h_mv (o_t rfl)) <|
 Sim.doneS <| Sim.op1 (h_mv o_i) <|
 Sim.jn (x18, 32) ⟨⟨⟨rfl, trivial⟩, ⟨⟨rfl, trivial⟩, trivial⟩⟩, trivial⟩) (
 Sim.skip <| Sim.jn (a, 0) ⟨⟨⟨rfl, trivial⟩, ⟨⟨rfl, trivial⟩, trivial⟩⟩, trivial⟩)
theorem sp_math_bits_Len64 : Spec tb fn_math_bits_Len64 [T.u64] [(T.int .i64)] (fun a => math_bits_Len64 a) :=
  Spec.of f_math_bits_Len64 rfl rfl rfl sim_math_bits_Len64

noncomputable def internal_strconv_log10Pow2 (a0 : Int) : Option Int :=
 (if ((18 : UInt64).toNat : Int) < 0 then none else some (Int.fdiv (IntKind.i64.wrap (a0 * 78913)) (2 ^ (min ((18 : UInt64).toNat : Int).toNat 64)))).bind fun x2 =>
 some x2
noncomputable def sim_internal_strconv_log10Pow2 (a : Res [(T.int .i64)]) : Sim tb ⟨argsT [(T.int .i64)] 0 a, []⟩ c_internal_strconv_log10Pow2.body [] (QRes [(T.int .i64)] c_internal_strconv_log10Pow2.res) :=
 Sim.seqI <| Sim.op1 (h_mv o_i) <|
 Sim.doneS <| Sim.seqI <| Sim.op1 (h_mv (o_t rfl)) <|
 Sim.op (h_mul (I := (IT.int .i64)) (o_t rfl) o_i) fun x1 =>
 Sim.op (h_shr (J := IT.u64) (o_t rfl) (o_u64 18 rfl)) fun x2 =>
 Sim.op1 (h_mv (o_t rfl)) <|
 Sim.doneS <| Sim.ret (.one (res_t rfl))
theorem sp_internal_strconv_log10Pow2 : Spec tb fn_internal_strconv_log10Pow2 [(T.int .i64)] [(T.int .i64)] (fun a => internal_strconv_log10Pow2 a) :=
  Spec.of f_internal_strconv_log10Pow2 rfl rfl rfl sim_internal_strconv_log10Pow2

noncomputable def internal_strconv_bool2_int (a0 : Bool) : Option Int :=
 if a0 = true then
 some 1
 else
 some 0
noncomputable def sim_internal_strconv_bool2_int (a : Res [T.b]) : Sim tb ⟨argsT [T.b] 0 a, []⟩ c_internal_strconv_bool2_int.body [] (QRes [(T.int .i64)] c_internal_strconv_bool2_int.res) :=
 Sim.seqI <| Sim.op1 (h_mv o_i) <|
 Sim.doneS <| Sim.seqI <| Sim.seqI <| Sim.op1 (h_mv (o_t rfl)) <|
 Sim.doneS <| Sim.cond (o_t rfl) (
 Sim.seqI <| Sim.op1 (h_mv o_i) <|
 Sim.doneS <| Sim.ret (.one (res_t rfl))) (
 Sim.skip <| Sim.doneS <| Sim.seqI <| Sim.op1 (h_mv o_i) <|
 Sim.doneS <| Sim.ret (.one (res_t rfl)))
theorem sp_internal_strconv_bool2_int : Spec tb fn_internal_strconv_bool2_int [T.b] [(T.int .i64)] (fun a => internal_strconv_bool2_int a) :=
  Spec.of f_internal_strconv_bool2_int rfl rfl rfl sim_internal_strconv_bool2_int

noncomputable def internal_strconv_numDigits (a0 : UInt64) : Option Int :=
 (math_bits_Len64 a0).bind fun x1 =>
 (internal_strconv_log10Pow2 x1).bind fun x2 =>
 (idx gx_2.l x2).bind fun x3 =>
 (internal_strconv_bool2_int (decide ((x3.toNat : Int) ≤ (a0.toNat : Int)))).bind fun x6 =>
 some (IntKind.i64.wrap (x2 + x6))
noncomputable def sim_internal_strconv_numDigits (a : Res [T.u64]) : Sim tb ⟨argsT [T.u64] 0 a, []⟩ c_internal_strconv_numDigits.body [] (QRes [(T.int .i64)] c_internal_strconv_numDigits.res) :=
 Sim.seqI <| Sim.op1 (h_mv o_i) <|
 Sim.doneS <| Sim.seqI <| Sim.op1 (h_mv (o_t rfl)) <|
 Sim.op (h_call1 sp_math_bits_Len64 (.one (o_t rfl))) fun x1 =>
 Sim.op (h_call1 sp_internal_strconv_log10Pow2 (.one (o_t rfl))) fun x2 =>
 Sim.op1 (h_mv (o_t rfl)) <|
 Sim.doneS <| Sim.seqI <| Sim.op1 (h_mv (o_t rfl)) <|
 Sim.op1 (h_mv (o_t rfl)) <|
 Sim.op1 (h_mv (o_t rfl)) <|
 Sim.op (h_iaa rfl rfl (o_g (t := (T.arr 20 T.u64)) (x := gx_2) rfl gm_2 gr_2) (o_t rfl)) fun x3 =>
 Sim.opn (h_ld rfl rfl (o_t rfl)) fun x4 =>
 Sim.op (h_cmp (I := IT.u64) rfl (o_t rfl) (o_t rfl)) fun x5 =>
 Sim.op (h_call1 sp_internal_strconv_bool2_int (.one (o_t rfl))) fun x6 =>
 Sim.op (h_add (I := (IT.int .i64)) (o_t rfl) (o_t rfl)) fun x7 =>
 Sim.op1 (h_mv (o_t rfl)) <|
 Sim.doneS <| Sim.ret (.one (res_t rfl))
theorem sp_internal_strconv_numDigits : Spec tb fn_internal_strconv_numDigits [T.u64] [(T.int .i64)] (fun a => internal_strconv_numDigits a) :=
  Spec.of f_internal_strconv_numDigits rfl rfl rfl sim_internal_strconv_numDigits

noncomputable def internal_strconv_FormatUint (a0 : UInt64) (a1 : Int) : Option Str :=
 if (decide (a1 = 10)) = true then
 let x2 := decide ((a0.toNat : Int) < ((100 : UInt64).toNat : Int))
 if x2 = true then
 (internal_strconv_small (IntKind.i64.wrap (a0.toNat : Int))).bind fun x4 =>
 some x4
 else
 (internal_strconv_numDigits a0).bind fun x6 =>
 ((bnd 24 none (some x6)).map fun p => p.2).bind fun x7 =>
 none
 else
 none
noncomputable def sim_internal_strconv_FormatUint (a : Res [T.u64, (T.int .i64)]) : Sim tb ⟨argsT [T.u64, (T.int .i64)] 0 a, []⟩ c_internal_strconv_FormatUint.body [] (QRes [T.str] c_internal_strconv_FormatUint.res) :=
 Sim.seqI <| Sim.op1 (h_mv o_s) <|
 Sim.doneS <| Sim.seqI <| Sim.seqI <| Sim.op1 (h_mv (o_t rfl)) <|
 Sim.op (h_cmp (I := (IT.int .i64)) rfl (o_t rfl) o_i) fun x1 =>
 Sim.doneS <| Sim.cond (o_t rfl) (
 Sim.seqI <| Sim.seqI <| Sim.op1 (h_mv (o_t rfl)) <|
 Sim.op (h_cmp (I := IT.u64) rfl (o_t rfl) (o_u64 100 rfl)) fun x2 =>
 Sim.doneS <| Sim.cond (o_t rfl) (
 Sim.seqI <| Sim.op1 (h_mv (o_t rfl)) <|
 Sim.op (h_cvi (I := IT.u64) (J := (IT.int .i64)) rfl (o_t rfl)) fun x3 =>
 Sim.op (h_call1 sp_internal_strconv_small (.one (o_t rfl))) fun x4 =>
 Sim.op1 (h_mv (o_t rfl)) <|
 Sim.doneS <| Sim.ret (.one (res_t rfl))) (
 Sim.skip <| Sim.doneS <| Sim.seqI <| Sim.opM (M_alloc (t := (T.arr 24 T.u8)) 5 rfl rfl) fun x5 =>
 Sim.doneS <| Sim.seqI <| Sim.op1 (h_mv (o_t rfl)) <|
 Sim.op (h_call1 sp_internal_strconv_numDigits (.one (o_t rfl))) fun x6 =>
 Sim.op1 (h_mv (o_t rfl)) <|
 Sim.doneS <| Sim.seqI <| Sim.op1 (h_mv (o_t rfl)) <|
 Sim.op (h_slaS rfl rfl (o_t rfl) (.some (o_t rfl))) fun x7 =>
 Sim.op1 (h_mv (o_t rfl)) <|
 Sim.stop)) (
 Sim.skip <| Sim.doneS <| Sim.seqI <| Sim.op1 (h_mv (o_t rfl)) <|
 Sim.op1 (h_mv (o_t rfl)) <|
 Sim.stop)
theorem sp_internal_strconv_FormatUint : Spec tb fn_internal_strconv_FormatUint [T.u64, (T.int .i64)] [T.str] (fun a => internal_strconv_FormatUint a.1 a.2) :=
  Spec.of f_internal_strconv_FormatUint rfl rfl rfl sim_internal_strconv_FormatUint

noncomputable def strconv_FormatUint (a0 : UInt64) (a1 : Int) : Option Str :=
 (internal_strconv_FormatUint a0 a1).bind fun x1 =>
 some x1
noncomputable def sim_strconv_FormatUint (a : Res [T.u64, (T.int .i64)]) : Sim tb ⟨argsT [T.u64, (T.int .i64)] 0 a, []⟩ c_strconv_FormatUint.body [] (QRes [T.str] c_strconv_FormatUint.res) :=
 Sim.seqI <| Sim.op1 (h_mv o_s) <|
 Sim.doneS <| Sim.seqI <| Sim.op1 (h_mv (o_t rfl)) <|
 Sim.op1 (h_mv (o_t rfl)) <|
 Sim.op (h_call1 sp_internal_strconv_FormatUint (.cons (o_t rfl) <| .one (o_t rfl))) fun x1 =>
 Sim.op1 (h_mv (o_t rfl)) <|
 Sim.doneS <| Sim.ret (.one (res_t rfl))
theorem sp_strconv_FormatUint : Spec tb fn_strconv_FormatUint [T.u64, (T.int .i64)] [T.str] (fun a => strconv_FormatUint a.1 a.2) :=
  Spec.of f_strconv_FormatUint rfl rfl rfl sim_strconv_FormatUint

noncomputable def decimal_Text (a0 : UInt64) : Option Str :=
 (strconv_FormatUint a0 10).bind fun x1 =>
 some x1
noncomputable def sim_decimal_Text (a : Res [T.u64]) : Sim tb ⟨argsT [T.u64] 0 a, []⟩ c_decimal_Text.body [] (QRes [T.str] c_decimal_Text.res) :=
 Sim.seqI <| Sim.op1 (h_mv o_s) <|
 Sim.doneS <| Sim.seqI <| Sim.op1 (h_mv (o_t rfl)) <|
 Sim.op (h_call1 sp_strconv_FormatUint (.cons (o_t rfl) <| .one o_i)) fun x1 =>
 Sim.op1 (h_mv (o_t rfl)) <|
 Sim.doneS <| Sim.ret (.one (res_t rfl))
theorem sp_decimal_Text : Spec tb fn_decimal_Text [T.u64] [T.str] (fun a => decimal_Text a) :=
  Spec.of f_decimal_Text rfl rfl rfl sim_decimal_Text

noncomputable def field_said_2 (a0 : S_api_Field) : Option (Str × Bool) :=
 some ([116, 114, 117, 101], true)
noncomputable def sim_field_said_2 (a : Res [T_api_Field]) : Sim tb ⟨argsT [T_api_Field] 0 a, []⟩ c_field_said_2.body [] (QRes [T.str, T.b] c_field_said_2.res) :=
 Sim.seqI <| Sim.opM (M_box (t := T_api_Field) 1 rfl rfl (o_t rfl)) fun _ =>
 Sim.op1 (h_mv o_s) <|
 Sim.op1 (h_mv o_b) <|
 Sim.doneS <| Sim.seqI <| Sim.op1 (h_mv o_s) <|
 Sim.op1 (h_mv o_b) <|
 Sim.doneS <| Sim.ret (.cons (res_t rfl) <| .one (res_t rfl))
theorem sp_field_said_2 : Spec tb fn_field_said_2 [T_api_Field] [T.str, T.b] (fun a => field_said_2 a) :=
  Spec.of f_field_said_2 rfl rfl rfl sim_field_said_2

noncomputable def field_said_3 (a0 : S_api_Field) : Option S_api_Field :=
 some a0
noncomputable def sim_field_said_3 (a : Res [T_api_Field]) : Sim tb ⟨argsT [T_api_Field] 0 a, []⟩ c_field_said_3.body [] (QRes [T_api_Field] c_field_said_3.res) :=
 Sim.seqI <| Sim.opM (M_box (t := T_api_Field) 1 rfl rfl (o_t rfl)) fun _ =>
 Sim.opM (M_alloc (t := T_api_Field) 2 rfl rfl) fun x1 =>
 Sim.doneS <| Sim.seqI <| Sim.opn (h_ldC (t := T_api_Field) (u := T_api_Field) (o_t rfl) rfl rfl (Fld.id _) rfl rfl) fun x2 =>
 Sim.opM (M_stC (o_t rfl) (o_t rfl) rfl rfl (Fld.id _) rfl) fun x3 =>
 Sim.doneS <| Sim.ret (.one (res_c rfl rfl rfl (Fld.id _) rfl rfl))
theorem sp_field_said_3 : Spec tb fn_field_said_3 [T_api_Field] [T_api_Field] (fun a => field_said_3 a) :=
  Spec.of f_field_said_3 rfl rfl rfl sim_field_said_3

noncomputable def field_Right (a0 : S_api_Field) : Option Bool :=
 (field_Name a0.Word).bind fun x2 =>
 if (decide (x2 = [])) = true then
 some false
 else
 ((fun (k12 : Bool → Option _) => if (decide (a0.Word = 1)) = true then
 k12 (decide (a0.Word = 1))
 else
 if (decide (a0.Word = 5)) = true then
 k12 (decide (a0.Word = 5))
 else
 k12 (decide (a0.Word = 8))) fun p11 =>
 if p11 = true then
 (some () : Option Unit).bind (fun (p13 : Unit) =>
 some (.inl (())))
 else
 if (decide (a0.Word = 9)) = true then
 (some () : Option Unit).bind (fun (p15 : Unit) =>
 some (.inr (.inl (()))))
 else
 if (decide (a0.Word = 12)) = true then
 (some () : Option Unit).bind (fun (p17 : Unit) =>
 some (.inr (.inr (.inl (())))))
 else
 (fun (k20 : Bool → Option _) => if (decide (a0.Word = 2)) = true then
 k20 (decide (a0.Word = 2))
 else
 k20 (decide (a0.Word = 10))) fun p19 =>
 if p19 = true then
 (some () : Option Unit).bind (fun (p21 : Unit) =>
 some (.inr (.inr (.inr (.inl (((65535 : UInt64), (0 : UInt64))))))))
 else
 if (decide (a0.Word = 3)) = true then
 (some () : Option Unit).bind (fun (p23 : Unit) =>
 some (.inr (.inr (.inr (.inl (((4294967295 : UInt64), (0 : UInt64))))))))
 else
 if (decide (a0.Word = 13)) = true then
 (some () : Option Unit).bind (fun (p25 : Unit) =>
 some (.inr (.inr (.inr (.inl (((1 : UInt64), (1 : UInt64))))))))
 else
 (fun (k28 : Bool → Option _) => if (decide (a0.Word = 14)) = true then
 k28 (decide (a0.Word = 14))
 else
 k28 (decide (a0.Word = 15))) fun p27 =>
 if p27 = true then
 (some () : Option Unit).bind (fun (p29 : Unit) =>
 some (.inr (.inr (.inr (.inl (((18446744073709551615 : UInt64), (0 : UInt64))))))))
 else
 if (decide (a0.Word = 16)) = true then
 (some () : Option Unit).bind (fun (p31 : Unit) =>
 some (.inr (.inr (.inr (.inl (((20 : UInt64), (0 : UInt64))))))))
 else
 (some () : Option Unit).bind (fun (p32 : Unit) =>
 some (.inr (.inr (.inr (.inr (())))))) : Option (Unit ⊕ (Unit ⊕ (Unit ⊕ ((UInt64 × UInt64) ⊕ Unit))))).bind (Sum.elim (fun (p5 : Unit) =>
 (field_keyed_2 a0).bind fun x38 =>
 (fun (k41 : Bool → Option _) => if x38.2 = true then
 (field_keyed_3 a0).bind fun x44 =>
 let x45 := (⟨a0.Word, (T.arr 32 T.u8).z, 0, T_api_Endpoint.z, T_api_Prefix.z⟩ : S_api_Field)
 k41 (cmpB C_api_Field x44 x45)
 else
 k41 false) fun x42 =>
 some x42) (Sum.elim (fun (p6 : Unit) =>
 none) (Sum.elim (fun (p7 : Unit) =>
 none) (Sum.elim (fun (p8 : (UInt64 × UInt64)) =>
 ((decimal_Text a0.N).bind fun x52 =>
 (andO (decide ((p8.2.toNat : Int) ≤ (a0.N.toNat : Int))) (some (decide ((a0.N.toNat : Int) ≤ (p8.1.toNat : Int))))).bind fun x59 =>
 some (x52, x59) : Option (Str × Bool)).bind (fun (p50 : (Str × Bool)) =>
 (fun (k62 : Bool → Option _) => if p50.2 = true then
 (field_counted_3 a0).bind fun x65 =>
 let x66 := (⟨a0.Word, (T.arr 32 T.u8).z, 0, T_api_Endpoint.z, T_api_Prefix.z⟩ : S_api_Field)
 k62 (cmpB C_api_Field x65 x66)
 else
 k62 false) fun x63 =>
 some x63)) (fun (p9 : Unit) =>
 (field_said_2 a0).bind fun x69 =>
 (fun (k72 : Bool → Option _) => if x69.2 = true then
 (field_said_3 a0).bind fun x75 =>
 let x76 := (⟨a0.Word, (T.arr 32 T.u8).z, 0, T_api_Endpoint.z, T_api_Prefix.z⟩ : S_api_Field)
 k72 (cmpB C_api_Field x75 x76)
 else
 k72 false) fun x73 =>
 some x73)))))
noncomputable def sim_field_Right (a : Res [T_api_Field]) : Sim tb ⟨argsT [T_api_Field] 0 a, []⟩ c_field_Right.body [] (QRes [T.b] c_field_Right.res) :=
 Sim.seqI <| Sim.opM (M_box (t := T_api_Field) 1 rfl rfl (o_t rfl)) fun _ =>
 Sim.op1 (h_mv o_b) <|
 Sim.doneS <| Sim.seqI <| Sim.seqI <| Sim.op1 (h_faC (o_t rfl)) <|
 Sim.opn (h_ldC (t := T_api_Field) (u := (T.int .i64)) (o_t rfl) rfl rfl F_api_Field_Word rfl rfl) fun x1 =>
 Sim.op (h_call1 sp_field_Name (.one (o_t rfl))) fun x2 =>
 Sim.op (h_seql (o_t rfl) o_s) fun x3 =>
 Sim.doneS <| Sim.cond (o_t rfl) (
 Sim.seqI <| Sim.op1 (h_mv o_b) <|
 Sim.doneS <| Sim.ret (.one (res_t rfl))) (
 Sim.skip <| Sim.doneS <| Sim.seqI <| Sim.op1 (h_faC (o_t rfl)) <|
 Sim.opn (h_ldC (t := T_api_Field) (u := (T.int .i64)) (o_t rfl) rfl rfl F_api_Field_Word rfl rfl) fun x4 =>
 Sim.inl (τ := (Unit ⊕ (Unit ⊕ (Unit ⊕ ((UInt64 × UInt64) ⊕ Unit))))) (φs := [.val (T.int .i64) x4]) (n := 1) (L := [(1, .cp 1 0)]) (Γr := (Sum.elim (fun p5 => ⟨[(0, .aggk [3600040, 3600041, 3600042])], [(1, .cells [(70, .val T_api_Field a)]), (2000001, .ghost (.cp 1 0)), (3600040, .keep (.fnv (.func fn_field_keyed_1) [] [])), (3600041, .keep (.fnv (.func fn_field_keyed_2) [] [])), (3600042, .keep (.fnv (.func fn_field_keyed_3) [] []))]⟩) (Sum.elim (fun p6 => ⟨[(0, .aggk [3600040, 3600041, 3600042])], [(1, .cells [(70, .val T_api_Field a)]), (2000001, .ghost (.cp 1 0)), (3600040, .keep (.fnv (.func fn_field_ended_1) [] [])), (3600041, .keep (.fnv (.func fn_field_ended_2) [] [])), (3600042, .keep (.fnv (.func fn_field_ended_3) [] []))]⟩) (Sum.elim (fun p7 => ⟨[(0, .aggk [3600040, 3600041, 3600042])], [(1, .cells [(70, .val T_api_Field a)]), (2000001, .ghost (.cp 1 0)), (3600040, .keep (.fnv (.func fn_field_allowed_1) [] [])), (3600041, .keep (.fnv (.func fn_field_allowed_2) [] [])), (3600042, .keep (.fnv (.func fn_field_allowed_3) [] []))]⟩) (Sum.elim (fun p8 => ⟨[(0, .aggk [3600280, 3600281, 3600282])], [(1, .cells [(70, .val T_api_Field a)]), (3, .cells [(1, .val T.u64 p8.1)]), (1002, .cells [(1, .val T.u64 p8.2)]), (2000001, .ghost (.cp 1 0)), (3600200, .keep (.cp 3 0)), (3600201, .keep (.cp 1002 0)), (3600240, .keep (.cp 1002 0)), (3600241, .keep (.cp 3 0)), (3600280, .keep (.fnv (.func fn_field_counted_1) [] [3600200, 3600201])), (3600281, .keep (.fnv (.func fn_field_counted_2) [] [3600240, 3600241])), (3600282, .keep (.fnv (.func fn_field_counted_3) [] []))]⟩) (fun p9 => ⟨[(0, .aggk [3600040, 3600041, 3600042])], [(1, .cells [(70, .val T_api_Field a)]), (2000001, .ghost (.cp 1 0)), (3600040, .keep (.fnv (.func fn_field_said_1) [] [])), (3600041, .keep (.fnv (.func fn_field_said_2) [] [])), (3600042, .keep (.fnv (.func fn_field_said_3) [] []))]⟩)))))) 2000000 (Sum.elim (fun p5 => ⟨[(12, .aggk [3600040, 3600041, 3600042]), (1, .cp 1 0)], [(1, .cells [(70, .val T_api_Field a)]), (3600040, .keep (.fnv (.func fn_field_keyed_1) [] [])), (3600041, .keep (.fnv (.func fn_field_keyed_2) [] [])), (3600042, .keep (.fnv (.func fn_field_keyed_3) [] []))]⟩) (Sum.elim (fun p6 => ⟨[(12, .aggk [3600040, 3600041, 3600042]), (1, .cp 1 0)], [(1, .cells [(70, .val T_api_Field a)]), (3600040, .keep (.fnv (.func fn_field_ended_1) [] [])), (3600041, .keep (.fnv (.func fn_field_ended_2) [] [])), (3600042, .keep (.fnv (.func fn_field_ended_3) [] []))]⟩) (Sum.elim (fun p7 => ⟨[(12, .aggk [3600040, 3600041, 3600042]), (1, .cp 1 0)], [(1, .cells [(70, .val T_api_Field a)]), (3600040, .keep (.fnv (.func fn_field_allowed_1) [] [])), (3600041, .keep (.fnv (.func fn_field_allowed_2) [] [])), (3600042, .keep (.fnv (.func fn_field_allowed_3) [] []))]⟩) (Sum.elim (fun p8 => ⟨[(12, .aggk [3600280, 3600281, 3600282]), (1, .cp 1 0)], [(1, .cells [(70, .val T_api_Field a)]), (3, .cells [(1, .val T.u64 p8.1)]), (1002, .cells [(1, .val T.u64 p8.2)]), (3600200, .keep (.cp 3 0)), (3600201, .keep (.cp 1002 0)), (3600240, .keep (.cp 1002 0)), (3600241, .keep (.cp 3 0)), (3600280, .keep (.fnv (.func fn_field_counted_1) [] [3600200, 3600201])), (3600281, .keep (.fnv (.func fn_field_counted_2) [] [3600240, 3600241])), (3600282, .keep (.fnv (.func fn_field_counted_3) [] []))]⟩) (fun p9 => ⟨[(12, .aggk [3600040, 3600041, 3600042]), (1, .cp 1 0)], [(1, .cells [(70, .val T_api_Field a)]), (3600040, .keep (.fnv (.func fn_field_said_1) [] [])), (3600041, .keep (.fnv (.func fn_field_said_2) [] [])), (3600042, .keep (.fnv (.func fn_field_said_3) [] []))]⟩))))) f_field_shapeOf rfl rfl rfl (c_call rfl) (.cons (s_o (o_t rfl)) <| .nil) ⟨⟨rfl, rfl⟩, trivial⟩ rfl (
 Sim.seqI <| Sim.opM (M_allocP 2 [(1, .con (.nilf)), (1, .con (.nilf)), (1, .con (.nilf))] (fun _ _ _ _ => ⟨([.nilf] : List AV), ([.nilf] ++ ([.nilf] ++ ([])) : List AV), rfl, rfl, ⟨_, rfl, rfl, rfl, rfl⟩, ⟨([.nilf] : List AV), ([.nilf] ++ ([]) : List AV), rfl, rfl, ⟨_, rfl, rfl, rfl, rfl⟩, ⟨([.nilf] : List AV), ([] : List AV), rfl, rfl, ⟨_, rfl, rfl, rfl, rfl⟩, rfl⟩⟩⟩) rfl rfl) fun _ =>
 Sim.doneS <| Sim.seqI <| Sim.seqI <| Sim.op1 (h_mv (o_t rfl)) <|
 Sim.doneS <| Sim.blkI <| Sim.seqI <| Sim.seqI <| Sim.op (h_cmp (I := (IT.int .i64)) rfl (o_t rfl) o_i) fun x10 =>
 Sim.op1 (h_mv (o_t rfl)) <|
 Sim.doneS <| Sim.join (τ := Bool) (fun p11 => ⟨[(2, .cp 2 0), (3, .val (T.int .i64) x4), (4, .val T.b p11)], [(1, .cells [(70, .val T_api_Field a)]), (2, .cells [(1, .con (.nilf)), (1, .con (.nilf)), (1, .con (.nilf))]), (2000001, .ghost (.cp 1 0))]⟩) (fun p11 =>
 Sim.doneS <| Sim.cond (o_t rfl) (
 Sim.seqI <| Sim.inl (τ := Unit) (φs := []) (n := 1) (L := [(2, .cp 2 0)]) (Γr := (fun p13 => ⟨[(0, .aggk [3600040, 3600041, 3600042])], [(1, .cells [(70, .val T_api_Field a)]), (2, .cells [(1, .con (.nilf)), (1, .con (.nilf)), (1, .con (.nilf))]), (2000001, .ghost (.cp 1 0)), (2100002, .ghost (.cp 2 0)), (3600040, .keep (.fnv (.func fn_field_keyed_1) [] [])), (3600041, .keep (.fnv (.func fn_field_keyed_2) [] [])), (3600042, .keep (.fnv (.func fn_field_keyed_3) [] []))]⟩)) 2100000 (fun p13 => ⟨[(8, .aggk [3600040, 3600041, 3600042]), (2, .cp 2 0)], [(1, .cells [(70, .val T_api_Field a)]), (2, .cells [(1, .con (.nilf)), (1, .con (.nilf)), (1, .con (.nilf))]), (2000001, .ghost (.cp 1 0)), (3600040, .keep (.fnv (.func fn_field_keyed_1) [] [])), (3600041, .keep (.fnv (.func fn_field_keyed_2) [] [])), (3600042, .keep (.fnv (.func fn_field_keyed_3) [] []))]⟩) f_field_keyed rfl rfl rfl (c_call rfl) (.nil) ⟨⟨rfl, rfl⟩, trivial⟩ rfl (
 Sim.seqI <| Sim.opM (M_allocP 0 [(1, .con (.nilf)), (1, .con (.nilf)), (1, .con (.nilf))] (fun _ _ _ _ => ⟨([.nilf] : List AV), ([.nilf] ++ ([.nilf] ++ ([])) : List AV), rfl, rfl, ⟨_, rfl, rfl, rfl, rfl⟩, ⟨([.nilf] : List AV), ([.nilf] ++ ([]) : List AV), rfl, rfl, ⟨_, rfl, rfl, rfl, rfl⟩, ⟨([.nilf] : List AV), ([] : List AV), rfl, rfl, ⟨_, rfl, rfl, rfl, rfl⟩, rfl⟩⟩⟩) rfl rfl) fun _ =>
 Sim.doneS <| Sim.seqI <| Sim.opN (M_bldk (φs := [.fnv (.func fn_field_keyed_1) [] [], .fnv (.func fn_field_keyed_2) [] [], .fnv (.func fn_field_keyed_3) [] []]) 3600040 (.cons o_fn <| .cons o_fn <| .cons o_fn <| .nil) rfl rfl ⟨rfl, ⟨rfl, ⟨rfl, trivial⟩⟩⟩ (js := [3600040, 3600041, 3600042]) rfl) <|
 Sim.opM (M_stK (o_t rfl) (o_t rfl) rfl rfl rfl rfl) fun _ =>
 Sim.doneS <| Sim.retIn () (.cons (rg_cK rfl rfl rfl rfl) <| .nil) ⟨⟨⟨rfl, ⟨trivial, ⟨trivial, ⟨trivial, trivial⟩⟩⟩⟩, trivial⟩, ⟨⟨rfl, ⟨trivial, trivial⟩⟩, ⟨⟨rfl, ⟨trivial, ⟨trivial, ⟨trivial, trivial⟩⟩⟩⟩, ⟨⟨rfl, trivial⟩, ⟨⟨rfl, trivial⟩, ⟨⟨rfl, trivial⟩, ⟨⟨rfl, trivial⟩, ⟨⟨rfl, trivial⟩, trivial⟩⟩⟩⟩⟩⟩⟩⟩) (fun p13 => BackOk.some' ⟨⟨rfl, ⟨trivial, trivial⟩⟩, ⟨⟨rfl, ⟨trivial, ⟨trivial, ⟨trivial, trivial⟩⟩⟩⟩, ⟨⟨rfl, trivial⟩, ⟨⟨rfl, trivial⟩, ⟨⟨rfl, trivial⟩, ⟨⟨rfl, trivial⟩, trivial⟩⟩⟩⟩⟩⟩ rfl (.one rfl) ⟨trivial, ⟨trivial, ⟨trivial, trivial⟩⟩⟩ ⟨⟨rfl, trivial⟩, trivial⟩) (.one fun p13 =>
 Sim.opM (M_stK (o_t rfl) (o_t rfl) rfl rfl rfl rfl) fun _ =>
 Sim.doneS <| Sim.retIn (.inl (())) (.cons (rg_cK rfl rfl rfl rfl) <| .nil) ⟨⟨⟨rfl, ⟨trivial, ⟨trivial, ⟨trivial, trivial⟩⟩⟩⟩, trivial⟩, ⟨⟨rfl, ⟨trivial, trivial⟩⟩, ⟨⟨rfl, trivial⟩, ⟨⟨rfl, trivial⟩, ⟨⟨rfl, trivial⟩, ⟨⟨rfl, trivial⟩, trivial⟩⟩⟩⟩⟩⟩)) (
 Sim.seqI <| Sim.op (h_cmp (I := (IT.int .i64)) rfl (o_t rfl) o_i) fun x14 =>
 Sim.op1 (h_mv (o_t rfl)) <|
 Sim.doneS <| Sim.cond (o_t rfl) (
 Sim.seqI <| Sim.inl (τ := Unit) (φs := []) (n := 1) (L := [(2, .cp 2 0)]) (Γr := (fun p15 => ⟨[(0, .aggk [3600040, 3600041, 3600042])], [(1, .cells [(70, .val T_api_Field a)]), (2, .cells [(1, .con (.nilf)), (1, .con (.nilf)), (1, .con (.nilf))]), (2000001, .ghost (.cp 1 0)), (2100002, .ghost (.cp 2 0)), (3600040, .keep (.fnv (.func fn_field_ended_1) [] [])), (3600041, .keep (.fnv (.func fn_field_ended_2) [] [])), (3600042, .keep (.fnv (.func fn_field_ended_3) [] []))]⟩)) 2100000 (fun p15 => ⟨[(11, .aggk [3600040, 3600041, 3600042]), (2, .cp 2 0)], [(1, .cells [(70, .val T_api_Field a)]), (2, .cells [(1, .con (.nilf)), (1, .con (.nilf)), (1, .con (.nilf))]), (2000001, .ghost (.cp 1 0)), (3600040, .keep (.fnv (.func fn_field_ended_1) [] [])), (3600041, .keep (.fnv (.func fn_field_ended_2) [] [])), (3600042, .keep (.fnv (.func fn_field_ended_3) [] []))]⟩) f_field_ended rfl rfl rfl (c_call rfl) (.nil) ⟨⟨rfl, rfl⟩, trivial⟩ rfl (
 Sim.seqI <| Sim.opM (M_allocP 0 [(1, .con (.nilf)), (1, .con (.nilf)), (1, .con (.nilf))] (fun _ _ _ _ => ⟨([.nilf] : List AV), ([.nilf] ++ ([.nilf] ++ ([])) : List AV), rfl, rfl, ⟨_, rfl, rfl, rfl, rfl⟩, ⟨([.nilf] : List AV), ([.nilf] ++ ([]) : List AV), rfl, rfl, ⟨_, rfl, rfl, rfl, rfl⟩, ⟨([.nilf] : List AV), ([] : List AV), rfl, rfl, ⟨_, rfl, rfl, rfl, rfl⟩, rfl⟩⟩⟩) rfl rfl) fun _ =>
 Sim.doneS <| Sim.seqI <| Sim.opN (M_bldk (φs := [.fnv (.func fn_field_ended_1) [] [], .fnv (.func fn_field_ended_2) [] [], .fnv (.func fn_field_ended_3) [] []]) 3600040 (.cons o_fn <| .cons o_fn <| .cons o_fn <| .nil) rfl rfl ⟨rfl, ⟨rfl, ⟨rfl, trivial⟩⟩⟩ (js := [3600040, 3600041, 3600042]) rfl) <|
 Sim.opM (M_stK (o_t rfl) (o_t rfl) rfl rfl rfl rfl) fun _ =>
 Sim.doneS <| Sim.retIn () (.cons (rg_cK rfl rfl rfl rfl) <| .nil) ⟨⟨⟨rfl, ⟨trivial, ⟨trivial, ⟨trivial, trivial⟩⟩⟩⟩, trivial⟩, ⟨⟨rfl, ⟨trivial, trivial⟩⟩, ⟨⟨rfl, ⟨trivial, ⟨trivial, ⟨trivial, trivial⟩⟩⟩⟩, ⟨⟨rfl, trivial⟩, ⟨⟨rfl, trivial⟩, ⟨⟨rfl, trivial⟩, ⟨⟨rfl, trivial⟩, ⟨⟨rfl, trivial⟩, trivial⟩⟩⟩⟩⟩⟩⟩⟩) (fun p15 => BackOk.some' ⟨⟨rfl, ⟨trivial, trivial⟩⟩, ⟨⟨rfl, ⟨trivial, ⟨trivial, ⟨trivial, trivial⟩⟩⟩⟩, ⟨⟨rfl, trivial⟩, ⟨⟨rfl, trivial⟩, ⟨⟨rfl, trivial⟩, ⟨⟨rfl, trivial⟩, trivial⟩⟩⟩⟩⟩⟩ rfl (.one rfl) ⟨trivial, ⟨trivial, ⟨trivial, trivial⟩⟩⟩ ⟨⟨rfl, trivial⟩, trivial⟩) (.one fun p15 =>
 Sim.opM (M_stK (o_t rfl) (o_t rfl) rfl rfl rfl rfl) fun _ =>
 Sim.doneS <| Sim.retIn (.inr (.inl (()))) (.cons (rg_cK rfl rfl rfl rfl) <| .nil) ⟨⟨⟨rfl, ⟨trivial, ⟨trivial, ⟨trivial, trivial⟩⟩⟩⟩, trivial⟩, ⟨⟨rfl, ⟨trivial, trivial⟩⟩, ⟨⟨rfl, trivial⟩, ⟨⟨rfl, trivial⟩, ⟨⟨rfl, trivial⟩, ⟨⟨rfl, trivial⟩, trivial⟩⟩⟩⟩⟩⟩)) (
 Sim.seqI <| Sim.op (h_cmp (I := (IT.int .i64)) rfl (o_t rfl) o_i) fun x16 =>
 Sim.op1 (h_mv (o_t rfl)) <|
 Sim.doneS <| Sim.cond (o_t rfl) (
 Sim.seqI <| Sim.inl (τ := Unit) (φs := []) (n := 1) (L := [(2, .cp 2 0)]) (Γr := (fun p17 => ⟨[(0, .aggk [3600040, 3600041, 3600042])], [(1, .cells [(70, .val T_api_Field a)]), (2, .cells [(1, .con (.nilf)), (1, .con (.nilf)), (1, .con (.nilf))]), (2000001, .ghost (.cp 1 0)), (2100002, .ghost (.cp 2 0)), (3600040, .keep (.fnv (.func fn_field_allowed_1) [] [])), (3600041, .keep (.fnv (.func fn_field_allowed_2) [] [])), (3600042, .keep (.fnv (.func fn_field_allowed_3) [] []))]⟩)) 2100000 (fun p17 => ⟨[(14, .aggk [3600040, 3600041, 3600042]), (2, .cp 2 0)], [(1, .cells [(70, .val T_api_Field a)]), (2, .cells [(1, .con (.nilf)), (1, .con (.nilf)), (1, .con (.nilf))]), (2000001, .ghost (.cp 1 0)), (3600040, .keep (.fnv (.func fn_field_allowed_1) [] [])), (3600041, .keep (.fnv (.func fn_field_allowed_2) [] [])), (3600042, .keep (.fnv (.func fn_field_allowed_3) [] []))]⟩) f_field_allowed rfl rfl rfl (c_call rfl) (.nil) ⟨⟨rfl, rfl⟩, trivial⟩ rfl (
 Sim.seqI <| Sim.opM (M_allocP 0 [(1, .con (.nilf)), (1, .con (.nilf)), (1, .con (.nilf))] (fun _ _ _ _ => ⟨([.nilf] : List AV), ([.nilf] ++ ([.nilf] ++ ([])) : List AV), rfl, rfl, ⟨_, rfl, rfl, rfl, rfl⟩, ⟨([.nilf] : List AV), ([.nilf] ++ ([]) : List AV), rfl, rfl, ⟨_, rfl, rfl, rfl, rfl⟩, ⟨([.nilf] : List AV), ([] : List AV), rfl, rfl, ⟨_, rfl, rfl, rfl, rfl⟩, rfl⟩⟩⟩) rfl rfl) fun _ =>
 Sim.doneS <| Sim.seqI <| Sim.opN (M_bldk (φs := [.fnv (.func fn_field_allowed_1) [] [], .fnv (.func fn_field_allowed_2) [] [], .fnv (.func fn_field_allowed_3) [] []]) 3600040 (.cons o_fn <| .cons o_fn <| .cons o_fn <| .nil) rfl rfl ⟨rfl, ⟨rfl, ⟨rfl, trivial⟩⟩⟩ (js := [3600040, 3600041, 3600042]) rfl) <|
 Sim.opM (M_stK (o_t rfl) (o_t rfl) rfl rfl rfl rfl) fun _ =>
 Sim.doneS <| Sim.retIn () (.cons (rg_cK rfl rfl rfl rfl) <| .nil) ⟨⟨⟨rfl, ⟨trivial, ⟨trivial, ⟨trivial, trivial⟩⟩⟩⟩, trivial⟩, ⟨⟨rfl, ⟨trivial, trivial⟩⟩, ⟨⟨rfl, ⟨trivial, ⟨trivial, ⟨trivial, trivial⟩⟩⟩⟩, ⟨⟨rfl, trivial⟩, ⟨⟨rfl, trivial⟩, ⟨⟨rfl, trivial⟩, ⟨⟨rfl, trivial⟩, ⟨⟨rfl, trivial⟩, trivial⟩⟩⟩⟩⟩⟩⟩⟩) (fun p17 => BackOk.some' ⟨⟨rfl, ⟨trivial, trivial⟩⟩, ⟨⟨rfl, ⟨trivial, ⟨trivial, ⟨trivial, trivial⟩⟩⟩⟩, ⟨⟨rfl, trivial⟩, ⟨⟨rfl, trivial⟩, ⟨⟨rfl, trivial⟩, ⟨⟨rfl, trivial⟩, trivial⟩⟩⟩⟩⟩⟩ rfl (.one rfl) ⟨trivial, ⟨trivial, ⟨trivial, trivial⟩⟩⟩ ⟨⟨rfl, trivial⟩, trivial⟩) (.one fun p17 =>
 Sim.opM (M_stK (o_t rfl) (o_t rfl) rfl rfl rfl rfl) fun _ =>
 Sim.doneS <| Sim.retIn (.inr (.inr (.inl (())))) (.cons (rg_cK rfl rfl rfl rfl) <| .nil) ⟨⟨⟨rfl, ⟨trivial, ⟨trivial, ⟨trivial, trivial⟩⟩⟩⟩, trivial⟩, ⟨⟨rfl, ⟨trivial, trivial⟩⟩, ⟨⟨rfl, trivial⟩, ⟨⟨rfl, trivial⟩, ⟨⟨rfl, trivial⟩, ⟨⟨rfl, trivial⟩, trivial⟩⟩⟩⟩⟩⟩)) (
 Sim.seqI <| Sim.seqI <| Sim.op (h_cmp (I := (IT.int .i64)) rfl (o_t rfl) o_i) fun x18 =>
 Sim.op1 (h_mv (o_t rfl)) <|
 Sim.doneS <| Sim.join (τ := Bool) (fun p19 => ⟨[(2, .cp 2 0), (3, .val (T.int .i64) x4), (15, .val T.b p19)], [(1, .cells [(70, .val T_api_Field a)]), (2, .cells [(1, .con (.nilf)), (1, .con (.nilf)), (1, .con (.nilf))]), (2000001, .ghost (.cp 1 0))]⟩) (fun p19 =>
 Sim.doneS <| Sim.cond (o_t rfl) (
 Sim.seqI <| Sim.inl (τ := Unit) (φs := [.val T.u64 (0 : UInt64), .val T.u64 (65535 : UInt64)]) (n := 1) (L := [(2, .cp 2 0)]) (Γr := (fun p21 => ⟨[(0, .aggk [3600280, 3600281, 3600282])], [(1, .cells [(70, .val T_api_Field a)]), (2, .cells [(1, .con (.nilf)), (1, .con (.nilf)), (1, .con (.nilf))]), (3, .cells [(1, .val T.u64 (65535 : UInt64))]), (1002, .cells [(1, .val T.u64 (0 : UInt64))]), (2000001, .ghost (.cp 1 0)), (2100002, .ghost (.cp 2 0)), (3600200, .keep (.cp 3 0)), (3600201, .keep (.cp 1002 0)), (3600240, .keep (.cp 1002 0)), (3600241, .keep (.cp 3 0)), (3600280, .keep (.fnv (.func fn_field_counted_1) [] [3600200, 3600201])), (3600281, .keep (.fnv (.func fn_field_counted_2) [] [3600240, 3600241])), (3600282, .keep (.fnv (.func fn_field_counted_3) [] []))]⟩)) 2100000 (fun p21 => ⟨[(18, .aggk [3600280, 3600281, 3600282]), (2, .cp 2 0)], [(1, .cells [(70, .val T_api_Field a)]), (2, .cells [(1, .con (.nilf)), (1, .con (.nilf)), (1, .con (.nilf))]), (3, .cells [(1, .val T.u64 (65535 : UInt64))]), (1002, .cells [(1, .val T.u64 (0 : UInt64))]), (2000001, .ghost (.cp 1 0)), (3600200, .keep (.cp 3 0)), (3600201, .keep (.cp 1002 0)), (3600240, .keep (.cp 1002 0)), (3600241, .keep (.cp 3 0)), (3600280, .keep (.fnv (.func fn_field_counted_1) [] [3600200, 3600201])), (3600281, .keep (.fnv (.func fn_field_counted_2) [] [3600240, 3600241])), (3600282, .keep (.fnv (.func fn_field_counted_3) [] []))]⟩) f_field_counted rfl rfl rfl (c_call rfl) (.cons (s_o (o_u64 0 rfl)) <| .cons (s_o (o_u64 65535 rfl)) <| .nil) ⟨⟨rfl, rfl⟩, trivial⟩ rfl (
 Sim.seqI <| Sim.opM (M_box (t := T.u64) 1002 rfl rfl (o_t rfl)) fun _ =>
 Sim.opM (M_box (t := T.u64) 3 rfl rfl (o_t rfl)) fun _ =>
 Sim.opM (M_allocP 4 [(1, .con (.nilf)), (1, .con (.nilf)), (1, .con (.nilf))] (fun _ _ _ _ => ⟨([.nilf] : List AV), ([.nilf] ++ ([.nilf] ++ ([])) : List AV), rfl, rfl, ⟨_, rfl, rfl, rfl, rfl⟩, ⟨([.nilf] : List AV), ([.nilf] ++ ([]) : List AV), rfl, rfl, ⟨_, rfl, rfl, rfl, rfl⟩, ⟨([.nilf] : List AV), ([] : List AV), rfl, rfl, ⟨_, rfl, rfl, rfl, rfl⟩, rfl⟩⟩⟩) rfl rfl) fun _ =>
 Sim.doneS <| Sim.seqI <| Sim.opN (M_mkf (φs := []) (ψs := [.cp 3 0, .cp 1002 0]) 3600200 (.nil) (.cons (o_t rfl) <| .cons (o_t rfl) <| .nil) rfl ⟨rfl, ⟨rfl, trivial⟩⟩ (js := []) (ks := [3600200, 3600201]) rfl rfl) <|
 Sim.opN (M_mkf (φs := []) (ψs := [.cp 1002 0, .cp 3 0]) 3600240 (.nil) (.cons (o_t rfl) <| .cons (o_t rfl) <| .nil) rfl ⟨rfl, ⟨rfl, trivial⟩⟩ (js := []) (ks := [3600240, 3600241]) rfl rfl) <|
 Sim.opN (M_bldk (φs := [.fnv (.func fn_field_counted_1) [] [3600200, 3600201], .fnv (.func fn_field_counted_2) [] [3600240, 3600241], .fnv (.func fn_field_counted_3) [] []]) 3600280 (.cons (o_t rfl) <| .cons (o_t rfl) <| .cons o_fn <| .nil) rfl rfl ⟨rfl, ⟨rfl, ⟨rfl, trivial⟩⟩⟩ (js := [3600280, 3600281, 3600282]) rfl) <|
 Sim.opM (M_stK (o_t rfl) (o_t rfl) rfl rfl rfl rfl) fun _ =>
 Sim.doneS <| Sim.retIn () (.cons (rg_cK rfl rfl rfl rfl) <| .nil) ⟨⟨⟨rfl, ⟨trivial, ⟨trivial, ⟨trivial, trivial⟩⟩⟩⟩, trivial⟩, ⟨⟨rfl, ⟨trivial, trivial⟩⟩, ⟨⟨rfl, ⟨trivial, ⟨trivial, ⟨trivial, trivial⟩⟩⟩⟩, ⟨⟨rfl, ⟨trivial, trivial⟩⟩, ⟨⟨rfl, ⟨trivial, trivial⟩⟩, ⟨⟨rfl, trivial⟩, ⟨⟨rfl, trivial⟩, ⟨⟨rfl, trivial⟩, ⟨⟨rfl, trivial⟩, ⟨⟨rfl, trivial⟩, ⟨⟨rfl, trivial⟩, ⟨⟨rfl, ⟨trivial, ⟨trivial, trivial⟩⟩⟩, ⟨⟨rfl, ⟨trivial, ⟨trivial, trivial⟩⟩⟩, ⟨⟨rfl, trivial⟩, trivial⟩⟩⟩⟩⟩⟩⟩⟩⟩⟩⟩⟩⟩⟩) (fun p21 => BackOk.some' ⟨⟨rfl, ⟨trivial, trivial⟩⟩, ⟨⟨rfl, ⟨trivial, ⟨trivial, ⟨trivial, trivial⟩⟩⟩⟩, ⟨⟨rfl, ⟨trivial, trivial⟩⟩, ⟨⟨rfl, ⟨trivial, trivial⟩⟩, ⟨⟨rfl, trivial⟩, ⟨⟨rfl, trivial⟩, ⟨⟨rfl, trivial⟩, ⟨⟨rfl, trivial⟩, ⟨⟨rfl, trivial⟩, ⟨⟨rfl, ⟨trivial, ⟨trivial, trivial⟩⟩⟩, ⟨⟨rfl, ⟨trivial, ⟨trivial, trivial⟩⟩⟩, ⟨⟨rfl, trivial⟩, trivial⟩⟩⟩⟩⟩⟩⟩⟩⟩⟩⟩⟩ rfl (.one rfl) ⟨trivial, ⟨trivial, ⟨trivial, trivial⟩⟩⟩ ⟨⟨rfl, trivial⟩, trivial⟩) (.one fun p21 =>
 Sim.opM (M_stK (o_t rfl) (o_t rfl) rfl rfl rfl rfl) fun _ =>
 Sim.doneS <| Sim.retIn (.inr (.inr (.inr (.inl (((65535 : UInt64), (0 : UInt64))))))) (.cons (rg_cK rfl rfl rfl rfl) <| .nil) ⟨⟨⟨rfl, ⟨trivial, ⟨trivial, ⟨trivial, trivial⟩⟩⟩⟩, trivial⟩, ⟨⟨rfl, ⟨trivial, trivial⟩⟩, ⟨⟨rfl, ⟨trivial, trivial⟩⟩, ⟨⟨rfl, ⟨trivial, trivial⟩⟩, ⟨⟨rfl, trivial⟩, ⟨⟨rfl, trivial⟩, ⟨⟨rfl, trivial⟩, ⟨⟨rfl, trivial⟩, ⟨⟨rfl, trivial⟩, ⟨⟨rfl, ⟨trivial, ⟨trivial, trivial⟩⟩⟩, ⟨⟨rfl, ⟨trivial, ⟨trivial, trivial⟩⟩⟩, ⟨⟨rfl, trivial⟩, trivial⟩⟩⟩⟩⟩⟩⟩⟩⟩⟩⟩⟩)) (
 Sim.seqI <| Sim.op (h_cmp (I := (IT.int .i64)) rfl (o_t rfl) o_i) fun x22 =>
 Sim.op1 (h_mv (o_t rfl)) <|
 Sim.doneS <| Sim.cond (o_t rfl) (
 Sim.seqI <| Sim.inl (τ := Unit) (φs := [.val T.u64 (0 : UInt64), .val T.u64 (4294967295 : UInt64)]) (n := 1) (L := [(2, .cp 2 0)]) (Γr := (fun p23 => ⟨[(0, .aggk [3600280, 3600281, 3600282])], [(1, .cells [(70, .val T_api_Field a)]), (2, .cells [(1, .con (.nilf)), (1, .con (.nilf)), (1, .con (.nilf))]), (3, .cells [(1, .val T.u64 (4294967295 : UInt64))]), (1002, .cells [(1, .val T.u64 (0 : UInt64))]), (2000001, .ghost (.cp 1 0)), (2100002, .ghost (.cp 2 0)), (3600200, .keep (.cp 3 0)), (3600201, .keep (.cp 1002 0)), (3600240, .keep (.cp 1002 0)), (3600241, .keep (.cp 3 0)), (3600280, .keep (.fnv (.func fn_field_counted_1) [] [3600200, 3600201])), (3600281, .keep (.fnv (.func fn_field_counted_2) [] [3600240, 3600241])), (3600282, .keep (.fnv (.func fn_field_counted_3) [] []))]⟩)) 2100000 (fun p23 => ⟨[(21, .aggk [3600280, 3600281, 3600282]), (2, .cp 2 0)], [(1, .cells [(70, .val T_api_Field a)]), (2, .cells [(1, .con (.nilf)), (1, .con (.nilf)), (1, .con (.nilf))]), (3, .cells [(1, .val T.u64 (4294967295 : UInt64))]), (1002, .cells [(1, .val T.u64 (0 : UInt64))]), (2000001, .ghost (.cp 1 0)), (3600200, .keep (.cp 3 0)), (3600201, .keep (.cp 1002 0)), (3600240, .keep (.cp 1002 0)), (3600241, .keep (.cp 3 0)), (3600280, .keep (.fnv (.func fn_field_counted_1) [] [3600200, 3600201])), (3600281, .keep (.fnv (.func fn_field_counted_2) [] [3600240, 3600241])), (3600282, .keep (.fnv (.func fn_field_counted_3) [] []))]⟩) f_field_counted rfl rfl rfl (c_call rfl) (.cons (s_o (o_u64 0 rfl)) <| .cons (s_o (o_u64 4294967295 rfl)) <| .nil) ⟨⟨rfl, rfl⟩, trivial⟩ rfl (
 Sim.seqI <| Sim.opM (M_box (t := T.u64) 1002 rfl rfl (o_t rfl)) fun _ =>
 Sim.opM (M_box (t := T.u64) 3 rfl rfl (o_t rfl)) fun _ =>
 Sim.opM (M_allocP 4 [(1, .con (.nilf)), (1, .con (.nilf)), (1, .con (.nilf))] (fun _ _ _ _ => ⟨([.nilf] : List AV), ([.nilf] ++ ([.nilf] ++ ([])) : List AV), rfl, rfl, ⟨_, rfl, rfl, rfl, rfl⟩, ⟨([.nilf] : List AV), ([.nilf] ++ ([]) : List AV), rfl, rfl, ⟨_, rfl, rfl, rfl, rfl⟩, ⟨([.nilf] : List AV), ([] : List AV), rfl, rfl, ⟨_, rfl, rfl, rfl, rfl⟩, rfl⟩⟩⟩) rfl rfl) fun _ =>
 Sim.doneS <| Sim.seqI <| Sim.opN (M_mkf (φs := []) (ψs := [.cp 3 0, .cp 1002 0]) 3600200 (.nil) (.cons (o_t rfl) <| .cons (o_t rfl) <| .nil) rfl ⟨rfl, ⟨rfl, trivial⟩⟩ (js := []) (ks := [3600200, 3600201]) rfl rfl) <|
 Sim.opN (M_mkf (φs := []) (ψs := [.cp 1002 0, .cp 3 0]) 3600240 (.nil) (.cons (o_t rfl) <| .cons (o_t rfl) <| .nil) rfl ⟨rfl, ⟨rfl, trivial⟩⟩ (js := []) (ks := [3600240, 3600241]) rfl rfl) <|
 Sim.opN (M_bldk (φs := [.fnv (.func fn_field_counted_1) [] [3600200, 3600201], .fnv (.func fn_field_counted_2) [] [3600240, 3600241], .fnv (.func fn_field_counted_3) [] []]) 3600280 (.cons (o_t rfl) <| .cons (o_t rfl) <| .cons o_fn <| .nil) rfl rfl ⟨rfl, ⟨rfl, ⟨rfl, trivial⟩⟩⟩ (js := [3600280, 3600281, 3600282]) rfl) <|
 Sim.opM (M_stK (o_t rfl) (o_t rfl) rfl rfl rfl rfl) fun _ =>
 Sim.doneS <| Sim.retIn () (.cons (rg_cK rfl rfl rfl rfl) <| .nil) ⟨⟨⟨rfl, ⟨trivial, ⟨trivial, ⟨trivial, trivial⟩⟩⟩⟩, trivial⟩, ⟨⟨rfl, ⟨trivial, trivial⟩⟩, ⟨⟨rfl, ⟨trivial, ⟨trivial, ⟨trivial, trivial⟩⟩⟩⟩, ⟨⟨rfl, ⟨trivial, trivial⟩⟩, ⟨⟨rfl, ⟨trivial, trivial⟩⟩, ⟨⟨rfl, trivial⟩, ⟨⟨rfl, trivial⟩, ⟨⟨rfl, trivial⟩, ⟨⟨rfl, trivial⟩, ⟨⟨rfl, trivial⟩, ⟨⟨rfl, trivial⟩, ⟨⟨rfl, ⟨trivial, ⟨trivial, trivial⟩⟩⟩, ⟨⟨rfl, ⟨trivial, ⟨trivial, trivial⟩⟩⟩, ⟨⟨rfl, trivial⟩, trivial⟩⟩⟩⟩⟩⟩⟩⟩⟩⟩⟩⟩⟩⟩) (fun p23 => BackOk.some' ⟨⟨rfl, ⟨trivial, trivial⟩⟩, ⟨⟨rfl, ⟨trivial, ⟨trivial, ⟨trivial, trivial⟩⟩⟩⟩, ⟨⟨rfl, ⟨trivial, trivial⟩⟩, ⟨⟨rfl, ⟨trivial, trivial⟩⟩, ⟨⟨rfl, trivial⟩, ⟨⟨rfl, trivial⟩, ⟨⟨rfl, trivial⟩, ⟨⟨rfl, trivial⟩, ⟨⟨rfl, trivial⟩, ⟨⟨rfl, ⟨trivial, ⟨trivial, trivial⟩⟩⟩, ⟨⟨rfl, ⟨trivial, ⟨trivial, trivial⟩⟩⟩, ⟨⟨rfl, trivial⟩, trivial⟩⟩⟩⟩⟩⟩⟩⟩⟩⟩⟩⟩ rfl (.one rfl) ⟨trivial, ⟨trivial, ⟨trivial, trivial⟩⟩⟩ ⟨⟨rfl, trivial⟩, trivial⟩) (.one fun p23 =>
 Sim.opM (M_stK (o_t rfl) (o_t rfl) rfl rfl rfl rfl) fun _ =>
 Sim.doneS <| Sim.retIn (.inr (.inr (.inr (.inl (((4294967295 : UInt64), (0 : UInt64))))))) (.cons (rg_cK rfl rfl rfl rfl) <| .nil) ⟨⟨⟨rfl, ⟨trivial, ⟨trivial, ⟨trivial, trivial⟩⟩⟩⟩, trivial⟩, ⟨⟨rfl, ⟨trivial, trivial⟩⟩, ⟨⟨rfl, ⟨trivial, trivial⟩⟩, ⟨⟨rfl, ⟨trivial, trivial⟩⟩, ⟨⟨rfl, trivial⟩, ⟨⟨rfl, trivial⟩, ⟨⟨rfl, trivial⟩, ⟨⟨rfl, trivial⟩, ⟨⟨rfl, trivial⟩, ⟨⟨rfl, ⟨trivial, ⟨trivial, trivial⟩⟩⟩, ⟨⟨rfl, ⟨trivial, ⟨trivial, trivial⟩⟩⟩, ⟨⟨rfl, trivial⟩, trivial⟩⟩⟩⟩⟩⟩⟩⟩⟩⟩⟩⟩)) (
 Sim.seqI <| Sim.op (h_cmp (I := (IT.int .i64)) rfl (o_t rfl) o_i) fun x24 =>
 Sim.op1 (h_mv (o_t rfl)) <|
 Sim.doneS <| Sim.cond (o_t rfl) (
 Sim.seqI <| Sim.inl (τ := Unit) (φs := [.val T.u64 (1 : UInt64), .val T.u64 (1 : UInt64)]) (n := 1) (L := [(2, .cp 2 0)]) (Γr := (fun p25 => ⟨[(0, .aggk [3600280, 3600281, 3600282])], [(1, .cells [(70, .val T_api_Field a)]), (2, .cells [(1, .con (.nilf)), (1, .con (.nilf)), (1, .con (.nilf))]), (3, .cells [(1, .val T.u64 (1 : UInt64))]), (1002, .cells [(1, .val T.u64 (1 : UInt64))]), (2000001, .ghost (.cp 1 0)), (2100002, .ghost (.cp 2 0)), (3600200, .keep (.cp 3 0)), (3600201, .keep (.cp 1002 0)), (3600240, .keep (.cp 1002 0)), (3600241, .keep (.cp 3 0)), (3600280, .keep (.fnv (.func fn_field_counted_1) [] [3600200, 3600201])), (3600281, .keep (.fnv (.func fn_field_counted_2) [] [3600240, 3600241])), (3600282, .keep (.fnv (.func fn_field_counted_3) [] []))]⟩)) 2100000 (fun p25 => ⟨[(24, .aggk [3600280, 3600281, 3600282]), (2, .cp 2 0)], [(1, .cells [(70, .val T_api_Field a)]), (2, .cells [(1, .con (.nilf)), (1, .con (.nilf)), (1, .con (.nilf))]), (3, .cells [(1, .val T.u64 (1 : UInt64))]), (1002, .cells [(1, .val T.u64 (1 : UInt64))]), (2000001, .ghost (.cp 1 0)), (3600200, .keep (.cp 3 0)), (3600201, .keep (.cp 1002 0)), (3600240, .keep (.cp 1002 0)), (3600241, .keep (.cp 3 0)), (3600280, .keep (.fnv (.func fn_field_counted_1) [] [3600200, 3600201])), (3600281, .keep (.fnv (.func fn_field_counted_2) [] [3600240, 3600241])), (3600282, .keep (.fnv (.func fn_field_counted_3) [] []))]⟩) f_field_counted rfl rfl rfl (c_call rfl) (.cons (s_o (o_u64 1 rfl)) <| .cons (s_o (o_u64 1 rfl)) <| .nil) ⟨⟨rfl, rfl⟩, trivial⟩ rfl (
 Sim.seqI <| Sim.opM (M_box (t := T.u64) 1002 rfl rfl (o_t rfl)) fun _ =>
 Sim.opM (M_box (t := T.u64) 3 rfl rfl (o_t rfl)) fun _ =>
 Sim.opM (M_allocP 4 [(1, .con (.nilf)), (1, .con (.nilf)), (1, .con (.nilf))] (fun _ _ _ _ => ⟨([.nilf] : List AV), ([.nilf] ++ ([.nilf] ++ ([])) : List AV), rfl, rfl, ⟨_, rfl, rfl, rfl, rfl⟩, ⟨([.nilf] : List AV), ([.nilf] ++ ([]) : List AV), rfl, rfl, ⟨_, rfl, rfl, rfl, rfl⟩, ⟨([.nilf] : List AV), ([] : List AV), rfl, rfl, ⟨_, rfl, rfl, rfl, rfl⟩, rfl⟩⟩⟩) rfl rfl) fun _ =>
 Sim.doneS <| Sim.seqI <| Sim.opN (M_mkf (φs := []) (ψs := [.cp 3 0, .cp 1002 0]) 3600200 (.nil) (.cons (o_t rfl) <| .cons (o_t rfl) <| .nil) rfl ⟨rfl, ⟨rfl, trivial⟩⟩ (js := []) (ks := [3600200, 3600201]) rfl rfl) <|
 Sim.opN (M_mkf (φs := []) (ψs := [.cp 1002 0, .cp 3 0]) 3600240 (.nil) (.cons (o_t rfl) <| .cons (o_t rfl) <| .nil) rfl ⟨rfl, ⟨rfl, trivial⟩⟩ (js := []) (ks := [3600240, 3600241]) rfl rfl) <|
 Sim.opN (M_bldk (φs := [.fnv (.func fn_field_counted_1) [] [3600200, 3600201], .fnv (.func fn_field_counted_2) [] [3600240, 3600241], .fnv (.func fn_field_counted_3) [] []]) 3600280 (.cons (o_t rfl) <| .cons (o_t rfl) <| .cons o_fn <| .nil) rfl rfl ⟨rfl, ⟨rfl, ⟨rfl, trivial⟩⟩⟩ (js := [3600280, 3600281, 3600282]) rfl) <|
 Sim.opM (M_stK (o_t rfl) (o_t rfl) rfl rfl rfl rfl) fun _ =>
 Sim.doneS <| Sim.retIn () (.cons (rg_cK rfl rfl rfl rfl) <| .nil) ⟨⟨⟨rfl, ⟨trivial, ⟨trivial, ⟨trivial, trivial⟩⟩⟩⟩, trivial⟩, ⟨⟨rfl, ⟨trivial, trivial⟩⟩, ⟨⟨rfl, ⟨trivial, ⟨trivial, ⟨trivial, trivial⟩⟩⟩⟩, ⟨⟨rfl, ⟨trivial, trivial⟩⟩, ⟨⟨rfl, ⟨trivial, trivial⟩⟩, ⟨⟨rfl, trivial⟩, ⟨⟨rfl, trivial⟩, ⟨⟨rfl, trivial⟩, ⟨⟨rfl, trivial⟩, ⟨⟨rfl, trivial⟩, ⟨⟨rfl, trivial⟩, ⟨⟨rfl, ⟨trivial, ⟨trivial, trivial⟩⟩⟩, ⟨⟨rfl, ⟨trivial, ⟨trivial, trivial⟩⟩⟩, ⟨⟨rfl, trivial⟩, trivial⟩⟩⟩⟩⟩⟩⟩⟩⟩⟩⟩⟩⟩⟩) (fun p25 => BackOk.some' ⟨⟨rfl, ⟨trivial, trivial⟩⟩, ⟨⟨rfl, ⟨trivial, ⟨trivial, ⟨trivial, trivial⟩⟩⟩⟩, ⟨⟨rfl, ⟨trivial, trivial⟩⟩, ⟨⟨rfl, ⟨trivial, trivial⟩⟩, ⟨⟨rfl, trivial⟩, ⟨⟨rfl, trivial⟩, ⟨⟨rfl, trivial⟩, ⟨⟨rfl, trivial⟩, ⟨⟨rfl, trivial⟩, ⟨⟨rfl, ⟨trivial, ⟨trivial, trivial⟩⟩⟩, ⟨⟨rfl, ⟨trivial, ⟨trivial, trivial⟩⟩⟩, ⟨⟨rfl, trivial⟩, trivial⟩⟩⟩⟩⟩⟩⟩⟩⟩⟩⟩⟩ rfl (.one rfl) ⟨trivial, ⟨trivial, ⟨trivial, trivial⟩⟩⟩ ⟨⟨rfl, trivial⟩, trivial⟩) (.one fun p25 =>
 Sim.opM (M_stK (o_t rfl) (o_t rfl) rfl rfl rfl rfl) fun _ =>
 Sim.doneS <| Sim.retIn (.inr (.inr (.inr (.inl (((1 : UInt64), (1 : UInt64))))))) (.cons (rg_cK rfl rfl rfl rfl) <| .nil) ⟨⟨⟨rfl, ⟨trivial, ⟨trivial, ⟨trivial, trivial⟩⟩⟩⟩, trivial⟩, ⟨⟨rfl, ⟨trivial, trivial⟩⟩, ⟨⟨rfl, ⟨trivial, trivial⟩⟩, ⟨⟨rfl, ⟨trivial, trivial⟩⟩, ⟨⟨rfl, trivial⟩, ⟨⟨rfl, trivial⟩, ⟨⟨rfl, trivial⟩, ⟨⟨rfl, trivial⟩, ⟨⟨rfl, trivial⟩, ⟨⟨rfl, ⟨trivial, ⟨trivial, trivial⟩⟩⟩, ⟨⟨rfl, ⟨trivial, ⟨trivial, trivial⟩⟩⟩, ⟨⟨rfl, trivial⟩, trivial⟩⟩⟩⟩⟩⟩⟩⟩⟩⟩⟩⟩)) (
 Sim.seqI <| Sim.seqI <| Sim.op (h_cmp (I := (IT.int .i64)) rfl (o_t rfl) o_i) fun x26 =>
 Sim.op1 (h_mv (o_t rfl)) <|
 Sim.doneS <| Sim.join (τ := Bool) (fun p27 => ⟨[(2, .cp 2 0), (3, .val (T.int .i64) x4), (25, .val T.b p27)], [(1, .cells [(70, .val T_api_Field a)]), (2, .cells [(1, .con (.nilf)), (1, .con (.nilf)), (1, .con (.nilf))]), (2000001, .ghost (.cp 1 0))]⟩) (fun p27 =>
 Sim.doneS <| Sim.cond (o_t rfl) (
 Sim.seqI <| Sim.inl (τ := Unit) (φs := [.val T.u64 (0 : UInt64), .val T.u64 (18446744073709551615 : UInt64)]) (n := 1) (L := [(2, .cp 2 0)]) (Γr := (fun p29 => ⟨[(0, .aggk [3600280, 3600281, 3600282])], [(1, .cells [(70, .val T_api_Field a)]), (2, .cells [(1, .con (.nilf)), (1, .con (.nilf)), (1, .con (.nilf))]), (3, .cells [(1, .val T.u64 (18446744073709551615 : UInt64))]), (1002, .cells [(1, .val T.u64 (0 : UInt64))]), (2000001, .ghost (.cp 1 0)), (2100002, .ghost (.cp 2 0)), (3600200, .keep (.cp 3 0)), (3600201, .keep (.cp 1002 0)), (3600240, .keep (.cp 1002 0)), (3600241, .keep (.cp 3 0)), (3600280, .keep (.fnv (.func fn_field_counted_1) [] [3600200, 3600201])), (3600281, .keep (.fnv (.func fn_field_counted_2) [] [3600240, 3600241])), (3600282, .keep (.fnv (.func fn_field_counted_3) [] []))]⟩)) 2100000 (fun p29 => ⟨[(28, .aggk [3600280, 3600281, 3600282]), (2, .cp 2 0)], [(1, .cells [(70, .val T_api_Field a)]), (2, .cells [(1, .con (.nilf)), (1, .con (.nilf)), (1, .con (.nilf))]), (3, .cells [(1, .val T.u64 (18446744073709551615 : UInt64))]), (1002, .cells [(1, .val T.u64 (0 : UInt64))]), (2000001, .ghost (.cp 1 0)), (3600200, .keep (.cp 3 0)), (3600201, .keep (.cp 1002 0)), (3600240, .keep (.cp 1002 0)), (3600241, .keep (.cp 3 0)), (3600280, .keep (.fnv (.func fn_field_counted_1) [] [3600200, 3600201])), (3600281, .keep (.fnv (.func fn_field_counted_2) [] [3600240, 3600241])), (3600282, .keep (.fnv (.func fn_field_counted_3) [] []))]⟩) f_field_counted rfl rfl rfl (c_call rfl) (.cons (s_o (o_u64 0 rfl)) <| .cons (s_o (o_u64 18446744073709551615 rfl)) <| .nil) ⟨⟨rfl, rfl⟩, trivial⟩ rfl (
 Sim.seqI <| Sim.opM (M_box (t := T.u64) 1002 rfl rfl (o_t rfl)) fun _ =>
 Sim.opM (M_box (t := T.u64) 3 rfl rfl (o_t rfl)) fun _ =>
 Sim.opM (M_allocP 4 [(1, .con (.nilf)), (1, .con (.nilf)), (1, .con (.nilf))] (fun _ _ _ _ => ⟨([.nilf] : List AV), ([.nilf] ++ ([.nilf] ++ ([])) : List AV), rfl, rfl, ⟨_, rfl, rfl, rfl, rfl⟩, ⟨([.nilf] : List AV), ([.nilf] ++ ([]) : List AV), rfl, rfl, ⟨_, rfl, rfl, rfl, rfl⟩, ⟨([.nilf] : List AV), ([] : List AV), rfl, rfl, ⟨_, rfl, rfl, rfl, rfl⟩, rfl⟩⟩⟩) rfl rfl) fun _ =>
 Sim.doneS <| Sim.seqI <| Sim.opN (M_mkf (φs := []) (ψs := [.cp 3 0, .cp 1002 0]) 3600200 (.nil) (.cons (o_t rfl) <| .cons (o_t rfl) <| .nil) rfl ⟨rfl, ⟨rfl, trivial⟩⟩ (js := []) (ks := [3600200, 3600201]) rfl rfl) <|
 Sim.opN (M_mkf (φs := []) (ψs := [.cp 1002 0, .cp 3 0]) 3600240 (.nil) (.cons (o_t rfl) <| .cons (o_t rfl) <| .nil) rfl ⟨rfl, ⟨rfl, trivial⟩⟩ (js := []) (ks := [3600240, 3600241]) rfl rfl) <|
 Sim.opN (M_bldk (φs := [.fnv (.func fn_field_counted_1) [] [3600200, 3600201], .fnv (.func fn_field_counted_2) [] [3600240, 3600241], .fnv (.func fn_field_counted_3) [] []]) 3600280 (.cons (o_t rfl) <| .cons (o_t rfl) <| .cons o_fn <| .nil) rfl rfl ⟨rfl, ⟨rfl, ⟨rfl, trivial⟩⟩⟩ (js := [3600280, 3600281, 3600282]) rfl) <|
 Sim.opM (M_stK (o_t rfl) (o_t rfl) rfl rfl rfl rfl) fun _ =>
 Sim.doneS <| Sim.retIn () (.cons (rg_cK rfl rfl rfl rfl) <| .nil) ⟨⟨⟨rfl, ⟨trivial, ⟨trivial, ⟨trivial, trivial⟩⟩⟩⟩, trivial⟩, ⟨⟨rfl, ⟨trivial, trivial⟩⟩, ⟨⟨rfl, ⟨trivial, ⟨trivial, ⟨trivial, trivial⟩⟩⟩⟩, ⟨⟨rfl, ⟨trivial, trivial⟩⟩, ⟨⟨rfl, ⟨trivial, trivial⟩⟩, ⟨⟨rfl, trivial⟩, ⟨⟨rfl, trivial⟩, ⟨⟨rfl, trivial⟩, ⟨⟨rfl, trivial⟩, ⟨⟨rfl, trivial⟩, ⟨⟨rfl, trivial⟩, ⟨⟨rfl, ⟨trivial, ⟨trivial, trivial⟩⟩⟩, ⟨⟨rfl, ⟨trivial, ⟨trivial, trivial⟩⟩⟩, ⟨⟨rfl, trivial⟩, trivial⟩⟩⟩⟩⟩⟩⟩⟩⟩⟩⟩⟩⟩⟩) (fun p29 => BackOk.some' ⟨⟨rfl, ⟨trivial, trivial⟩⟩, ⟨⟨rfl, ⟨trivial, ⟨trivial, ⟨trivial, trivial⟩⟩⟩⟩, ⟨⟨rfl, ⟨trivial, trivial⟩⟩, ⟨⟨rfl, ⟨trivial, trivial⟩⟩, ⟨⟨rfl, trivial⟩, ⟨⟨rfl, trivial⟩, ⟨⟨rfl, trivial⟩, ⟨⟨rfl, trivial⟩, ⟨⟨rfl, trivial⟩, ⟨⟨rfl, ⟨trivial, ⟨trivial, trivial⟩⟩⟩, ⟨⟨rfl, ⟨trivial, ⟨trivial, trivial⟩⟩⟩, ⟨⟨rfl, trivial⟩, trivial⟩⟩⟩⟩⟩⟩⟩⟩⟩⟩⟩⟩ rfl (.one rfl) ⟨trivial, ⟨trivial, ⟨trivial, trivial⟩⟩⟩ ⟨⟨rfl, trivial⟩, trivial⟩) (.one fun p29 =>
 Sim.opM (M_stK (o_t rfl) (o_t rfl) rfl rfl rfl rfl) fun _ =>
 Sim.doneS <| Sim.retIn (.inr (.inr (.inr (.inl (((18446744073709551615 : UInt64), (0 : UInt64))))))) (.cons (rg_cK rfl rfl rfl rfl) <| .nil) ⟨⟨⟨rfl, ⟨trivial, ⟨trivial, ⟨trivial, trivial⟩⟩⟩⟩, trivial⟩, ⟨⟨rfl, ⟨trivial, trivial⟩⟩, ⟨⟨rfl, ⟨trivial, trivial⟩⟩, ⟨⟨rfl, ⟨trivial, trivial⟩⟩, ⟨⟨rfl, trivial⟩, ⟨⟨rfl, trivial⟩, ⟨⟨rfl, trivial⟩, ⟨⟨rfl, trivial⟩, ⟨⟨rfl, trivial⟩, ⟨⟨rfl, ⟨trivial, ⟨trivial, trivial⟩⟩⟩, ⟨⟨rfl, ⟨trivial, ⟨trivial, trivial⟩⟩⟩, ⟨⟨rfl, trivial⟩, trivial⟩⟩⟩⟩⟩⟩⟩⟩⟩⟩⟩⟩)) (
 Sim.seqI <| Sim.op (h_cmp (I := (IT.int .i64)) rfl (o_t rfl) o_i) fun x30 =>
 Sim.op1 (h_mv (o_t rfl)) <|
 Sim.doneS <| Sim.cond (o_t rfl) (
 Sim.seqI <| Sim.inl (τ := Unit) (φs := [.val T.u64 (0 : UInt64), .val T.u64 (20 : UInt64)]) (n := 1) (L := [(2, .cp 2 0)]) (Γr := (fun p31 => ⟨[(0, .aggk [3600280, 3600281, 3600282])], [(1, .cells [(70, .val T_api_Field a)]), (2, .cells [(1, .con (.nilf)), (1, .con (.nilf)), (1, .con (.nilf))]), (3, .cells [(1, .val T.u64 (20 : UInt64))]), (1002, .cells [(1, .val T.u64 (0 : UInt64))]), (2000001, .ghost (.cp 1 0)), (2100002, .ghost (.cp 2 0)), (3600200, .keep (.cp 3 0)), (3600201, .keep (.cp 1002 0)), (3600240, .keep (.cp 1002 0)), (3600241, .keep (.cp 3 0)), (3600280, .keep (.fnv (.func fn_field_counted_1) [] [3600200, 3600201])), (3600281, .keep (.fnv (.func fn_field_counted_2) [] [3600240, 3600241])), (3600282, .keep (.fnv (.func fn_field_counted_3) [] []))]⟩)) 2100000 (fun p31 => ⟨[(31, .aggk [3600280, 3600281, 3600282]), (2, .cp 2 0)], [(1, .cells [(70, .val T_api_Field a)]), (2, .cells [(1, .con (.nilf)), (1, .con (.nilf)), (1, .con (.nilf))]), (3, .cells [(1, .val T.u64 (20 : UInt64))]), (1002, .cells [(1, .val T.u64 (0 : UInt64))]), (2000001, .ghost (.cp 1 0)), (3600200, .keep (.cp 3 0)), (3600201, .keep (.cp 1002 0)), (3600240, .keep (.cp 1002 0)), (3600241, .keep (.cp 3 0)), (3600280, .keep (.fnv (.func fn_field_counted_1) [] [3600200, 3600201])), (3600281, .keep (.fnv (.func fn_field_counted_2) [] [3600240, 3600241])), (3600282, .keep (.fnv (.func fn_field_counted_3) [] []))]⟩) f_field_counted rfl rfl rfl (c_call rfl) (.cons (s_o (o_u64 0 rfl)) <| .cons (s_o (o_u64 20 rfl)) <| .nil) ⟨⟨rfl, rfl⟩, trivial⟩ rfl (
 Sim.seqI <| Sim.opM (M_box (t := T.u64) 1002 rfl rfl (o_t rfl)) fun _ =>
 Sim.opM (M_box (t := T.u64) 3 rfl rfl (o_t rfl)) fun _ =>
 Sim.opM (M_allocP 4 [(1, .con (.nilf)), (1, .con (.nilf)), (1, .con (.nilf))] (fun _ _ _ _ => ⟨([.nilf] : List AV), ([.nilf] ++ ([.nilf] ++ ([])) : List AV), rfl, rfl, ⟨_, rfl, rfl, rfl, rfl⟩, ⟨([.nilf] : List AV), ([.nilf] ++ ([]) : List AV), rfl, rfl, ⟨_, rfl, rfl, rfl, rfl⟩, ⟨([.nilf] : List AV), ([] : List AV), rfl, rfl, ⟨_, rfl, rfl, rfl, rfl⟩, rfl⟩⟩⟩) rfl rfl) fun _ =>
 Sim.doneS <| Sim.seqI <| Sim.opN (M_mkf (φs := []) (ψs := [.cp 3 0, .cp 1002 0]) 3600200 (.nil) (.cons (o_t rfl) <| .cons (o_t rfl) <| .nil) rfl ⟨rfl, ⟨rfl, trivial⟩⟩ (js := []) (ks := [3600200, 3600201]) rfl rfl) <|
 Sim.opN (M_mkf (φs := []) (ψs := [.cp 1002 0, .cp 3 0]) 3600240 (.nil) (.cons (o_t rfl) <| .cons (o_t rfl) <| .nil) rfl ⟨rfl, ⟨rfl, trivial⟩⟩ (js := []) (ks := [3600240, 3600241]) rfl rfl) <|
 Sim.opN (M_bldk (φs := [.fnv (.func fn_field_counted_1) [] [3600200, 3600201], .fnv (.func fn_field_counted_2) [] [3600240, 3600241], .fnv (.func fn_field_counted_3) [] []]) 3600280 (.cons (o_t rfl) <| .cons (o_t rfl) <| .cons o_fn <| .nil) rfl rfl ⟨rfl, ⟨rfl, ⟨rfl, trivial⟩⟩⟩ (js := [3600280, 3600281, 3600282]) rfl) <|
 Sim.opM (M_stK (o_t rfl) (o_t rfl) rfl rfl rfl rfl) fun _ =>
 Sim.doneS <| Sim.retIn () (.cons (rg_cK rfl rfl rfl rfl) <| .nil) ⟨⟨⟨rfl, ⟨trivial, ⟨trivial, ⟨trivial, trivial⟩⟩⟩⟩, trivial⟩, ⟨⟨rfl, ⟨trivial, trivial⟩⟩, ⟨⟨rfl, ⟨trivial, ⟨trivial, ⟨trivial, trivial⟩⟩⟩⟩, ⟨⟨rfl, ⟨trivial, trivial⟩⟩, ⟨⟨rfl, ⟨trivial, trivial⟩⟩, ⟨⟨rfl, trivial⟩, ⟨⟨rfl, trivial⟩, ⟨⟨rfl, trivial⟩, ⟨⟨rfl, trivial⟩, ⟨⟨rfl, trivial⟩, ⟨⟨rfl, trivial⟩, ⟨⟨rfl, ⟨trivial, ⟨trivial, trivial⟩⟩⟩, ⟨⟨rfl, ⟨trivial, ⟨trivial, trivial⟩⟩⟩, ⟨⟨rfl, trivial⟩, trivial⟩⟩⟩⟩⟩⟩⟩⟩⟩⟩⟩⟩⟩⟩) (fun p31 => BackOk.some' ⟨⟨rfl, ⟨trivial, trivial⟩⟩, ⟨⟨rfl, ⟨trivial, ⟨trivial, ⟨trivial, trivial⟩⟩⟩⟩, ⟨⟨rfl, ⟨trivial, trivial⟩⟩, ⟨⟨rfl, ⟨trivial, trivial⟩⟩, ⟨⟨rfl, trivial⟩, ⟨⟨rfl, trivial⟩, ⟨⟨rfl, trivial⟩, ⟨⟨rfl, trivial⟩, ⟨⟨rfl, trivial⟩, ⟨⟨rfl, ⟨trivial, ⟨trivial, trivial⟩⟩⟩, ⟨⟨rfl, ⟨trivial, ⟨trivial, trivial⟩⟩⟩, ⟨⟨rfl, trivial⟩, trivial⟩⟩⟩⟩⟩⟩⟩⟩⟩⟩⟩⟩ rfl (.one rfl) ⟨trivial, ⟨trivial, ⟨trivial, trivial⟩⟩⟩ ⟨⟨rfl, trivial⟩, trivial⟩) (.one fun p31 =>
 Sim.opM (M_stK (o_t rfl) (o_t rfl) rfl rfl rfl rfl) fun _ =>
 Sim.doneS <| Sim.retIn (.inr (.inr (.inr (.inl (((20 : UInt64), (0 : UInt64))))))) (.cons (rg_cK rfl rfl rfl rfl) <| .nil) ⟨⟨⟨rfl, ⟨trivial, ⟨trivial, ⟨trivial, trivial⟩⟩⟩⟩, trivial⟩, ⟨⟨rfl, ⟨trivial, trivial⟩⟩, ⟨⟨rfl, ⟨trivial, trivial⟩⟩, ⟨⟨rfl, ⟨trivial, trivial⟩⟩, ⟨⟨rfl, trivial⟩, ⟨⟨rfl, trivial⟩, ⟨⟨rfl, trivial⟩, ⟨⟨rfl, trivial⟩, ⟨⟨rfl, trivial⟩, ⟨⟨rfl, ⟨trivial, ⟨trivial, trivial⟩⟩⟩, ⟨⟨rfl, ⟨trivial, ⟨trivial, trivial⟩⟩⟩, ⟨⟨rfl, trivial⟩, trivial⟩⟩⟩⟩⟩⟩⟩⟩⟩⟩⟩⟩)) (
 Sim.skip <| Sim.doneB <| Sim.doneS <| Sim.seqI <| Sim.inl (τ := Unit) (φs := []) (n := 1) (L := [(2, .cp 2 0)]) (Γr := (fun p32 => ⟨[(0, .aggk [3600040, 3600041, 3600042])], [(1, .cells [(70, .val T_api_Field a)]), (2, .cells [(1, .con (.nilf)), (1, .con (.nilf)), (1, .con (.nilf))]), (2000001, .ghost (.cp 1 0)), (2100002, .ghost (.cp 2 0)), (3600040, .keep (.fnv (.func fn_field_said_1) [] [])), (3600041, .keep (.fnv (.func fn_field_said_2) [] [])), (3600042, .keep (.fnv (.func fn_field_said_3) [] []))]⟩)) 2100000 (fun p32 => ⟨[(32, .aggk [3600040, 3600041, 3600042]), (2, .cp 2 0)], [(1, .cells [(70, .val T_api_Field a)]), (2, .cells [(1, .con (.nilf)), (1, .con (.nilf)), (1, .con (.nilf))]), (2000001, .ghost (.cp 1 0)), (3600040, .keep (.fnv (.func fn_field_said_1) [] [])), (3600041, .keep (.fnv (.func fn_field_said_2) [] [])), (3600042, .keep (.fnv (.func fn_field_said_3) [] []))]⟩) f_field_said rfl rfl rfl (c_call rfl) (.nil) ⟨⟨rfl, rfl⟩, trivial⟩ rfl (
 Sim.seqI <| Sim.opM (M_allocP 0 [(1, .con (.nilf)), (1, .con (.nilf)), (1, .con (.nilf))] (fun _ _ _ _ => ⟨([.nilf] : List AV), ([.nilf] ++ ([.nilf] ++ ([])) : List AV), rfl, rfl, ⟨_, rfl, rfl, rfl, rfl⟩, ⟨([.nilf] : List AV), ([.nilf] ++ ([]) : List AV), rfl, rfl, ⟨_, rfl, rfl, rfl, rfl⟩, ⟨([.nilf] : List AV), ([] : List AV), rfl, rfl, ⟨_, rfl, rfl, rfl, rfl⟩, rfl⟩⟩⟩) rfl rfl) fun _ =>
 Sim.doneS <| Sim.seqI <| Sim.opN (M_bldk (φs := [.fnv (.func fn_field_said_1) [] [], .fnv (.func fn_field_said_2) [] [], .fnv (.func fn_field_said_3) [] []]) 3600040 (.cons o_fn <| .cons o_fn <| .cons o_fn <| .nil) rfl rfl ⟨rfl, ⟨rfl, ⟨rfl, trivial⟩⟩⟩ (js := [3600040, 3600041, 3600042]) rfl) <|
 Sim.opM (M_stK (o_t rfl) (o_t rfl) rfl rfl rfl rfl) fun _ =>
 Sim.doneS <| Sim.retIn () (.cons (rg_cK rfl rfl rfl rfl) <| .nil) ⟨⟨⟨rfl, ⟨trivial, ⟨trivial, ⟨trivial, trivial⟩⟩⟩⟩, trivial⟩, ⟨⟨rfl, ⟨trivial, trivial⟩⟩, ⟨⟨rfl, ⟨trivial, ⟨trivial, ⟨trivial, trivial⟩⟩⟩⟩, ⟨⟨rfl, trivial⟩, ⟨⟨rfl, trivial⟩, ⟨⟨rfl, trivial⟩, ⟨⟨rfl, trivial⟩, ⟨⟨rfl, trivial⟩, trivial⟩⟩⟩⟩⟩⟩⟩⟩) (fun p32 => BackOk.some' ⟨⟨rfl, ⟨trivial, trivial⟩⟩, ⟨⟨rfl, ⟨trivial, ⟨trivial, ⟨trivial, trivial⟩⟩⟩⟩, ⟨⟨rfl, trivial⟩, ⟨⟨rfl, trivial⟩, ⟨⟨rfl, trivial⟩, ⟨⟨rfl, trivial⟩, trivial⟩⟩⟩⟩⟩⟩ rfl (.one rfl) ⟨trivial, ⟨trivial, ⟨trivial, trivial⟩⟩⟩ ⟨⟨rfl, trivial⟩, trivial⟩) (.one fun p32 =>
 Sim.opM (M_stK (o_t rfl) (o_t rfl) rfl rfl rfl rfl) fun _ =>
 Sim.doneS <| Sim.retIn (.inr (.inr (.inr (.inr (()))))) (.cons (rg_cK rfl rfl rfl rfl) <| .nil) ⟨⟨⟨rfl, ⟨trivial, ⟨trivial, ⟨trivial, trivial⟩⟩⟩⟩, trivial⟩, ⟨⟨rfl, ⟨trivial, trivial⟩⟩, ⟨⟨rfl, trivial⟩, ⟨⟨rfl, trivial⟩, ⟨⟨rfl, trivial⟩, ⟨⟨rfl, trivial⟩, trivial⟩⟩⟩⟩⟩⟩)))) fun k28 => Sim.cond (o_t rfl) (
 Sim.skip <| Sim.weak (k28 x26) ⟨⟨⟨rfl, trivial⟩, ⟨⟨rfl, trivial⟩, ⟨⟨rfl, trivial⟩, trivial⟩⟩⟩, ⟨⟨rfl, ⟨trivial, trivial⟩⟩, ⟨⟨rfl, ⟨trivial, ⟨trivial, ⟨trivial, trivial⟩⟩⟩⟩, ⟨⟨rfl, trivial⟩, trivial⟩⟩⟩⟩) (
 Sim.op (h_cmp (I := (IT.int .i64)) rfl (o_t rfl) o_i) fun x33 =>
 Sim.op1 (h_mv (o_t rfl)) <|
 Sim.weak (k28 x33) ⟨⟨⟨rfl, trivial⟩, ⟨⟨rfl, trivial⟩, ⟨⟨rfl, trivial⟩, trivial⟩⟩⟩, ⟨⟨rfl, ⟨trivial, trivial⟩⟩, ⟨⟨rfl, ⟨trivial, ⟨trivial, ⟨trivial, trivial⟩⟩⟩⟩, ⟨⟨rfl, trivial⟩, trivial⟩⟩⟩⟩))))) fun k20 => Sim.cond (o_t rfl) (
 Sim.skip <| Sim.weak (k20 x18) ⟨⟨⟨rfl, trivial⟩, ⟨⟨rfl, trivial⟩, ⟨⟨rfl, trivial⟩, trivial⟩⟩⟩, ⟨⟨rfl, ⟨trivial, trivial⟩⟩, ⟨⟨rfl, ⟨trivial, ⟨trivial, ⟨trivial, trivial⟩⟩⟩⟩, ⟨⟨rfl, trivial⟩, trivial⟩⟩⟩⟩) (
 Sim.op (h_cmp (I := (IT.int .i64)) rfl (o_t rfl) o_i) fun x34 =>
 Sim.op1 (h_mv (o_t rfl)) <|
 Sim.weak (k20 x34) ⟨⟨⟨rfl, trivial⟩, ⟨⟨rfl, trivial⟩, ⟨⟨rfl, trivial⟩, trivial⟩⟩⟩, ⟨⟨rfl, ⟨trivial, trivial⟩⟩, ⟨⟨rfl, ⟨trivial, ⟨trivial, ⟨trivial, trivial⟩⟩⟩⟩, ⟨⟨rfl, trivial⟩, trivial⟩⟩⟩⟩))))) fun k12 => Sim.cond (o_t rfl) (
 Sim.skip <| Sim.weak (k12 x10) ⟨⟨⟨rfl, trivial⟩, ⟨⟨rfl, trivial⟩, ⟨⟨rfl, trivial⟩, trivial⟩⟩⟩, ⟨⟨rfl, ⟨trivial, trivial⟩⟩, ⟨⟨rfl, ⟨trivial, ⟨trivial, ⟨trivial, trivial⟩⟩⟩⟩, ⟨⟨rfl, trivial⟩, trivial⟩⟩⟩⟩) (
 Sim.seqI <| Sim.op (h_cmp (I := (IT.int .i64)) rfl (o_t rfl) o_i) fun x35 =>
 Sim.op1 (h_mv (o_t rfl)) <|
 Sim.doneS <| Sim.cond (o_t rfl) (
 Sim.skip <| Sim.weak (k12 x35) ⟨⟨⟨rfl, trivial⟩, ⟨⟨rfl, trivial⟩, ⟨⟨rfl, trivial⟩, trivial⟩⟩⟩, ⟨⟨rfl, ⟨trivial, trivial⟩⟩, ⟨⟨rfl, ⟨trivial, ⟨trivial, ⟨trivial, trivial⟩⟩⟩⟩, ⟨⟨rfl, trivial⟩, trivial⟩⟩⟩⟩) (
 Sim.op (h_cmp (I := (IT.int .i64)) rfl (o_t rfl) o_i) fun x36 =>
 Sim.op1 (h_mv (o_t rfl)) <|
 Sim.weak (k12 x36) ⟨⟨⟨rfl, trivial⟩, ⟨⟨rfl, trivial⟩, ⟨⟨rfl, trivial⟩, trivial⟩⟩⟩, ⟨⟨rfl, ⟨trivial, trivial⟩⟩, ⟨⟨rfl, ⟨trivial, ⟨trivial, ⟨trivial, trivial⟩⟩⟩⟩, ⟨⟨rfl, trivial⟩, trivial⟩⟩⟩⟩))) (BackAlt (fun p5 => BackOk.some' ⟨⟨rfl, ⟨trivial, trivial⟩⟩, ⟨⟨rfl, trivial⟩, ⟨⟨rfl, trivial⟩, ⟨⟨rfl, trivial⟩, trivial⟩⟩⟩⟩ rfl (.one rfl) ⟨trivial, ⟨trivial, ⟨trivial, trivial⟩⟩⟩ ⟨⟨rfl, trivial⟩, trivial⟩) (BackAlt (fun p6 => BackOk.some' ⟨⟨rfl, ⟨trivial, trivial⟩⟩, ⟨⟨rfl, trivial⟩, ⟨⟨rfl, trivial⟩, ⟨⟨rfl, trivial⟩, trivial⟩⟩⟩⟩ rfl (.one rfl) ⟨trivial, ⟨trivial, ⟨trivial, trivial⟩⟩⟩ ⟨⟨rfl, trivial⟩, trivial⟩) (BackAlt (fun p7 => BackOk.some' ⟨⟨rfl, ⟨trivial, trivial⟩⟩, ⟨⟨rfl, trivial⟩, ⟨⟨rfl, trivial⟩, ⟨⟨rfl, trivial⟩, trivial⟩⟩⟩⟩ rfl (.one rfl) ⟨trivial, ⟨trivial, ⟨trivial, trivial⟩⟩⟩ ⟨⟨rfl, trivial⟩, trivial⟩) (BackAlt (fun p8 => BackOk.some' ⟨⟨rfl, ⟨trivial, trivial⟩⟩, ⟨⟨rfl, ⟨trivial, trivial⟩⟩, ⟨⟨rfl, ⟨trivial, trivial⟩⟩, ⟨⟨rfl, trivial⟩, ⟨⟨rfl, trivial⟩, ⟨⟨rfl, trivial⟩, ⟨⟨rfl, trivial⟩, ⟨⟨rfl, ⟨trivial, ⟨trivial, trivial⟩⟩⟩, ⟨⟨rfl, ⟨trivial, ⟨trivial, trivial⟩⟩⟩, ⟨⟨rfl, trivial⟩, trivial⟩⟩⟩⟩⟩⟩⟩⟩⟩⟩ rfl (.one rfl) ⟨trivial, ⟨trivial, ⟨trivial, trivial⟩⟩⟩ ⟨⟨rfl, trivial⟩, trivial⟩) (fun p9 => BackOk.some' ⟨⟨rfl, ⟨trivial, trivial⟩⟩, ⟨⟨rfl, trivial⟩, ⟨⟨rfl, trivial⟩, ⟨⟨rfl, trivial⟩, trivial⟩⟩⟩⟩ rfl (.one rfl) ⟨trivial, ⟨trivial, ⟨trivial, trivial⟩⟩⟩ ⟨⟨rfl, trivial⟩, trivial⟩))))) (.alt (.one fun p5 =>
 Sim.opM (M_allocP 3 [(1, .con (.nilf)), (1, .con (.nilf)), (1, .con (.nilf))] (fun _ _ _ _ => ⟨([.nilf] : List AV), ([.nilf] ++ ([.nilf] ++ ([])) : List AV), rfl, rfl, ⟨_, rfl, rfl, rfl, rfl⟩, ⟨([.nilf] : List AV), ([.nilf] ++ ([]) : List AV), rfl, rfl, ⟨_, rfl, rfl, rfl, rfl⟩, ⟨([.nilf] : List AV), ([] : List AV), rfl, rfl, ⟨_, rfl, rfl, rfl, rfl⟩, rfl⟩⟩⟩) rfl rfl) fun _ =>
 Sim.opM (M_stK (o_t rfl) (o_t rfl) rfl rfl rfl rfl) fun _ =>
 Sim.doneS <| Sim.seqI <| Sim.op1 (h_faC (o_t rfl)) <|
 Sim.op1 (h_ldCr (o_t rfl) rfl rfl rfl) <|
 Sim.opn (h_ldC (t := T_api_Field) (u := T_api_Field) (o_t rfl) rfl rfl (Fld.id _) rfl rfl) fun x37 =>
 Sim.op (h_callSN sp_field_keyed_2 (c_callv (o_kv rfl rfl) rfl) (.one (s_o (o_t rfl)))) fun x38 =>
 Sim.op1 (h_mv (o_t rfl)) <|
 Sim.opn (h_ext (o_t rfl) rfl) fun x39 =>
 Sim.opn (h_ext (o_t rfl) rfl) fun x40 =>
 Sim.op1 (h_mv (o_t rfl)) <|
 Sim.op1 (h_mv (o_t rfl)) <|
 Sim.doneS <| Sim.seqI <| Sim.regd 1 <| SimD.op1 rfl (h_mv (o_t rfl)) <|
 SimD.op1 rfl (h_mv (o_t rfl)) <|
 SimD.andI ⟨[], []⟩ 8 rfl rfl rfl (fun _ => ⟨⟨⟨rfl, trivial⟩, trivial⟩, trivial⟩) rfl rfl (fun x42 =>
 SimD.op1 rfl (h_mv (o_t rfl)) <|
 SimD.done <| Sim.doneS <| Sim.ret (.one (res_t rfl))) fun k41 =>
 SimD.op1 rfl (h_faC (o_t rfl)) <|
 SimD.op1 rfl (h_ldCr (o_t rfl) rfl rfl rfl) <|
 SimD.opn rfl (h_ldC (t := T_api_Field) (u := T_api_Field) (o_t rfl) rfl rfl (Fld.id _) rfl rfl) fun x43 =>
 SimDW.op rfl (fun _ => .nil) (.new (c := ⟨false, 1, 1, 0, 0, (T.int .i64), F_api_Field_Word.get a⟩) rfl (LdAt.mk' F_api_Field_Word rfl rfl rfl rfl rfl) <| .nil) (h_callS1 sp_field_keyed_3 (c_callv (o_kv rfl rfl) rfl) (.one (s_o (o_t rfl)))) fun x44 =>
 SimD.op1 rfl (h_faC (o_t rfl)) <|
 SimD.early 0 rfl rfl rfl rfl rfl uni_int (h_ldC (t := T_api_Field) (u := (T.int .i64)) (o_t rfl) rfl rfl F_api_Field_Word rfl rfl) <|
 SimD.op rfl (h_bld rfl rfl (.cons F_api_Field_Word rfl (o_t rfl) <| .nil _)) fun x45 =>
 SimD.op rfl (h_eq C_api_Field rfl rfl (o_t rfl) (o_t rfl)) fun x46 =>
 SimD.pickI (Γ0 := ⟨[], []⟩) rfl (o_t rfl) ⟨⟨⟨rfl, trivial⟩, trivial⟩, trivial⟩ rfl k41) (.alt (.one fun p6 =>
 Sim.opM (M_allocP 3 [(1, .con (.nilf)), (1, .con (.nilf)), (1, .con (.nilf))] (fun _ _ _ _ => ⟨([.nilf] : List AV), ([.nilf] ++ ([.nilf] ++ ([])) : List AV), rfl, rfl, ⟨_, rfl, rfl, rfl, rfl⟩, ⟨([.nilf] : List AV), ([.nilf] ++ ([]) : List AV), rfl, rfl, ⟨_, rfl, rfl, rfl, rfl⟩, ⟨([.nilf] : List AV), ([] : List AV), rfl, rfl, ⟨_, rfl, rfl, rfl, rfl⟩, rfl⟩⟩⟩) rfl rfl) fun _ =>
 Sim.opM (M_stK (o_t rfl) (o_t rfl) rfl rfl rfl rfl) fun _ =>
 Sim.doneS <| Sim.seqI <| Sim.op1 (h_faC (o_t rfl)) <|
 Sim.op1 (h_ldCr (o_t rfl) rfl rfl rfl) <|
 Sim.opn (h_ldC (t := T_api_Field) (u := T_api_Field) (o_t rfl) rfl rfl (Fld.id _) rfl rfl) fun x47 =>
 Sim.stop) (.alt (.one fun p7 =>
 Sim.opM (M_allocP 3 [(1, .con (.nilf)), (1, .con (.nilf)), (1, .con (.nilf))] (fun _ _ _ _ => ⟨([.nilf] : List AV), ([.nilf] ++ ([.nilf] ++ ([])) : List AV), rfl, rfl, ⟨_, rfl, rfl, rfl, rfl⟩, ⟨([.nilf] : List AV), ([.nilf] ++ ([]) : List AV), rfl, rfl, ⟨_, rfl, rfl, rfl, rfl⟩, ⟨([.nilf] : List AV), ([] : List AV), rfl, rfl, ⟨_, rfl, rfl, rfl, rfl⟩, rfl⟩⟩⟩) rfl rfl) fun _ =>
 Sim.opM (M_stK (o_t rfl) (o_t rfl) rfl rfl rfl rfl) fun _ =>
 Sim.doneS <| Sim.seqI <| Sim.op1 (h_faC (o_t rfl)) <|
 Sim.op1 (h_ldCr (o_t rfl) rfl rfl rfl) <|
 Sim.opn (h_ldC (t := T_api_Field) (u := T_api_Field) (o_t rfl) rfl rfl (Fld.id _) rfl rfl) fun x48 =>
 Sim.stop) (.alt (.one fun p8 =>
 Sim.opM (M_allocP 1003 [(1, .con (.nilf)), (1, .con (.nilf)), (1, .con (.nilf))] (fun _ _ _ _ => ⟨([.nilf] : List AV), ([.nilf] ++ ([.nilf] ++ ([])) : List AV), rfl, rfl, ⟨_, rfl, rfl, rfl, rfl⟩, ⟨([.nilf] : List AV), ([.nilf] ++ ([]) : List AV), rfl, rfl, ⟨_, rfl, rfl, rfl, rfl⟩, ⟨([.nilf] : List AV), ([] : List AV), rfl, rfl, ⟨_, rfl, rfl, rfl, rfl⟩, rfl⟩⟩⟩) rfl rfl) fun _ =>
 Sim.opM (M_stK (o_t rfl) (o_t rfl) rfl rfl rfl rfl) fun _ =>
 Sim.doneS <| Sim.seqI <| Sim.op1 (h_faC (o_t rfl)) <|
 Sim.op1 (h_ldCr (o_t rfl) rfl rfl rfl) <|
 Sim.opn (h_ldC (t := T_api_Field) (u := T_api_Field) (o_t rfl) rfl rfl (Fld.id _) rfl rfl) fun x49 =>
 Sim.inl (τ := (Str × Bool)) (φs := [.val T_api_Field x49, .cp 1002 0, .cp 3 0]) (n := 2) (L := [(1, .cp 1 0), (3, .cp 1003 0)]) (Γr := (fun p50 => ⟨[(0, .val T.str p50.1), (1, .val T.b p50.2)], [(1, .cells [(70, .val T_api_Field a)]), (3, .cells [(1, .val T.u64 p8.1)]), (1002, .cells [(1, .val T.u64 p8.2)]), (1003, .cells [(1, .kv 3600280), (1, .kv 3600281), (1, .kv 3600282)]), (2000001, .ghost (.cp 1 0)), (2000003, .ghost (.cp 1003 0)), (3600200, .keep (.cp 3 0)), (3600201, .keep (.cp 1002 0)), (3600240, .keep (.cp 1002 0)), (3600241, .keep (.cp 3 0)), (3600280, .keep (.fnv (.func fn_field_counted_1) [] [3600200, 3600201])), (3600281, .keep (.fnv (.func fn_field_counted_2) [] [3600240, 3600241])), (3600282, .keep (.fnv (.func fn_field_counted_3) [] []))]⟩)) 2000000 (fun p50 => ⟨[(17, .tup [⟨T.str, p50.1⟩, ⟨T.b, p50.2⟩]), (1, .cp 1 0), (3, .cp 1003 0)], [(1, .cells [(70, .val T_api_Field a)]), (3, .cells [(1, .val T.u64 p8.1)]), (1002, .cells [(1, .val T.u64 p8.2)]), (1003, .cells [(1, .kv 3600280), (1, .kv 3600281), (1, .kv 3600282)]), (3600200, .keep (.cp 3 0)), (3600201, .keep (.cp 1002 0)), (3600240, .keep (.cp 1002 0)), (3600241, .keep (.cp 3 0)), (3600280, .keep (.fnv (.func fn_field_counted_1) [] [3600200, 3600201])), (3600281, .keep (.fnv (.func fn_field_counted_2) [] [3600240, 3600241])), (3600282, .keep (.fnv (.func fn_field_counted_3) [] []))]⟩) f_field_counted_2 rfl rfl rfl (c_callv (o_kv rfl rfl) rfl) (.cons (s_o (o_t rfl)) <| .cons (s_k rfl) <| .cons (s_k rfl) <| .nil) ⟨⟨rfl, rfl⟩, ⟨⟨rfl, rfl⟩, trivial⟩⟩ rfl (
 Sim.seqI <| Sim.opM (M_box (t := T_api_Field) 2003 rfl rfl (o_t rfl)) fun _ =>
 Sim.op1 (h_mv o_s) <|
 Sim.op1 (h_mv o_b) <|
 Sim.doneS <| Sim.seqI <| Sim.op1 (h_faC (o_t rfl)) <|
 Sim.opn (h_ldC (t := T_api_Field) (u := T.u64) (o_t rfl) rfl rfl F_api_Field_N rfl rfl) fun x51 =>
 Sim.op (h_call1 sp_decimal_Text (.one (o_t rfl))) fun x52 =>
 Sim.op1 (h_faC (o_t rfl)) <|
 Sim.opn (h_ldC (t := T_api_Field) (u := T.u64) (o_t rfl) rfl rfl F_api_Field_N rfl rfl) fun x53 =>
 Sim.opn (h_ldC (t := T.u64) (u := T.u64) (o_t rfl) rfl rfl (Fld.id _) rfl rfl) fun x54 =>
 Sim.op (h_cmp (I := IT.u64) rfl (o_t rfl) (o_t rfl)) fun x55 =>
 Sim.op1 (h_mv (o_t rfl)) <|
 Sim.and 4 rfl rfl rfl (Grp.op1 (h_faC (o_t rfl)) <|
 Grp.opn (h_ldC (t := T_api_Field) (u := T.u64) (o_t rfl) rfl rfl F_api_Field_N rfl rfl) fun x56 =>
 Grp.opn (h_ldC (t := T.u64) (u := T.u64) (o_t rfl) rfl rfl (Fld.id _) rfl rfl) fun x57 =>
 Grp.op (h_cmp (I := IT.u64) rfl (o_t rfl) (o_t rfl)) fun x58 =>
 Grp.nil (o_t rfl)) fun x59 =>
 Sim.op1 (h_mv (o_t rfl)) <|
 Sim.op1 (h_mv (o_t rfl)) <|
 Sim.doneS <| Sim.retIn (x52, x59) (.cons (rg_t rfl) <| .cons (rg_t rfl) <| .nil) ⟨⟨⟨rfl, trivial⟩, ⟨⟨rfl, trivial⟩, trivial⟩⟩, ⟨⟨rfl, ⟨trivial, trivial⟩⟩, ⟨⟨rfl, ⟨trivial, trivial⟩⟩, ⟨⟨rfl, ⟨trivial, trivial⟩⟩, ⟨⟨rfl, ⟨⟨trivial, trivial⟩, ⟨⟨trivial, trivial⟩, ⟨⟨trivial, trivial⟩, trivial⟩⟩⟩⟩, ⟨⟨rfl, trivial⟩, ⟨⟨rfl, trivial⟩, ⟨⟨rfl, trivial⟩, ⟨⟨rfl, trivial⟩, ⟨⟨rfl, trivial⟩, ⟨⟨rfl, trivial⟩, ⟨⟨rfl, ⟨trivial, ⟨trivial, trivial⟩⟩⟩, ⟨⟨rfl, ⟨trivial, ⟨trivial, trivial⟩⟩⟩, ⟨⟨rfl, trivial⟩, trivial⟩⟩⟩⟩⟩⟩⟩⟩⟩⟩⟩⟩⟩⟩) (fun p50 => BackOk.some' ⟨⟨rfl, ⟨trivial, trivial⟩⟩, ⟨⟨rfl, ⟨trivial, trivial⟩⟩, ⟨⟨rfl, ⟨trivial, trivial⟩⟩, ⟨⟨rfl, ⟨⟨trivial, trivial⟩, ⟨⟨trivial, trivial⟩, ⟨⟨trivial, trivial⟩, trivial⟩⟩⟩⟩, ⟨⟨rfl, trivial⟩, ⟨⟨rfl, trivial⟩, ⟨⟨rfl, trivial⟩, ⟨⟨rfl, trivial⟩, ⟨⟨rfl, ⟨trivial, ⟨trivial, trivial⟩⟩⟩, ⟨⟨rfl, ⟨trivial, ⟨trivial, trivial⟩⟩⟩, ⟨⟨rfl, trivial⟩, trivial⟩⟩⟩⟩⟩⟩⟩⟩⟩⟩⟩ rfl (.vals rfl (by intro i p h; match i, h with | 0, h => (cases h; rfl) | 1, h => (cases h; rfl) | (_ + 2), h => simp at h)) trivial ⟨⟨rfl, trivial⟩, ⟨⟨rfl, trivial⟩, trivial⟩⟩) (.one fun p50 =>
 Sim.op1 (h_mv (o_t rfl)) <|
 Sim.opn (h_ext (o_t rfl) rfl) fun x60 =>
 Sim.opn (h_ext (o_t rfl) rfl) fun x61 =>
 Sim.op1 (h_mv (o_t rfl)) <|
 Sim.op1 (h_mv (o_t rfl)) <|
 Sim.doneS <| Sim.seqI <| Sim.regd 1 <| SimD.op1 rfl (h_mv (o_t rfl)) <|
 SimD.op1 rfl (h_mv (o_t rfl)) <|
 SimD.andI ⟨[], []⟩ 8 rfl rfl rfl (fun _ => ⟨⟨⟨rfl, trivial⟩, trivial⟩, trivial⟩) rfl rfl (fun x63 =>
 SimD.op1 rfl (h_mv (o_t rfl)) <|
 SimD.done <| Sim.doneS <| Sim.ret (.one (res_t rfl))) fun k62 =>
 SimD.op1 rfl (h_faC (o_t rfl)) <|
 SimD.op1 rfl (h_ldCr (o_t rfl) rfl rfl rfl) <|
 SimD.opn rfl (h_ldC (t := T_api_Field) (u := T_api_Field) (o_t rfl) rfl rfl (Fld.id _) rfl rfl) fun x64 =>
 SimDW.op rfl (fun _ => .nil) (.new (c := ⟨false, 1, 1, 0, 0, (T.int .i64), F_api_Field_Word.get a⟩) rfl (LdAt.mk' F_api_Field_Word rfl rfl rfl rfl rfl) <| .nil) (h_callS1 sp_field_counted_3 (c_callv (o_kv rfl rfl) rfl) (.one (s_o (o_t rfl)))) fun x65 =>
 SimD.op1 rfl (h_faC (o_t rfl)) <|
 SimD.early 0 rfl rfl rfl rfl rfl uni_int (h_ldC (t := T_api_Field) (u := (T.int .i64)) (o_t rfl) rfl rfl F_api_Field_Word rfl rfl) <|
 SimD.op rfl (h_bld rfl rfl (.cons F_api_Field_Word rfl (o_t rfl) <| .nil _)) fun x66 =>
 SimD.op rfl (h_eq C_api_Field rfl rfl (o_t rfl) (o_t rfl)) fun x67 =>
 SimD.pickI (Γ0 := ⟨[], []⟩) rfl (o_t rfl) ⟨⟨⟨rfl, trivial⟩, trivial⟩, trivial⟩ rfl k62)) (.one fun p9 =>
 Sim.opM (M_allocP 3 [(1, .con (.nilf)), (1, .con (.nilf)), (1, .con (.nilf))] (fun _ _ _ _ => ⟨([.nilf] : List AV), ([.nilf] ++ ([.nilf] ++ ([])) : List AV), rfl, rfl, ⟨_, rfl, rfl, rfl, rfl⟩, ⟨([.nilf] : List AV), ([.nilf] ++ ([]) : List AV), rfl, rfl, ⟨_, rfl, rfl, rfl, rfl⟩, ⟨([.nilf] : List AV), ([] : List AV), rfl, rfl, ⟨_, rfl, rfl, rfl, rfl⟩, rfl⟩⟩⟩) rfl rfl) fun _ =>
 Sim.opM (M_stK (o_t rfl) (o_t rfl) rfl rfl rfl rfl) fun _ =>
 Sim.doneS <| Sim.seqI <| Sim.op1 (h_faC (o_t rfl)) <|
 Sim.op1 (h_ldCr (o_t rfl) rfl rfl rfl) <|
 Sim.opn (h_ldC (t := T_api_Field) (u := T_api_Field) (o_t rfl) rfl rfl (Fld.id _) rfl rfl) fun x68 =>
 Sim.op (h_callSN sp_field_said_2 (c_callv (o_kv rfl rfl) rfl) (.one (s_o (o_t rfl)))) fun x69 =>
 Sim.op1 (h_mv (o_t rfl)) <|
 Sim.opn (h_ext (o_t rfl) rfl) fun x70 =>
 Sim.opn (h_ext (o_t rfl) rfl) fun x71 =>
 Sim.op1 (h_mv (o_t rfl)) <|
 Sim.op1 (h_mv (o_t rfl)) <|
 Sim.doneS <| Sim.seqI <| Sim.regd 1 <| SimD.op1 rfl (h_mv (o_t rfl)) <|
 SimD.op1 rfl (h_mv (o_t rfl)) <|
 SimD.andI ⟨[], []⟩ 8 rfl rfl rfl (fun _ => ⟨⟨⟨rfl, trivial⟩, trivial⟩, trivial⟩) rfl rfl (fun x73 =>
 SimD.op1 rfl (h_mv (o_t rfl)) <|
 SimD.done <| Sim.doneS <| Sim.ret (.one (res_t rfl))) fun k72 =>
 SimD.op1 rfl (h_faC (o_t rfl)) <|
 SimD.op1 rfl (h_ldCr (o_t rfl) rfl rfl rfl) <|
 SimD.opn rfl (h_ldC (t := T_api_Field) (u := T_api_Field) (o_t rfl) rfl rfl (Fld.id _) rfl rfl) fun x74 =>
 SimDW.op rfl (fun _ => .nil) (.new (c := ⟨false, 1, 1, 0, 0, (T.int .i64), F_api_Field_Word.get a⟩) rfl (LdAt.mk' F_api_Field_Word rfl rfl rfl rfl rfl) <| .nil) (h_callS1 sp_field_said_3 (c_callv (o_kv rfl rfl) rfl) (.one (s_o (o_t rfl)))) fun x75 =>
 SimD.op1 rfl (h_faC (o_t rfl)) <|
 SimD.early 0 rfl rfl rfl rfl rfl uni_int (h_ldC (t := T_api_Field) (u := (T.int .i64)) (o_t rfl) rfl rfl F_api_Field_Word rfl rfl) <|
 SimD.op rfl (h_bld rfl rfl (.cons F_api_Field_Word rfl (o_t rfl) <| .nil _)) fun x76 =>
 SimD.op rfl (h_eq C_api_Field rfl rfl (o_t rfl) (o_t rfl)) fun x77 =>
 SimD.pickI (Γ0 := ⟨[], []⟩) rfl (o_t rfl) ⟨⟨⟨rfl, trivial⟩, trivial⟩, trivial⟩ rfl k72))))))
theorem sp_field_Right : Spec tb fn_field_Right [T_api_Field] [T.b] (fun a => field_Right a) :=
  Spec.of f_field_Right rfl rfl rfl sim_field_Right

noncomputable def field_Pair (a0 : S_api_Field) : Option (S_pairline_Pair × Int) :=
 (field_Right a0).bind fun x3 =>
 if (!x3) = true then
 some ((⟨[], []⟩ : S_pairline_Pair), 1)
 else
 ((fun (k15 : Bool → Option _) => if (decide (a0.Word = 1)) = true then
 k15 (decide (a0.Word = 1))
 else
 if (decide (a0.Word = 5)) = true then
 k15 (decide (a0.Word = 5))
 else
 k15 (decide (a0.Word = 8))) fun p14 =>
 if p14 = true then
 (some () : Option Unit).bind (fun (p16 : Unit) =>
 some (.inl (())))
 else
 if (decide (a0.Word = 9)) = true then
 (some () : Option Unit).bind (fun (p18 : Unit) =>
 some (.inr (.inl (()))))
 else
 if (decide (a0.Word = 12)) = true then
 (some () : Option Unit).bind (fun (p20 : Unit) =>
 some (.inr (.inr (.inl (())))))
 else
 (fun (k23 : Bool → Option _) => if (decide (a0.Word = 2)) = true then
 k23 (decide (a0.Word = 2))
 else
 k23 (decide (a0.Word = 10))) fun p22 =>
 if p22 = true then
 (some () : Option Unit).bind (fun (p24 : Unit) =>
 some (.inr (.inr (.inr (.inl (((65535 : UInt64), (0 : UInt64))))))))
 else
 if (decide (a0.Word = 3)) = true then
 (some () : Option Unit).bind (fun (p26 : Unit) =>
 some (.inr (.inr (.inr (.inl (((4294967295 : UInt64), (0 : UInt64))))))))
 else
 if (decide (a0.Word = 13)) = true then
 (some () : Option Unit).bind (fun (p28 : Unit) =>
 some (.inr (.inr (.inr (.inl (((1 : UInt64), (1 : UInt64))))))))
 else
 (fun (k31 : Bool → Option _) => if (decide (a0.Word = 14)) = true then
 k31 (decide (a0.Word = 14))
 else
 k31 (decide (a0.Word = 15))) fun p30 =>
 if p30 = true then
 (some () : Option Unit).bind (fun (p32 : Unit) =>
 some (.inr (.inr (.inr (.inl (((18446744073709551615 : UInt64), (0 : UInt64))))))))
 else
 if (decide (a0.Word = 16)) = true then
 (some () : Option Unit).bind (fun (p34 : Unit) =>
 some (.inr (.inr (.inr (.inl (((20 : UInt64), (0 : UInt64))))))))
 else
 (some () : Option Unit).bind (fun (p35 : Unit) =>
 some (.inr (.inr (.inr (.inr (())))))) : Option (Unit ⊕ (Unit ⊕ (Unit ⊕ ((UInt64 × UInt64) ⊕ Unit))))).bind (Sum.elim (fun (p8 : Unit) =>
 (field_keyed_2 a0).bind fun x40 =>
 (field_Name a0.Word).bind fun x44 =>
 some ((⟨x44, x40.1⟩ : S_pairline_Pair), 0)) (Sum.elim (fun (p9 : Unit) =>
 none) (Sum.elim (fun (p10 : Unit) =>
 none) (Sum.elim (fun (p11 : (UInt64 × UInt64)) =>
 ((decimal_Text a0.N).bind fun x49 =>
 let x52 := decide ((p11.2.toNat : Int) ≤ (a0.N.toNat : Int))
 (andO x52 (let x55 := decide ((a0.N.toNat : Int) ≤ (p11.1.toNat : Int))
 some x55)).bind fun x56 =>
 some (x49, x56)).bind (fun (p47 : (Str × Bool)) =>
 (field_Name a0.Word).bind fun x60 =>
 some ((⟨x60, p47.1⟩ : S_pairline_Pair), 0))) (fun (p12 : Unit) =>
 (field_said_2 a0).bind fun x63 =>
 (field_Name a0.Word).bind fun x67 =>
 some ((⟨x67, x63.1⟩ : S_pairline_Pair), 0))))))
noncomputable def sim_field_Pair (a : Res [T_api_Field]) : Sim tb ⟨argsT [T_api_Field] 0 a, []⟩ c_field_Pair.body [] (QRes [T_pairline_Pair, (T.int .i64)] c_field_Pair.res) :=
 Sim.seqI <| Sim.opM (M_box (t := T_api_Field) 1 rfl rfl (o_t rfl)) fun _ =>
 Sim.opM (M_alloc (t := T_pairline_Pair) 2 rfl rfl) fun x1 =>
 Sim.op1 (h_mv o_i) <|
 Sim.doneS <| Sim.seqI <| Sim.seqI <| Sim.opn (h_ldC (t := T_api_Field) (u := T_api_Field) (o_t rfl) rfl rfl (Fld.id _) rfl rfl) fun x2 =>
 Sim.op (h_call1 sp_field_Right (.one (o_t rfl))) fun x3 =>
 Sim.op (h_not (o_t rfl)) fun x4 =>
 Sim.doneS <| Sim.cond (o_t rfl) (
 Sim.seqI <| Sim.op (h_bld rfl rfl (.nil _)) fun x5 =>
 Sim.opM (M_stC (o_t rfl) (o_t rfl) rfl rfl (Fld.id _) rfl) fun x6 =>
 Sim.op1 (h_mv o_i) <|
 Sim.doneS <| Sim.ret (.cons (res_c rfl rfl rfl (Fld.id _) rfl rfl) <| .one (res_t rfl))) (
 Sim.skip <| Sim.doneS <| Sim.seqI <| Sim.regd 2 <| SimD.op1 rfl (h_faC (o_t rfl)) <|
 SimD.opn rfl (h_ldC (t := T_api_Field) (u := (T.int .i64)) (o_t rfl) rfl rfl F_api_Field_Word rfl rfl) fun x7 =>
 SimD.inlK (τ := (Unit ⊕ (Unit ⊕ (Unit ⊕ ((UInt64 × UInt64) ⊕ Unit))))) (φs := [.val (T.int .i64) x7]) (n := 1) (L := [(1, .cp 1 0), (2, .cp 2 0)]) (Γr := (Sum.elim (fun p8 => ⟨[(0, .aggk [3600040, 3600041, 3600042])], [(1, .cells [(70, .val T_api_Field a)]), (2, .cells [(2, .val T_pairline_Pair x1)]), (2000001, .ghost (.cp 1 0)), (2000002, .ghost (.cp 2 0)), (3600040, .keep (.fnv (.func fn_field_keyed_1) [] [])), (3600041, .keep (.fnv (.func fn_field_keyed_2) [] [])), (3600042, .keep (.fnv (.func fn_field_keyed_3) [] []))]⟩) (Sum.elim (fun p9 => ⟨[(0, .aggk [3600040, 3600041, 3600042])], [(1, .cells [(70, .val T_api_Field a)]), (2, .cells [(2, .val T_pairline_Pair x1)]), (2000001, .ghost (.cp 1 0)), (2000002, .ghost (.cp 2 0)), (3600040, .keep (.fnv (.func fn_field_ended_1) [] [])), (3600041, .keep (.fnv (.func fn_field_ended_2) [] [])), (3600042, .keep (.fnv (.func fn_field_ended_3) [] []))]⟩) (Sum.elim (fun p10 => ⟨[(0, .aggk [3600040, 3600041, 3600042])], [(1, .cells [(70, .val T_api_Field a)]), (2, .cells [(2, .val T_pairline_Pair x1)]), (2000001, .ghost (.cp 1 0)), (2000002, .ghost (.cp 2 0)), (3600040, .keep (.fnv (.func fn_field_allowed_1) [] [])), (3600041, .keep (.fnv (.func fn_field_allowed_2) [] [])), (3600042, .keep (.fnv (.func fn_field_allowed_3) [] []))]⟩) (Sum.elim (fun p11 => ⟨[(0, .aggk [3600280, 3600281, 3600282])], [(1, .cells [(70, .val T_api_Field a)]), (2, .cells [(2, .val T_pairline_Pair x1)]), (3, .cells [(1, .val T.u64 p11.1)]), (2002, .cells [(1, .val T.u64 p11.2)]), (2000001, .ghost (.cp 1 0)), (2000002, .ghost (.cp 2 0)), (3600200, .keep (.cp 3 0)), (3600201, .keep (.cp 2002 0)), (3600240, .keep (.cp 2002 0)), (3600241, .keep (.cp 3 0)), (3600280, .keep (.fnv (.func fn_field_counted_1) [] [3600200, 3600201])), (3600281, .keep (.fnv (.func fn_field_counted_2) [] [3600240, 3600241])), (3600282, .keep (.fnv (.func fn_field_counted_3) [] []))]⟩) (fun p12 => ⟨[(0, .aggk [3600040, 3600041, 3600042])], [(1, .cells [(70, .val T_api_Field a)]), (2, .cells [(2, .val T_pairline_Pair x1)]), (2000001, .ghost (.cp 1 0)), (2000002, .ghost (.cp 2 0)), (3600040, .keep (.fnv (.func fn_field_said_1) [] [])), (3600041, .keep (.fnv (.func fn_field_said_2) [] [])), (3600042, .keep (.fnv (.func fn_field_said_3) [] []))]⟩)))))) rfl (.new (c := ⟨true, 70, 1, 0, 0, T_api_Field, (Fld.id _).get a⟩) rfl (LdAt.mk' (Fld.id _) rfl rfl rfl rfl rfl) <| .nil) 2000000 (Sum.elim (fun p8 => ⟨[(13, .aggk [3600040, 3600041, 3600042]), (1, .cp 1 0), (2, .cp 2 0)], [(1, .cells [(70, .val T_api_Field a)]), (2, .cells [(2, .val T_pairline_Pair x1)]), (3600040, .keep (.fnv (.func fn_field_keyed_1) [] [])), (3600041, .keep (.fnv (.func fn_field_keyed_2) [] [])), (3600042, .keep (.fnv (.func fn_field_keyed_3) [] []))]⟩) (Sum.elim (fun p9 => ⟨[(13, .aggk [3600040, 3600041, 3600042]), (1, .cp 1 0), (2, .cp 2 0)], [(1, .cells [(70, .val T_api_Field a)]), (2, .cells [(2, .val T_pairline_Pair x1)]), (3600040, .keep (.fnv (.func fn_field_ended_1) [] [])), (3600041, .keep (.fnv (.func fn_field_ended_2) [] [])), (3600042, .keep (.fnv (.func fn_field_ended_3) [] []))]⟩) (Sum.elim (fun p10 => ⟨[(13, .aggk [3600040, 3600041, 3600042]), (1, .cp 1 0), (2, .cp 2 0)], [(1, .cells [(70, .val T_api_Field a)]), (2, .cells [(2, .val T_pairline_Pair x1)]), (3600040, .keep (.fnv (.func fn_field_allowed_1) [] [])), (3600041, .keep (.fnv (.func fn_field_allowed_2) [] [])), (3600042, .keep (.fnv (.func fn_field_allowed_3) [] []))]⟩) (Sum.elim (fun p11 => ⟨[(13, .aggk [3600280, 3600281, 3600282]), (1, .cp 1 0), (2, .cp 2 0)], [(1, .cells [(70, .val T_api_Field a)]), (2, .cells [(2, .val T_pairline_Pair x1)]), (3, .cells [(1, .val T.u64 p11.1)]), (2002, .cells [(1, .val T.u64 p11.2)]), (3600200, .keep (.cp 3 0)), (3600201, .keep (.cp 2002 0)), (3600240, .keep (.cp 2002 0)), (3600241, .keep (.cp 3 0)), (3600280, .keep (.fnv (.func fn_field_counted_1) [] [3600200, 3600201])), (3600281, .keep (.fnv (.func fn_field_counted_2) [] [3600240, 3600241])), (3600282, .keep (.fnv (.func fn_field_counted_3) [] []))]⟩) (fun p12 => ⟨[(13, .aggk [3600040, 3600041, 3600042]), (1, .cp 1 0), (2, .cp 2 0)], [(1, .cells [(70, .val T_api_Field a)]), (2, .cells [(2, .val T_pairline_Pair x1)]), (3600040, .keep (.fnv (.func fn_field_said_1) [] [])), (3600041, .keep (.fnv (.func fn_field_said_2) [] [])), (3600042, .keep (.fnv (.func fn_field_said_3) [] []))]⟩))))) (fun _ => .nil) f_field_shapeOf rfl rfl rfl (c_call rfl) (.cons (s_o (o_t rfl)) <| .nil) ⟨⟨rfl, rfl⟩, ⟨⟨rfl, rfl⟩, trivial⟩⟩ rfl (
 Sim.seqI <| Sim.opM (M_allocP 1002 [(1, .con (.nilf)), (1, .con (.nilf)), (1, .con (.nilf))] (fun _ _ _ _ => ⟨([.nilf] : List AV), ([.nilf] ++ ([.nilf] ++ ([])) : List AV), rfl, rfl, ⟨_, rfl, rfl, rfl, rfl⟩, ⟨([.nilf] : List AV), ([.nilf] ++ ([]) : List AV), rfl, rfl, ⟨_, rfl, rfl, rfl, rfl⟩, ⟨([.nilf] : List AV), ([] : List AV), rfl, rfl, ⟨_, rfl, rfl, rfl, rfl⟩, rfl⟩⟩⟩) rfl rfl) fun _ =>
 Sim.doneS <| Sim.seqI <| Sim.seqI <| Sim.op1 (h_mv (o_t rfl)) <|
 Sim.doneS <| Sim.blkI <| Sim.seqI <| Sim.seqI <| Sim.op (h_cmp (I := (IT.int .i64)) rfl (o_t rfl) o_i) fun x13 =>
 Sim.op1 (h_mv (o_t rfl)) <|
 Sim.doneS <| Sim.join (τ := Bool) (fun p14 => ⟨[(2, .cp 1002 0), (3, .val (T.int .i64) x7), (4, .val T.b p14)], [(1, .cells [(70, .val T_api_Field a)]), (2, .cells [(2, .val T_pairline_Pair x1)]), (1002, .cells [(1, .con (.nilf)), (1, .con (.nilf)), (1, .con (.nilf))]), (2000001, .ghost (.cp 1 0)), (2000002, .ghost (.cp 2 0))]⟩) (fun p14 =>
 Sim.doneS <| Sim.cond (o_t rfl) (
 Sim.seqI <| Sim.inl (τ := Unit) (φs := []) (n := 1) (L := [(2, .cp 1002 0)]) (Γr := (fun p16 => ⟨[(0, .aggk [3600040, 3600041, 3600042])], [(1, .cells [(70, .val T_api_Field a)]), (2, .cells [(2, .val T_pairline_Pair x1)]), (1002, .cells [(1, .con (.nilf)), (1, .con (.nilf)), (1, .con (.nilf))]), (2000001, .ghost (.cp 1 0)), (2000002, .ghost (.cp 2 0)), (2100002, .ghost (.cp 1002 0)), (3600040, .keep (.fnv (.func fn_field_keyed_1) [] [])), (3600041, .keep (.fnv (.func fn_field_keyed_2) [] [])), (3600042, .keep (.fnv (.func fn_field_keyed_3) [] []))]⟩)) 2100000 (fun p16 => ⟨[(8, .aggk [3600040, 3600041, 3600042]), (2, .cp 1002 0)], [(1, .cells [(70, .val T_api_Field a)]), (2, .cells [(2, .val T_pairline_Pair x1)]), (1002, .cells [(1, .con (.nilf)), (1, .con (.nilf)), (1, .con (.nilf))]), (2000001, .ghost (.cp 1 0)), (2000002, .ghost (.cp 2 0)), (3600040, .keep (.fnv (.func fn_field_keyed_1) [] [])), (3600041, .keep (.fnv (.func fn_field_keyed_2) [] [])), (3600042, .keep (.fnv (.func fn_field_keyed_3) [] []))]⟩) f_field_keyed rfl rfl rfl (c_call rfl) (.nil) ⟨⟨rfl, rfl⟩, trivial⟩ rfl (
 Sim.seqI <| Sim.opM (M_allocP 0 [(1, .con (.nilf)), (1, .con (.nilf)), (1, .con (.nilf))] (fun _ _ _ _ => ⟨([.nilf] : List AV), ([.nilf] ++ ([.nilf] ++ ([])) : List AV), rfl, rfl, ⟨_, rfl, rfl, rfl, rfl⟩, ⟨([.nilf] : List AV), ([.nilf] ++ ([]) : List AV), rfl, rfl, ⟨_, rfl, rfl, rfl, rfl⟩, ⟨([.nilf] : List AV), ([] : List AV), rfl, rfl, ⟨_, rfl, rfl, rfl, rfl⟩, rfl⟩⟩⟩) rfl rfl) fun _ =>
 Sim.doneS <| Sim.seqI <| Sim.opN (M_bldk (φs := [.fnv (.func fn_field_keyed_1) [] [], .fnv (.func fn_field_keyed_2) [] [], .fnv (.func fn_field_keyed_3) [] []]) 3600040 (.cons o_fn <| .cons o_fn <| .cons o_fn <| .nil) rfl rfl ⟨rfl, ⟨rfl, ⟨rfl, trivial⟩⟩⟩ (js := [3600040, 3600041, 3600042]) rfl) <|
 Sim.opM (M_stK (o_t rfl) (o_t rfl) rfl rfl rfl rfl) fun _ =>
 Sim.doneS <| Sim.retIn () (.cons (rg_cK rfl rfl rfl rfl) <| .nil) ⟨⟨⟨rfl, ⟨trivial, ⟨trivial, ⟨trivial, trivial⟩⟩⟩⟩, trivial⟩, ⟨⟨rfl, ⟨trivial, trivial⟩⟩, ⟨⟨rfl, ⟨trivial, trivial⟩⟩, ⟨⟨rfl, ⟨trivial, ⟨trivial, ⟨trivial, trivial⟩⟩⟩⟩, ⟨⟨rfl, trivial⟩, ⟨⟨rfl, trivial⟩, ⟨⟨rfl, trivial⟩, ⟨⟨rfl, trivial⟩, ⟨⟨rfl, trivial⟩, ⟨⟨rfl, trivial⟩, trivial⟩⟩⟩⟩⟩⟩⟩⟩⟩⟩) (fun p16 => BackOk.some' ⟨⟨rfl, ⟨trivial, trivial⟩⟩, ⟨⟨rfl, ⟨trivial, trivial⟩⟩, ⟨⟨rfl, ⟨trivial, ⟨trivial, ⟨trivial, trivial⟩⟩⟩⟩, ⟨⟨rfl, trivial⟩, ⟨⟨rfl, trivial⟩, ⟨⟨rfl, trivial⟩, ⟨⟨rfl, trivial⟩, ⟨⟨rfl, trivial⟩, trivial⟩⟩⟩⟩⟩⟩⟩⟩ rfl (.one rfl) ⟨trivial, ⟨trivial, ⟨trivial, trivial⟩⟩⟩ ⟨⟨rfl, trivial⟩, trivial⟩) (.one fun p16 =>
 Sim.opM (M_stK (o_t rfl) (o_t rfl) rfl rfl rfl rfl) fun _ =>
 Sim.doneS <| Sim.retIn (.inl (())) (.cons (rg_cK rfl rfl rfl rfl) <| .nil) ⟨⟨⟨rfl, ⟨trivial, ⟨trivial, ⟨trivial, trivial⟩⟩⟩⟩, trivial⟩, ⟨⟨rfl, ⟨trivial, trivial⟩⟩, ⟨⟨rfl, ⟨trivial, trivial⟩⟩, ⟨⟨rfl, trivial⟩, ⟨⟨rfl, trivial⟩, ⟨⟨rfl, trivial⟩, ⟨⟨rfl, trivial⟩, ⟨⟨rfl, trivial⟩, trivial⟩⟩⟩⟩⟩⟩⟩⟩)) (
 Sim.seqI <| Sim.op (h_cmp (I := (IT.int .i64)) rfl (o_t rfl) o_i) fun x17 =>
 Sim.op1 (h_mv (o_t rfl)) <|
 Sim.doneS <| Sim.cond (o_t rfl) (
 Sim.seqI <| Sim.inl (τ := Unit) (φs := []) (n := 1) (L := [(2, .cp 1002 0)]) (Γr := (fun p18 => ⟨[(0, .aggk [3600040, 3600041, 3600042])], [(1, .cells [(70, .val T_api_Field a)]), (2, .cells [(2, .val T_pairline_Pair x1)]), (1002, .cells [(1, .con (.nilf)), (1, .con (.nilf)), (1, .con (.nilf))]), (2000001, .ghost (.cp 1 0)), (2000002, .ghost (.cp 2 0)), (2100002, .ghost (.cp 1002 0)), (3600040, .keep (.fnv (.func fn_field_ended_1) [] [])), (3600041, .keep (.fnv (.func fn_field_ended_2) [] [])), (3600042, .keep (.fnv (.func fn_field_ended_3) [] []))]⟩)) 2100000 (fun p18 => ⟨[(11, .aggk [3600040, 3600041, 3600042]), (2, .cp 1002 0)], [(1, .cells [(70, .val T_api_Field a)]), (2, .cells [(2, .val T_pairline_Pair x1)]), (1002, .cells [(1, .con (.nilf)), (1, .con (.nilf)), (1, .con (.nilf))]), (2000001, .ghost (.cp 1 0)), (2000002, .ghost (.cp 2 0)), (3600040, .keep (.fnv (.func fn_field_ended_1) [] [])), (3600041, .keep (.fnv (.func fn_field_ended_2) [] [])), (3600042, .keep (.fnv (.func fn_field_ended_3) [] []))]⟩) f_field_ended rfl rfl rfl (c_call rfl) (.nil) ⟨⟨rfl, rfl⟩, trivial⟩ rfl (
 Sim.seqI <| Sim.opM (M_allocP 0 [(1, .con (.nilf)), (1, .con (.nilf)), (1, .con (.nilf))] (fun _ _ _ _ => ⟨([.nilf] : List AV), ([.nilf] ++ ([.nilf] ++ ([])) : List AV), rfl, rfl, ⟨_, rfl, rfl, rfl, rfl⟩, ⟨([.nilf] : List AV), ([.nilf] ++ ([]) : List AV), rfl, rfl, ⟨_, rfl, rfl, rfl, rfl⟩, ⟨([.nilf] : List AV), ([] : List AV), rfl, rfl, ⟨_, rfl, rfl, rfl, rfl⟩, rfl⟩⟩⟩) rfl rfl) fun _ =>
 Sim.doneS <| Sim.seqI <| Sim.opN (M_bldk (φs := [.fnv (.func fn_field_ended_1) [] [], .fnv (.func fn_field_ended_2) [] [], .fnv (.func fn_field_ended_3) [] []]) 3600040 (.cons o_fn <| .cons o_fn <| .cons o_fn <| .nil) rfl rfl ⟨rfl, ⟨rfl, ⟨rfl, trivial⟩⟩⟩ (js := [3600040, 3600041, 3600042]) rfl) <|
 Sim.opM (M_stK (o_t rfl) (o_t rfl) rfl rfl rfl rfl) fun _ =>
 Sim.doneS <| Sim.retIn () (.cons (rg_cK rfl rfl rfl rfl) <| .nil) ⟨⟨⟨rfl, ⟨trivial, ⟨trivial, ⟨trivial, trivial⟩⟩⟩⟩, trivial⟩, ⟨⟨rfl, ⟨trivial, trivial⟩⟩, ⟨⟨rfl, ⟨trivial, trivial⟩⟩, ⟨⟨rfl, ⟨trivial, ⟨trivial, ⟨trivial, trivial⟩⟩⟩⟩, ⟨⟨rfl, trivial⟩, ⟨⟨rfl, trivial⟩, ⟨⟨rfl, trivial⟩, ⟨⟨rfl, trivial⟩, ⟨⟨rfl, trivial⟩, ⟨⟨rfl, trivial⟩, trivial⟩⟩⟩⟩⟩⟩⟩⟩⟩⟩) (fun p18 => BackOk.some' ⟨⟨rfl, ⟨trivial, trivial⟩⟩, ⟨⟨rfl, ⟨trivial, trivial⟩⟩, ⟨⟨rfl, ⟨trivial, ⟨trivial, ⟨trivial, trivial⟩⟩⟩⟩, ⟨⟨rfl, trivial⟩, ⟨⟨rfl, trivial⟩, ⟨⟨rfl, trivial⟩, ⟨⟨rfl, trivial⟩, ⟨⟨rfl, trivial⟩, trivial⟩⟩⟩⟩⟩⟩⟩⟩ rfl (.one rfl) ⟨trivial, ⟨trivial, ⟨trivial, trivial⟩⟩⟩ ⟨⟨rfl, trivial⟩, trivial⟩) (.one fun p18 =>
 Sim.opM (M_stK (o_t rfl) (o_t rfl) rfl rfl rfl rfl) fun _ =>
 Sim.doneS <| Sim.retIn (.inr (.inl (()))) (.cons (rg_cK rfl rfl rfl rfl) <| .nil) ⟨⟨⟨rfl, ⟨trivial, ⟨trivial, ⟨trivial, trivial⟩⟩⟩⟩, trivial⟩, ⟨⟨rfl, ⟨trivial, trivial⟩⟩, ⟨⟨rfl, ⟨trivial, trivial⟩⟩, ⟨⟨rfl, trivial⟩, ⟨⟨rfl, trivial⟩, ⟨⟨rfl, trivial⟩, ⟨⟨rfl, trivial⟩, ⟨⟨rfl, trivial⟩, trivial⟩⟩⟩⟩⟩⟩⟩⟩)) (
 Sim.seqI <| Sim.op (h_cmp (I := (IT.int .i64)) rfl (o_t rfl) o_i) fun x19 =>
 Sim.op1 (h_mv (o_t rfl)) <|
 Sim.doneS <| Sim.cond (o_t rfl) (
 Sim.seqI <| Sim.inl (τ := Unit) (φs := []) (n := 1) (L := [(2, .cp 1002 0)]) (Γr := (fun p20 => ⟨[(0, .aggk [3600040, 3600041, 3600042])], [(1, .cells [(70, .val T_api_Field a)]), (2, .cells [(2, .val T_pairline_Pair x1)]), (1002, .cells [(1, .con (.nilf)), (1, .con (.nilf)), (1, .con (.nilf))]), (2000001, .ghost (.cp 1 0)), (2000002, .ghost (.cp 2 0)), (2100002, .ghost (.cp 1002 0)), (3600040, .keep (.fnv (.func fn_field_allowed_1) [] [])), (3600041, .keep (.fnv (.func fn_field_allowed_2) [] [])), (3600042, .keep (.fnv (.func fn_field_allowed_3) [] []))]⟩)) 2100000 (fun p20 => ⟨[(14, .aggk [3600040, 3600041, 3600042]), (2, .cp 1002 0)], [(1, .cells [(70, .val T_api_Field a)]), (2, .cells [(2, .val T_pairline_Pair x1)]), (1002, .cells [(1, .con (.nilf)), (1, .con (.nilf)), (1, .con (.nilf))]), (2000001, .ghost (.cp 1 0)), (2000002, .ghost (.cp 2 0)), (3600040, .keep (.fnv (.func fn_field_allowed_1) [] [])), (3600041, .keep (.fnv (.func fn_field_allowed_2) [] [])), (3600042, .keep (.fnv (.func fn_field_allowed_3) [] []))]⟩) f_field_allowed rfl rfl rfl (c_call rfl) (.nil) ⟨⟨rfl, rfl⟩, trivial⟩ rfl (
 Sim.seqI <| Sim.opM (M_allocP 0 [(1, .con (.nilf)), (1, .con (.nilf)), (1, .con (.nilf))] (fun _ _ _ _ => ⟨([.nilf] : List AV), ([.nilf] ++ ([.nilf] ++ ([])) : List AV), rfl, rfl, ⟨_, rfl, rfl, rfl, rfl⟩, ⟨([.nilf] : List AV), ([.nilf] ++ ([]) : List AV), rfl, rfl, ⟨_, rfl, rfl, rfl, rfl⟩, ⟨([.nilf] : List AV), ([] : List AV), rfl, rfl, ⟨_, rfl, rfl, rfl, rfl⟩, rfl⟩⟩⟩) rfl rfl) fun _ =>
 Sim.doneS <| Sim.seqI <| Sim.opN (M_bldk (φs := [.fnv (.func fn_field_allowed_1) [] [], .fnv (.func fn_field_allowed_2) [] [], .fnv (.func fn_field_allowed_3) [] []]) 3600040 (.cons o_fn <| .cons o_fn <| .cons o_fn <| .nil) rfl rfl ⟨rfl, ⟨rfl, ⟨rfl, trivial⟩⟩⟩ (js := [3600040, 3600041, 3600042]) rfl) <|
 Sim.opM (M_stK (o_t rfl) (o_t rfl) rfl rfl rfl rfl) fun _ =>
 Sim.doneS <| Sim.retIn () (.cons (rg_cK rfl rfl rfl rfl) <| .nil) ⟨⟨⟨rfl, ⟨trivial, ⟨trivial, ⟨trivial, trivial⟩⟩⟩⟩, trivial⟩, ⟨⟨rfl, ⟨trivial, trivial⟩⟩, ⟨⟨rfl, ⟨trivial, trivial⟩⟩, ⟨⟨rfl, ⟨trivial, ⟨trivial, ⟨trivial, trivial⟩⟩⟩⟩, ⟨⟨rfl, trivial⟩, ⟨⟨rfl, trivial⟩, ⟨⟨rfl, trivial⟩, ⟨⟨rfl, trivial⟩, ⟨⟨rfl, trivial⟩, ⟨⟨rfl, trivial⟩, trivial⟩⟩⟩⟩⟩⟩⟩⟩⟩⟩) (fun p20 => BackOk.some' ⟨⟨rfl, ⟨trivial, trivial⟩⟩, ⟨⟨rfl, ⟨trivial, trivial⟩⟩, ⟨⟨rfl, ⟨trivial, ⟨trivial, ⟨trivial, trivial⟩⟩⟩⟩, ⟨⟨rfl, trivial⟩, ⟨⟨rfl, trivial⟩, ⟨⟨rfl, trivial⟩, ⟨⟨rfl, trivial⟩, ⟨⟨rfl, trivial⟩, trivial⟩⟩⟩⟩⟩⟩⟩⟩ rfl (.one rfl) ⟨trivial, ⟨trivial, ⟨trivial, trivial⟩⟩⟩ ⟨⟨rfl, trivial⟩, trivial⟩) (.one fun p20 =>
 Sim.opM (M_stK (o_t rfl) (o_t rfl) rfl rfl rfl rfl) fun _ =>
 Sim.doneS <| Sim.retIn (.inr (.inr (.inl (())))) (.cons (rg_cK rfl rfl rfl rfl) <| .nil) ⟨⟨⟨rfl, ⟨trivial, ⟨trivial, ⟨trivial, trivial⟩⟩⟩⟩, trivial⟩, ⟨⟨rfl, ⟨trivial, trivial⟩⟩, ⟨⟨rfl, ⟨trivial, trivial⟩⟩, ⟨⟨rfl, trivial⟩, ⟨⟨rfl, trivial⟩, ⟨⟨rfl, trivial⟩, ⟨⟨rfl, trivial⟩, ⟨⟨rfl, trivial⟩, trivial⟩⟩⟩⟩⟩⟩⟩⟩)) (
 Sim.seqI <| Sim.seqI <| Sim.op (h_cmp (I := (IT.int .i64)) rfl (o_t rfl) o_i) fun x21 =>
 Sim.op1 (h_mv (o_t rfl)) <|
 Sim.doneS <| Sim.join (τ := Bool) (fun p22 => ⟨[(2, .cp 1002 0), (3, .val (T.int .i64) x7), (15, .val T.b p22)], [(1, .cells [(70, .val T_api_Field a)]), (2, .cells [(2, .val T_pairline_Pair x1)]), (1002, .cells [(1, .con (.nilf)), (1, .con (.nilf)), (1, .con (.nilf))]), (2000001, .ghost (.cp 1 0)), (2000002, .ghost (.cp 2 0))]⟩) (fun p22 =>
 Sim.doneS <| Sim.cond (o_t rfl) (
 Sim.seqI <| Sim.inl (τ := Unit) (φs := [.val T.u64 (0 : UInt64), .val T.u64 (65535 : UInt64)]) (n := 1) (L := [(2, .cp 1002 0)]) (Γr := (fun p24 => ⟨[(0, .aggk [3600280, 3600281, 3600282])], [(1, .cells [(70, .val T_api_Field a)]), (2, .cells [(2, .val T_pairline_Pair x1)]), (3, .cells [(1, .val T.u64 (65535 : UInt64))]), (1002, .cells [(1, .con (.nilf)), (1, .con (.nilf)), (1, .con (.nilf))]), (2002, .cells [(1, .val T.u64 (0 : UInt64))]), (2000001, .ghost (.cp 1 0)), (2000002, .ghost (.cp 2 0)), (2100002, .ghost (.cp 1002 0)), (3600200, .keep (.cp 3 0)), (3600201, .keep (.cp 2002 0)), (3600240, .keep (.cp 2002 0)), (3600241, .keep (.cp 3 0)), (3600280, .keep (.fnv (.func fn_field_counted_1) [] [3600200, 3600201])), (3600281, .keep (.fnv (.func fn_field_counted_2) [] [3600240, 3600241])), (3600282, .keep (.fnv (.func fn_field_counted_3) [] []))]⟩)) 2100000 (fun p24 => ⟨[(18, .aggk [3600280, 3600281, 3600282]), (2, .cp 1002 0)], [(1, .cells [(70, .val T_api_Field a)]), (2, .cells [(2, .val T_pairline_Pair x1)]), (3, .cells [(1, .val T.u64 (65535 : UInt64))]), (1002, .cells [(1, .con (.nilf)), (1, .con (.nilf)), (1, .con (.nilf))]), (2002, .cells [(1, .val T.u64 (0 : UInt64))]), (2000001, .ghost (.cp 1 0)), (2000002, .ghost (.cp 2 0)), (3600200, .keep (.cp 3 0)), (3600201, .keep (.cp 2002 0)), (3600240, .keep (.cp 2002 0)), (3600241, .keep (.cp 3 0)), (3600280, .keep (.fnv (.func fn_field_counted_1) [] [3600200, 3600201])), (3600281, .keep (.fnv (.func fn_field_counted_2) [] [3600240, 3600241])), (3600282, .keep (.fnv (.func fn_field_counted_3) [] []))]⟩) f_field_counted rfl rfl rfl (c_call rfl) (.cons (s_o (o_u64 0 rfl)) <| .cons (s_o (o_u64 65535 rfl)) <| .nil) ⟨⟨rfl, rfl⟩, trivial⟩ rfl (
 Sim.seqI <| Sim.opM (M_box (t := T.u64) 2002 rfl rfl (o_t rfl)) fun _ =>
 Sim.opM (M_box (t := T.u64) 3 rfl rfl (o_t rfl)) fun _ =>
 Sim.opM (M_allocP 4 [(1, .con (.nilf)), (1, .con (.nilf)), (1, .con (.nilf))] (fun _ _ _ _ => ⟨([.nilf] : List AV), ([.nilf] ++ ([.nilf] ++ ([])) : List AV), rfl, rfl, ⟨_, rfl, rfl, rfl, rfl⟩, ⟨([.nilf] : List AV), ([.nilf] ++ ([]) : List AV), rfl, rfl, ⟨_, rfl, rfl, rfl, rfl⟩, ⟨([.nilf] : List AV), ([] : List AV), rfl, rfl, ⟨_, rfl, rfl, rfl, rfl⟩, rfl⟩⟩⟩) rfl rfl) fun _ =>
 Sim.doneS <| Sim.seqI <| Sim.opN (M_mkf (φs := []) (ψs := [.cp 3 0, .cp 2002 0]) 3600200 (.nil) (.cons (o_t rfl) <| .cons (o_t rfl) <| .nil) rfl ⟨rfl, ⟨rfl, trivial⟩⟩ (js := []) (ks := [3600200, 3600201]) rfl rfl) <|
 Sim.opN (M_mkf (φs := []) (ψs := [.cp 2002 0, .cp 3 0]) 3600240 (.nil) (.cons (o_t rfl) <| .cons (o_t rfl) <| .nil) rfl ⟨rfl, ⟨rfl, trivial⟩⟩ (js := []) (ks := [3600240, 3600241]) rfl rfl) <|
 Sim.opN (M_bldk (φs := [.fnv (.func fn_field_counted_1) [] [3600200, 3600201], .fnv (.func fn_field_counted_2) [] [3600240, 3600241], .fnv (.func fn_field_counted_3) [] []]) 3600280 (.cons (o_t rfl) <| .cons (o_t rfl) <| .cons o_fn <| .nil) rfl rfl ⟨rfl, ⟨rfl, ⟨rfl, trivial⟩⟩⟩ (js := [3600280, 3600281, 3600282]) rfl) <|
 Sim.opM (M_stK (o_t rfl) (o_t rfl) rfl rfl rfl rfl) fun _ =>
 Sim.doneS <| Sim.retIn () (.cons (rg_cK rfl rfl rfl rfl) <| .nil) ⟨⟨⟨rfl, ⟨trivial, ⟨trivial, ⟨trivial, trivial⟩⟩⟩⟩, trivial⟩, ⟨⟨rfl, ⟨trivial, trivial⟩⟩, ⟨⟨rfl, ⟨trivial, trivial⟩⟩, ⟨⟨rfl, ⟨trivial, trivial⟩⟩, ⟨⟨rfl, ⟨trivial, ⟨trivial, ⟨trivial, trivial⟩⟩⟩⟩, ⟨⟨rfl, ⟨trivial, trivial⟩⟩, ⟨⟨rfl, trivial⟩, ⟨⟨rfl, trivial⟩, ⟨⟨rfl, trivial⟩, ⟨⟨rfl, trivial⟩, ⟨⟨rfl, trivial⟩, ⟨⟨rfl, trivial⟩, ⟨⟨rfl, trivial⟩, ⟨⟨rfl, ⟨trivial, ⟨trivial, trivial⟩⟩⟩, ⟨⟨rfl, ⟨trivial, ⟨trivial, trivial⟩⟩⟩, ⟨⟨rfl, trivial⟩, trivial⟩⟩⟩⟩⟩⟩⟩⟩⟩⟩⟩⟩⟩⟩⟩⟩) (fun p24 => BackOk.some' ⟨⟨rfl, ⟨trivial, trivial⟩⟩, ⟨⟨rfl, ⟨trivial, trivial⟩⟩, ⟨⟨rfl, ⟨trivial, trivial⟩⟩, ⟨⟨rfl, ⟨trivial, ⟨trivial, ⟨trivial, trivial⟩⟩⟩⟩, ⟨⟨rfl, ⟨trivial, trivial⟩⟩, ⟨⟨rfl, trivial⟩, ⟨⟨rfl, trivial⟩, ⟨⟨rfl, trivial⟩, ⟨⟨rfl, trivial⟩, ⟨⟨rfl, trivial⟩, ⟨⟨rfl, trivial⟩, ⟨⟨rfl, ⟨trivial, ⟨trivial, trivial⟩⟩⟩, ⟨⟨rfl, ⟨trivial, ⟨trivial, trivial⟩⟩⟩, ⟨⟨rfl, trivial⟩, trivial⟩⟩⟩⟩⟩⟩⟩⟩⟩⟩⟩⟩⟩⟩ rfl (.one rfl) ⟨trivial, ⟨trivial, ⟨trivial, trivial⟩⟩⟩ ⟨⟨rfl, trivial⟩, trivial⟩) (.one fun p24 =>
 Sim.opM (M_stK (o_t rfl) (o_t rfl) rfl rfl rfl rfl) fun _ =>
 Sim.doneS <| Sim.retIn (.inr (.inr (.inr (.inl (((65535 : UInt64), (0 : UInt64))))))) (.cons (rg_cK rfl rfl rfl rfl) <| .nil) ⟨⟨⟨rfl, ⟨trivial, ⟨trivial, ⟨trivial, trivial⟩⟩⟩⟩, trivial⟩, ⟨⟨rfl, ⟨trivial, trivial⟩⟩, ⟨⟨rfl, ⟨trivial, trivial⟩⟩, ⟨⟨rfl, ⟨trivial, trivial⟩⟩, ⟨⟨rfl, ⟨trivial, trivial⟩⟩, ⟨⟨rfl, trivial⟩, ⟨⟨rfl, trivial⟩, ⟨⟨rfl, trivial⟩, ⟨⟨rfl, trivial⟩, ⟨⟨rfl, trivial⟩, ⟨⟨rfl, trivial⟩, ⟨⟨rfl, ⟨trivial, ⟨trivial, trivial⟩⟩⟩, ⟨⟨rfl, ⟨trivial, ⟨trivial, trivial⟩⟩⟩, ⟨⟨rfl, trivial⟩, trivial⟩⟩⟩⟩⟩⟩⟩⟩⟩⟩⟩⟩⟩⟩)) (
 Sim.seqI <| Sim.op (h_cmp (I := (IT.int .i64)) rfl (o_t rfl) o_i) fun x25 =>
 Sim.op1 (h_mv (o_t rfl)) <|
 Sim.doneS <| Sim.cond (o_t rfl) (
 Sim.seqI <| Sim.inl (τ := Unit) (φs := [.val T.u64 (0 : UInt64), .val T.u64 (4294967295 : UInt64)]) (n := 1) (L := [(2, .cp 1002 0)]) (Γr := (fun p26 => ⟨[(0, .aggk [3600280, 3600281, 3600282])], [(1, .cells [(70, .val T_api_Field a)]), (2, .cells [(2, .val T_pairline_Pair x1)]), (3, .cells [(1, .val T.u64 (4294967295 : UInt64))]), (1002, .cells [(1, .con (.nilf)), (1, .con (.nilf)), (1, .con (.nilf))]), (2002, .cells [(1, .val T.u64 (0 : UInt64))]), (2000001, .ghost (.cp 1 0)), (2000002, .ghost (.cp 2 0)), (2100002, .ghost (.cp 1002 0)), (3600200, .keep (.cp 3 0)), (3600201, .keep (.cp 2002 0)), (3600240, .keep (.cp 2002 0)), (3600241, .keep (.cp 3 0)), (3600280, .keep (.fnv (.func fn_field_counted_1) [] [3600200, 3600201])), (3600281, .keep (.fnv (.func fn_field_counted_2) [] [3600240, 3600241])), (3600282, .keep (.fnv (.func fn_field_counted_3) [] []))]⟩)) 2100000 (fun p26 => ⟨[(21, .aggk [3600280, 3600281, 3600282]), (2, .cp 1002 0)], [(1, .cells [(70, .val T_api_Field a)]), (2, .cells [(2, .val T_pairline_Pair x1)]), (3, .cells [(1, .val T.u64 (4294967295 : UInt64))]), (1002, .cells [(1, .con (.nilf)), (1, .con (.nilf)), (1, .con (.nilf))]), (2002, .cells [(1, .val T.u64 (0 : UInt64))]), (2000001, .ghost (.cp 1 0)), (2000002, .ghost (.cp 2 0)), (3600200, .keep (.cp 3 0)), (3600201, .keep (.cp 2002 0)), (3600240, .keep (.cp 2002 0)), (3600241, .keep (.cp 3 0)), (3600280, .keep (.fnv (.func fn_field_counted_1) [] [3600200, 3600201])), (3600281, .keep (.fnv (.func fn_field_counted_2) [] [3600240, 3600241])), (3600282, .keep (.fnv (.func fn_field_counted_3) [] []))]⟩) f_field_counted rfl rfl rfl (c_call rfl) (.cons (s_o (o_u64 0 rfl)) <| .cons (s_o (o_u64 4294967295 rfl)) <| .nil) ⟨⟨rfl, rfl⟩, trivial⟩ rfl (
 Sim.seqI <| Sim.opM (M_box (t := T.u64) 2002 rfl rfl (o_t rfl)) fun _ =>
 Sim.opM (M_box (t := T.u64) 3 rfl rfl (o_t rfl)) fun _ =>
 Sim.opM (M_allocP 4 [(1, .con (.nilf)), (1, .con (.nilf)), (1, .con (.nilf))] (fun _ _ _ _ => ⟨([.nilf] : List AV), ([.nilf] ++ ([.nilf] ++ ([])) : List AV), rfl, rfl, ⟨_, rfl, rfl, rfl, rfl⟩, ⟨([.nilf] : List AV), ([.nilf] ++ ([]) : List AV), rfl, rfl, ⟨_, rfl, rfl, rfl, rfl⟩, ⟨([.nilf] : List AV), ([] : List AV), rfl, rfl, ⟨_, rfl, rfl, rfl, rfl⟩, rfl⟩⟩⟩) rfl rfl) fun _ =>
 Sim.doneS <| Sim.seqI <| Sim.opN (M_mkf (φs := []) (ψs := [.cp 3 0, .cp 2002 0]) 3600200 (.nil) (.cons (o_t rfl) <| .cons (o_t rfl) <| .nil) rfl ⟨rfl, ⟨rfl, trivial⟩⟩ (js := []) (ks := [3600200, 3600201]) rfl rfl) <|
 Sim.opN (M_mkf (φs := []) (ψs := [.cp 2002 0, .cp 3 0]) 3600240 (.nil) (.cons (o_t rfl) <| .cons (o_t rfl) <| .nil) rfl ⟨rfl, ⟨rfl, trivial⟩⟩ (js := []) (ks := [3600240, 3600241]) rfl rfl) <|
 Sim.opN (M_bldk (φs := [.fnv (.func fn_field_counted_1) [] [3600200, 3600201], .fnv (.func fn_field_counted_2) [] [3600240, 3600241], .fnv (.func fn_field_counted_3) [] []]) 3600280 (.cons (o_t rfl) <| .cons (o_t rfl) <| .cons o_fn <| .nil) rfl rfl ⟨rfl, ⟨rfl, ⟨rfl, trivial⟩⟩⟩ (js := [3600280, 3600281, 3600282]) rfl) <|
 Sim.opM (M_stK (o_t rfl) (o_t rfl) rfl rfl rfl rfl) fun _ =>
 Sim.doneS <| Sim.retIn () (.cons (rg_cK rfl rfl rfl rfl) <| .nil) ⟨⟨⟨rfl, ⟨trivial, ⟨trivial, ⟨trivial, trivial⟩⟩⟩⟩, trivial⟩, ⟨⟨rfl, ⟨trivial, trivial⟩⟩, ⟨⟨rfl, ⟨trivial, trivial⟩⟩, ⟨⟨rfl, ⟨trivial, trivial⟩⟩, ⟨⟨rfl, ⟨trivial, ⟨trivial, ⟨trivial, trivial⟩⟩⟩⟩, ⟨⟨rfl, ⟨trivial, trivial⟩⟩, ⟨⟨rfl, trivial⟩, ⟨⟨rfl, trivial⟩, ⟨⟨rfl, trivial⟩, ⟨⟨rfl, trivial⟩, ⟨⟨rfl, trivial⟩, ⟨⟨rfl, trivial⟩, ⟨⟨rfl, trivial⟩, ⟨⟨rfl, ⟨trivial, ⟨trivial, trivial⟩⟩⟩, ⟨⟨rfl, ⟨trivial, ⟨trivial, trivial⟩⟩⟩, ⟨⟨rfl, trivial⟩, trivial⟩⟩⟩⟩⟩⟩⟩⟩⟩⟩⟩⟩⟩⟩⟩⟩) (fun p26 => BackOk.some' ⟨⟨rfl, ⟨trivial, trivial⟩⟩, ⟨⟨rfl, ⟨trivial, trivial⟩⟩, ⟨⟨rfl, ⟨trivial, trivial⟩⟩, ⟨⟨rfl, ⟨trivial, ⟨trivial, ⟨trivial, trivial⟩⟩⟩⟩, ⟨⟨rfl, ⟨trivial, trivial⟩⟩, ⟨⟨rfl, trivial⟩, ⟨⟨rfl, trivial⟩, ⟨⟨rfl, trivial⟩, ⟨⟨rfl, trivial⟩, ⟨⟨rfl, trivial⟩, ⟨⟨rfl, trivial⟩, ⟨⟨rfl, ⟨trivial, ⟨trivial, trivial⟩⟩⟩, ⟨⟨rfl, ⟨trivial, ⟨trivial, trivial⟩⟩⟩, ⟨⟨rfl, trivial⟩, trivial⟩⟩⟩⟩⟩⟩⟩⟩⟩⟩⟩⟩⟩⟩ rfl (.one rfl) ⟨trivial, ⟨trivial, ⟨trivial, trivial⟩⟩⟩ ⟨⟨rfl, trivial⟩, trivial⟩) (.one fun p26 =>
 Sim.opM (M_stK (o_t rfl) (o_t rfl) rfl rfl rfl rfl) fun _ =>
 Sim.doneS <| Sim.retIn (.inr (.inr (.inr (.inl (((4294967295 : UInt64), (0 : UInt64))))))) (.cons (rg_cK rfl rfl rfl rfl) <| .nil) ⟨⟨⟨rfl, ⟨trivial, ⟨trivial, ⟨trivial, trivial⟩⟩⟩⟩, trivial⟩, ⟨⟨rfl, ⟨trivial, trivial⟩⟩, ⟨⟨rfl, ⟨trivial, trivial⟩⟩, ⟨⟨rfl, ⟨trivial, trivial⟩⟩, ⟨⟨rfl, ⟨trivial, trivial⟩⟩, ⟨⟨rfl, trivial⟩, ⟨⟨rfl, trivial⟩, ⟨⟨rfl, trivial⟩, ⟨⟨rfl, trivial⟩, ⟨⟨rfl, trivial⟩, ⟨⟨rfl, trivial⟩, ⟨⟨rfl, ⟨trivial, ⟨trivial, trivial⟩⟩⟩, ⟨⟨rfl, ⟨trivial, ⟨trivial, trivial⟩⟩⟩, ⟨⟨rfl, trivial⟩, trivial⟩⟩⟩⟩⟩⟩⟩⟩⟩⟩⟩⟩⟩⟩)) (
 Sim.seqI <| Sim.op (h_cmp (I := (IT.int .i64)) rfl (o_t rfl) o_i) fun x27 =>
 Sim.op1 (h_mv (o_t rfl)) <|
 Sim.doneS <| Sim.cond (o_t rfl) (
 Sim.seqI <| Sim.inl (τ := Unit) (φs := [.val T.u64 (1 : UInt64), .val T.u64 (1 : UInt64)]) (n := 1) (L := [(2, .cp 1002 0)]) (Γr := (fun p28 => ⟨[(0, .aggk [3600280, 3600281, 3600282])], [(1, .cells [(70, .val T_api_Field a)]), (2, .cells [(2, .val T_pairline_Pair x1)]), (3, .cells [(1, .val T.u64 (1 : UInt64))]), (1002, .cells [(1, .con (.nilf)), (1, .con (.nilf)), (1, .con (.nilf))]), (2002, .cells [(1, .val T.u64 (1 : UInt64))]), (2000001, .ghost (.cp 1 0)), (2000002, .ghost (.cp 2 0)), (2100002, .ghost (.cp 1002 0)), (3600200, .keep (.cp 3 0)), (3600201, .keep (.cp 2002 0)), (3600240, .keep (.cp 2002 0)), (3600241, .keep (.cp 3 0)), (3600280, .keep (.fnv (.func fn_field_counted_1) [] [3600200, 3600201])), (3600281, .keep (.fnv (.func fn_field_counted_2) [] [3600240, 3600241])), (3600282, .keep (.fnv (.func fn_field_counted_3) [] []))]⟩)) 2100000 (fun p28 => ⟨[(24, .aggk [3600280, 3600281, 3600282]), (2, .cp 1002 0)], [(1, .cells [(70, .val T_api_Field a)]), (2, .cells [(2, .val T_pairline_Pair x1)]), (3, .cells [(1, .val T.u64 (1 : UInt64))]), (1002, .cells [(1, .con (.nilf)), (1, .con (.nilf)), (1, .con (.nilf))]), (2002, .cells [(1, .val T.u64 (1 : UInt64))]), (2000001, .ghost (.cp 1 0)), (2000002, .ghost (.cp 2 0)), (3600200, .keep (.cp 3 0)), (3600201, .keep (.cp 2002 0)), (3600240, .keep (.cp 2002 0)), (3600241, .keep (.cp 3 0)), (3600280, .keep (.fnv (.func fn_field_counted_1) [] [3600200, 3600201])), (3600281, .keep (.fnv (.func fn_field_counted_2) [] [3600240, 3600241])), (3600282, .keep (.fnv (.func fn_field_counted_3) [] []))]⟩) f_field_counted rfl rfl rfl (c_call rfl) (.cons (s_o (o_u64 1 rfl)) <| .cons (s_o (o_u64 1 rfl)) <| .nil) ⟨⟨rfl, rfl⟩, trivial⟩ rfl (
 Sim.seqI <| Sim.opM (M_box (t := T.u64) 2002 rfl rfl (o_t rfl)) fun _ =>
 Sim.opM (M_box (t := T.u64) 3 rfl rfl (o_t rfl)) fun _ =>
 Sim.opM (M_allocP 4 [(1, .con (.nilf)), (1, .con (.nilf)), (1, .con (.nilf))] (fun _ _ _ _ => ⟨([.nilf] : List AV), ([.nilf] ++ ([.nilf] ++ ([])) : List AV), rfl, rfl, ⟨_, rfl, rfl, rfl, rfl⟩, ⟨([.nilf] : List AV), ([.nilf] ++ ([]) : List AV), rfl, rfl, ⟨_, rfl, rfl, rfl, rfl⟩, ⟨([.nilf] : List AV), ([] : List AV), rfl, rfl, ⟨_, rfl, rfl, rfl, rfl⟩, rfl⟩⟩⟩) rfl rfl) fun _ =>
 Sim.doneS <| Sim.seqI <| Sim.opN (M_mkf (φs := []) (ψs := [.cp 3 0, .cp 2002 0]) 3600200 (.nil) (.cons (o_t rfl) <| .cons (o_t rfl) <| .nil) rfl ⟨rfl, ⟨rfl, trivial⟩⟩ (js := []) (ks := [3600200, 3600201]) rfl rfl) <|
 Sim.opN (M_mkf (φs := []) (ψs := [.cp 2002 0, .cp 3 0]) 3600240 (.nil) (.cons (o_t rfl) <| .cons (o_t rfl) <| .nil) rfl ⟨rfl, ⟨rfl, trivial⟩⟩ (js := []) (ks := [3600240, 3600241]) rfl rfl) <|
 Sim.opN (M_bldk (φs := [.fnv (.func fn_field_counted_1) [] [3600200, 3600201], .fnv (.func fn_field_counted_2) [] [3600240, 3600241], .fnv (.func fn_field_counted_3) [] []]) 3600280 (.cons (o_t rfl) <| .cons (o_t rfl) <| .cons o_fn <| .nil) rfl rfl ⟨rfl, ⟨rfl, ⟨rfl, trivial⟩⟩⟩ (js := [3600280, 3600281, 3600282]) rfl) <|
 Sim.opM (M_stK (o_t rfl) (o_t rfl) rfl rfl rfl rfl) fun _ =>
 Sim.doneS <| Sim.retIn () (.cons (rg_cK rfl rfl rfl rfl) <| .nil) ⟨⟨⟨rfl, ⟨trivial, ⟨trivial, ⟨trivial, trivial⟩⟩⟩⟩, trivial⟩, ⟨⟨rfl, ⟨trivial, trivial⟩⟩, ⟨⟨rfl, ⟨trivial, trivial⟩⟩, ⟨⟨rfl, ⟨trivial, trivial⟩⟩, ⟨⟨rfl, ⟨trivial, ⟨trivial, ⟨trivial, trivial⟩⟩⟩⟩, ⟨⟨rfl, ⟨trivial, trivial⟩⟩, ⟨⟨rfl, trivial⟩, ⟨⟨rfl, trivial⟩, ⟨⟨rfl, trivial⟩, ⟨⟨rfl, trivial⟩, ⟨⟨rfl, trivial⟩, ⟨⟨rfl, trivial⟩, ⟨⟨rfl, trivial⟩, ⟨⟨rfl, ⟨trivial, ⟨trivial, trivial⟩⟩⟩, ⟨⟨rfl, ⟨trivial, ⟨trivial, trivial⟩⟩⟩, ⟨⟨rfl, trivial⟩, trivial⟩⟩⟩⟩⟩⟩⟩⟩⟩⟩⟩⟩⟩⟩⟩⟩) (fun p28 => BackOk.some' ⟨⟨rfl, ⟨trivial, trivial⟩⟩, ⟨⟨rfl, ⟨trivial, trivial⟩⟩, ⟨⟨rfl, ⟨trivial, trivial⟩⟩, ⟨⟨rfl, ⟨trivial, ⟨trivial, ⟨trivial, trivial⟩⟩⟩⟩, ⟨⟨rfl, ⟨trivial, trivial⟩⟩, ⟨⟨rfl, trivial⟩, ⟨⟨rfl, trivial⟩, ⟨⟨rfl, trivial⟩, ⟨⟨rfl, trivial⟩, ⟨⟨rfl, trivial⟩, ⟨⟨rfl, trivial⟩, ⟨⟨rfl, ⟨trivial, ⟨trivial, trivial⟩⟩⟩, ⟨⟨rfl, ⟨trivial, ⟨trivial, trivial⟩⟩⟩, ⟨⟨rfl, trivial⟩, trivial⟩⟩⟩⟩⟩⟩⟩⟩⟩⟩⟩⟩⟩⟩ rfl (.one rfl) ⟨trivial, ⟨trivial, ⟨trivial, trivial⟩⟩⟩ ⟨⟨rfl, trivial⟩, trivial⟩) (.one fun p28 =>
 Sim.opM (M_stK (o_t rfl) (o_t rfl) rfl rfl rfl rfl) fun _ =>
 Sim.doneS <| Sim.retIn (.inr (.inr (.inr (.inl (((1 : UInt64), (1 : UInt64))))))) (.cons (rg_cK rfl rfl rfl rfl) <| .nil) ⟨⟨⟨rfl, ⟨trivial, ⟨trivial, ⟨trivial, trivial⟩⟩⟩⟩, trivial⟩, ⟨⟨rfl, ⟨trivial, trivial⟩⟩, ⟨⟨rfl, ⟨trivial, trivial⟩⟩, ⟨⟨rfl, ⟨trivial, trivial⟩⟩, ⟨⟨rfl, ⟨trivial, trivial⟩⟩, ⟨⟨rfl, trivial⟩, ⟨⟨rfl, trivial⟩, ⟨⟨rfl, trivial⟩, ⟨⟨rfl, trivial⟩, ⟨⟨rfl, trivial⟩, ⟨⟨rfl, trivial⟩, ⟨⟨rfl, ⟨trivial, ⟨trivial, trivial⟩⟩⟩, ⟨⟨rfl, ⟨trivial, ⟨trivial, trivial⟩⟩⟩, ⟨⟨rfl, trivial⟩, trivial⟩⟩⟩⟩⟩⟩⟩⟩⟩⟩⟩⟩⟩⟩)) (
 Sim.seqI <| Sim.seqI <| Sim.op (h_cmp (I := (IT.int .i64)) rfl (o_t rfl) o_i) fun x29 =>
 Sim.op1 (h_mv (o_t rfl)) <|
 Sim.doneS <| Sim.join (τ := Bool) (fun p30 => ⟨[(2, .cp 1002 0), (3, .val (T.int .i64) x7), (25, .val T.b p30)], [(1, .cells [(70, .val T_api_Field a)]), (2, .cells [(2, .val T_pairline_Pair x1)]), (1002, .cells [(1, .con (.nilf)), (1, .con (.nilf)), (1, .con (.nilf))]), (2000001, .ghost (.cp 1 0)), (2000002, .ghost (.cp 2 0))]⟩) (fun p30 =>
 Sim.doneS <| Sim.cond (o_t rfl) (
 Sim.seqI <| Sim.inl (τ := Unit) (φs := [.val T.u64 (0 : UInt64), .val T.u64 (18446744073709551615 : UInt64)]) (n := 1) (L := [(2, .cp 1002 0)]) (Γr := (fun p32 => ⟨[(0, .aggk [3600280, 3600281, 3600282])], [(1, .cells [(70, .val T_api_Field a)]), (2, .cells [(2, .val T_pairline_Pair x1)]), (3, .cells [(1, .val T.u64 (18446744073709551615 : UInt64))]), (1002, .cells [(1, .con (.nilf)), (1, .con (.nilf)), (1, .con (.nilf))]), (2002, .cells [(1, .val T.u64 (0 : UInt64))]), (2000001, .ghost (.cp 1 0)), (2000002, .ghost (.cp 2 0)), (2100002, .ghost (.cp 1002 0)), (3600200, .keep (.cp 3 0)), (3600201, .keep (.cp 2002 0)), (3600240, .keep (.cp 2002 0)), (3600241, .keep (.cp 3 0)), (3600280, .keep (.fnv (.func fn_field_counted_1) [] [3600200, 3600201])), (3600281, .keep (.fnv (.func fn_field_counted_2) [] [3600240, 3600241])), (3600282, .keep (.fnv (.func fn_field_counted_3) [] []))]⟩)) 2100000 (fun p32 => ⟨[(28, .aggk [3600280, 3600281, 3600282]), (2, .cp 1002 0)], [(1, .cells [(70, .val T_api_Field a)]), (2, .cells [(2, .val T_pairline_Pair x1)]), (3, .cells [(1, .val T.u64 (18446744073709551615 : UInt64))]), (1002, .cells [(1, .con (.nilf)), (1, .con (.nilf)), (1, .con (.nilf))]), (2002, .cells [(1, .val T.u64 (0 : UInt64))]), (2000001, .ghost (.cp 1 0)), (2000002, .ghost (.cp 2 0)), (3600200, .keep (.cp 3 0)), (3600201, .keep (.cp 2002 0)), (3600240, .keep (.cp 2002 0)), (3600241, .keep (.cp 3 0)), (3600280, .keep (.fnv (.func fn_field_counted_1) [] [3600200, 3600201])), (3600281, .keep (.fnv (.func fn_field_counted_2) [] [3600240, 3600241])), (3600282, .keep (.fnv (.func fn_field_counted_3) [] []))]⟩) f_field_counted rfl rfl rfl (c_call rfl) (.cons (s_o (o_u64 0 rfl)) <| .cons (s_o (o_u64 18446744073709551615 rfl)) <| .nil) ⟨⟨rfl, rfl⟩, trivial⟩ rfl (
 Sim.seqI <| Sim.opM (M_box (t := T.u64) 2002 rfl rfl (o_t rfl)) fun _ =>
 Sim.opM (M_box (t := T.u64) 3 rfl rfl (o_t rfl)) fun _ =>
 Sim.opM (M_allocP 4 [(1, .con (.nilf)), (1, .con (.nilf)), (1, .con (.nilf))] (fun _ _ _ _ => ⟨([.nilf] : List AV), ([.nilf] ++ ([.nilf] ++ ([])) : List AV), rfl, rfl, ⟨_, rfl, rfl, rfl, rfl⟩, ⟨([.nilf] : List AV), ([.nilf] ++ ([]) : List AV), rfl, rfl, ⟨_, rfl, rfl, rfl, rfl⟩, ⟨([.nilf] : List AV), ([] : List AV), rfl, rfl, ⟨_, rfl, rfl, rfl, rfl⟩, rfl⟩⟩⟩) rfl rfl) fun _ =>
 Sim.doneS <| Sim.seqI <| Sim.opN (M_mkf (φs := []) (ψs := [.cp 3 0, .cp 2002 0]) 3600200 (.nil) (.cons (o_t rfl) <| .cons (o_t rfl) <| .nil) rfl ⟨rfl, ⟨rfl, trivial⟩⟩ (js := []) (ks := [3600200, 3600201]) rfl rfl) <|
 Sim.opN (M_mkf (φs := []) (ψs := [.cp 2002 0, .cp 3 0]) 3600240 (.nil) (.cons (o_t rfl) <| .cons (o_t rfl) <| .nil) rfl ⟨rfl, ⟨rfl, trivial⟩⟩ (js := []) (ks := [3600240, 3600241]) rfl rfl) <|
 Sim.opN (M_bldk (φs := [.fnv (.func fn_field_counted_1) [] [3600200, 3600201], .fnv (.func fn_field_counted_2) [] [3600240, 3600241], .fnv (.func fn_field_counted_3) [] []]) 3600280 (.cons (o_t rfl) <| .cons (o_t rfl) <| .cons o_fn <| .nil) rfl rfl ⟨rfl, ⟨rfl, ⟨rfl, trivial⟩⟩⟩ (js := [3600280, 3600281, 3600282]) rfl) <|
 Sim.opM (M_stK (o_t rfl) (o_t rfl) rfl rfl rfl rfl) fun _ =>
 Sim.doneS <| Sim.retIn () (.cons (rg_cK rfl rfl rfl rfl) <| .nil) ⟨⟨⟨rfl, ⟨trivial, ⟨trivial, ⟨trivial, trivial⟩⟩⟩⟩, trivial⟩, ⟨⟨rfl, ⟨trivial, trivial⟩⟩, ⟨⟨rfl, ⟨trivial, trivial⟩⟩, ⟨⟨rfl, ⟨trivial, trivial⟩⟩, ⟨⟨rfl, ⟨trivial, ⟨trivial, ⟨trivial, trivial⟩⟩⟩⟩, ⟨⟨rfl, ⟨trivial, trivial⟩⟩, ⟨⟨rfl, trivial⟩, ⟨⟨rfl, trivial⟩, ⟨⟨rfl, trivial⟩, ⟨⟨rfl, trivial⟩, ⟨⟨rfl, trivial⟩, ⟨⟨rfl, trivial⟩, ⟨⟨rfl, trivial⟩, ⟨⟨rfl, ⟨trivial, ⟨trivial, trivial⟩⟩⟩, ⟨⟨rfl, ⟨trivial, ⟨trivial, trivial⟩⟩⟩, ⟨⟨rfl, trivial⟩, trivial⟩⟩⟩⟩⟩⟩⟩⟩⟩⟩⟩⟩⟩⟩⟩⟩) (fun p32 => BackOk.some' ⟨⟨rfl, ⟨trivial, trivial⟩⟩, ⟨⟨rfl, ⟨trivial, trivial⟩⟩, ⟨⟨rfl, ⟨trivial, trivial⟩⟩, ⟨⟨rfl, ⟨trivial, ⟨trivial, ⟨trivial, trivial⟩⟩⟩⟩, ⟨⟨rfl, ⟨trivial, trivial⟩⟩, ⟨⟨rfl, trivial⟩, ⟨⟨rfl, trivial⟩, ⟨⟨rfl, trivial⟩, ⟨⟨rfl, trivial⟩, ⟨⟨rfl, trivial⟩, ⟨⟨rfl, trivial⟩, ⟨⟨rfl, ⟨trivial, ⟨trivial, trivial⟩⟩⟩, ⟨⟨rfl, ⟨trivial, ⟨trivial, trivial⟩⟩⟩, ⟨⟨rfl, trivial⟩, trivial⟩⟩⟩⟩⟩⟩⟩⟩⟩⟩⟩⟩⟩⟩ rfl (.one rfl) ⟨trivial, ⟨trivial, ⟨trivial, trivial⟩⟩⟩ ⟨⟨rfl, trivial⟩, trivial⟩) (.one fun p32 =>
 Sim.opM (M_stK (o_t rfl) (o_t rfl) rfl rfl rfl rfl) fun _ =>
 Sim.doneS <| Sim.retIn (.inr (.inr (.inr (.inl (((18446744073709551615 : UInt64), (0 : UInt64))))))) (.cons (rg_cK rfl rfl rfl rfl) <| .nil) ⟨⟨⟨rfl, ⟨trivial, ⟨trivial, ⟨trivial, trivial⟩⟩⟩⟩, trivial⟩, ⟨⟨rfl, ⟨trivial, trivial⟩⟩, ⟨⟨rfl, ⟨trivial, trivial⟩⟩, ⟨⟨rfl, ⟨trivial, trivial⟩⟩, ⟨⟨rfl, ⟨trivial, trivial⟩⟩, ⟨⟨rfl, trivial⟩, ⟨⟨rfl, trivial⟩, ⟨⟨rfl, trivial⟩, ⟨⟨rfl, trivial⟩, ⟨⟨rfl, trivial⟩, ⟨⟨rfl, trivial⟩, ⟨⟨rfl, ⟨trivial, ⟨trivial, trivial⟩⟩⟩, ⟨⟨rfl, ⟨trivial, ⟨trivial, trivial⟩⟩⟩, ⟨⟨rfl, trivial⟩, trivial⟩⟩⟩⟩⟩⟩⟩⟩⟩⟩⟩⟩⟩⟩)) (
 Sim.seqI <| Sim.op (h_cmp (I := (IT.int .i64)) rfl (o_t rfl) o_i) fun x33 =>
 Sim.op1 (h_mv (o_t rfl)) <|
 Sim.doneS <| Sim.cond (o_t rfl) (
 Sim.seqI <| Sim.inl (τ := Unit) (φs := [.val T.u64 (0 : UInt64), .val T.u64 (20 : UInt64)]) (n := 1) (L := [(2, .cp 1002 0)]) (Γr := (fun p34 => ⟨[(0, .aggk [3600280, 3600281, 3600282])], [(1, .cells [(70, .val T_api_Field a)]), (2, .cells [(2, .val T_pairline_Pair x1)]), (3, .cells [(1, .val T.u64 (20 : UInt64))]), (1002, .cells [(1, .con (.nilf)), (1, .con (.nilf)), (1, .con (.nilf))]), (2002, .cells [(1, .val T.u64 (0 : UInt64))]), (2000001, .ghost (.cp 1 0)), (2000002, .ghost (.cp 2 0)), (2100002, .ghost (.cp 1002 0)), (3600200, .keep (.cp 3 0)), (3600201, .keep (.cp 2002 0)), (3600240, .keep (.cp 2002 0)), (3600241, .keep (.cp 3 0)), (3600280, .keep (.fnv (.func fn_field_counted_1) [] [3600200, 3600201])), (3600281, .keep (.fnv (.func fn_field_counted_2) [] [3600240, 3600241])), (3600282, .keep (.fnv (.func fn_field_counted_3) [] []))]⟩)) 2100000 (fun p34 => ⟨[(31, .aggk [3600280, 3600281, 3600282]), (2, .cp 1002 0)], [(1, .cells [(70, .val T_api_Field a)]), (2, .cells [(2, .val T_pairline_Pair x1)]), (3, .cells [(1, .val T.u64 (20 : UInt64))]), (1002, .cells [(1, .con (.nilf)), (1, .con (.nilf)), (1, .con (.nilf))]), (2002, .cells [(1, .val T.u64 (0 : UInt64))]), (2000001, .ghost (.cp 1 0)), (2000002, .ghost (.cp 2 0)), (3600200, .keep (.cp 3 0)), (3600201, .keep (.cp 2002 0)), (3600240, .keep (.cp 2002 0)), (3600241, .keep (.cp 3 0)), (3600280, .keep (.fnv (.func fn_field_counted_1) [] [3600200, 3600201])), (3600281, .keep (.fnv (.func fn_field_counted_2) [] [3600240, 3600241])), (3600282, .keep (.fnv (.func fn_field_counted_3) [] []))]⟩) f_field_counted rfl rfl rfl (c_call rfl) (.cons (s_o (o_u64 0 rfl)) <| .cons (s_o (o_u64 20 rfl)) <| .nil) ⟨⟨rfl, rfl⟩, trivial⟩ rfl (
 Sim.seqI <| Sim.opM (M_box (t := T.u64) 2002 rfl rfl (o_t rfl)) fun _ =>
 Sim.opM (M_box (t := T.u64) 3 rfl rfl (o_t rfl)) fun _ =>
 Sim.opM (M_allocP 4 [(1, .con (.nilf)), (1, .con (.nilf)), (1, .con (.nilf))] (fun _ _ _ _ => ⟨([.nilf] : List AV), ([.nilf] ++ ([.nilf] ++ ([])) : List AV), rfl, rfl, ⟨_, rfl, rfl, rfl, rfl⟩, ⟨([.nilf] : List AV), ([.nilf] ++ ([]) : List AV), rfl, rfl, ⟨_, rfl, rfl, rfl, rfl⟩, ⟨([.nilf] : List AV), ([] : List AV), rfl, rfl, ⟨_, rfl, rfl, rfl, rfl⟩, rfl⟩⟩⟩) rfl rfl) fun _ =>
 Sim.doneS <| Sim.seqI <| Sim.opN (M_mkf (φs := []) (ψs := [.cp 3 0, .cp 2002 0]) 3600200 (.nil) (.cons (o_t rfl) <| .cons (o_t rfl) <| .nil) rfl ⟨rfl, ⟨rfl, trivial⟩⟩ (js := []) (ks := [3600200, 3600201]) rfl rfl) <|
 Sim.opN (M_mkf (φs := []) (ψs := [.cp 2002 0, .cp 3 0]) 3600240 (.nil) (.cons (o_t rfl) <| .cons (o_t rfl) <| .nil) rfl ⟨rfl, ⟨rfl, trivial⟩⟩ (js := []) (ks := [3600240, 3600241]) rfl rfl) <|
 Sim.opN (M_bldk (φs := [.fnv (.func fn_field_counted_1) [] [3600200, 3600201], .fnv (.func fn_field_counted_2) [] [3600240, 3600241], .fnv (.func fn_field_counted_3) [] []]) 3600280 (.cons (o_t rfl) <| .cons (o_t rfl) <| .cons o_fn <| .nil) rfl rfl ⟨rfl, ⟨rfl, ⟨rfl, trivial⟩⟩⟩ (js := [3600280, 3600281, 3600282]) rfl) <|
 Sim.opM (M_stK (o_t rfl) (o_t rfl) rfl rfl rfl rfl) fun _ =>
 Sim.doneS <| Sim.retIn () (.cons (rg_cK rfl rfl rfl rfl) <| .nil) ⟨⟨⟨rfl, ⟨trivial, ⟨trivial, ⟨trivial, trivial⟩⟩⟩⟩, trivial⟩, ⟨⟨rfl, ⟨trivial, trivial⟩⟩, ⟨⟨rfl, ⟨trivial, trivial⟩⟩, ⟨⟨rfl, ⟨trivial, trivial⟩⟩, ⟨⟨rfl, ⟨trivial, ⟨trivial, ⟨trivial, trivial⟩⟩⟩⟩, ⟨⟨rfl, ⟨trivial, trivial⟩⟩, ⟨⟨rfl, trivial⟩, ⟨⟨rfl, trivial⟩, ⟨⟨rfl, trivial⟩, ⟨⟨rfl, trivial⟩, ⟨⟨rfl, trivial⟩, ⟨⟨rfl, trivial⟩, ⟨⟨rfl, trivial⟩, ⟨⟨rfl, ⟨trivial, ⟨trivial, trivial⟩⟩⟩, ⟨⟨rfl, ⟨trivial, ⟨trivial, trivial⟩⟩⟩, ⟨⟨rfl, trivial⟩, trivial⟩⟩⟩⟩⟩⟩⟩⟩⟩⟩⟩⟩⟩⟩⟩⟩) (fun p34 => BackOk.some' ⟨⟨rfl, ⟨trivial, trivial⟩⟩, ⟨⟨rfl, ⟨trivial, trivial⟩⟩, ⟨⟨rfl, ⟨trivial, trivial⟩⟩, ⟨⟨rfl, ⟨trivial, ⟨trivial, ⟨trivial, trivial⟩⟩⟩⟩, ⟨⟨rfl, ⟨trivial, trivial⟩⟩, ⟨⟨rfl, trivial⟩, ⟨⟨rfl, trivial⟩, ⟨⟨rfl, trivial⟩, ⟨⟨rfl, trivial⟩, ⟨⟨rfl, trivial⟩, ⟨⟨rfl, trivial⟩, ⟨⟨rfl, ⟨trivial, ⟨trivial, trivial⟩⟩⟩, ⟨⟨rfl, ⟨trivial, ⟨trivial, trivial⟩⟩⟩, ⟨⟨rfl, trivial⟩, trivial⟩⟩⟩⟩⟩⟩⟩⟩⟩⟩⟩⟩⟩⟩ rfl (.one rfl) ⟨trivial, ⟨trivial, ⟨trivial, trivial⟩⟩⟩ ⟨⟨rfl, trivial⟩, trivial⟩) (.one fun p34 =>
 Sim.opM (M_stK (o_t rfl) (o_t rfl) rfl rfl rfl rfl) fun _ =>
 Sim.doneS <| Sim.retIn (.inr (.inr (.inr (.inl (((20 : UInt64), (0 : UInt64))))))) (.cons (rg_cK rfl rfl rfl rfl) <| .nil) ⟨⟨⟨rfl, ⟨trivial, ⟨trivial, ⟨trivial, trivial⟩⟩⟩⟩, trivial⟩, ⟨⟨rfl, ⟨trivial, trivial⟩⟩, ⟨⟨rfl, ⟨trivial, trivial⟩⟩, ⟨⟨rfl, ⟨trivial, trivial⟩⟩, ⟨⟨rfl, ⟨trivial, trivial⟩⟩, ⟨⟨rfl, trivial⟩, ⟨⟨rfl, trivial⟩, ⟨⟨rfl, trivial⟩, ⟨⟨rfl, trivial⟩, ⟨⟨rfl, trivial⟩, ⟨⟨rfl, trivial⟩, ⟨⟨rfl, ⟨trivial, ⟨trivial, trivial⟩⟩⟩, ⟨⟨rfl, ⟨trivial, ⟨trivial, trivial⟩⟩⟩, ⟨⟨rfl, trivial⟩, trivial⟩⟩⟩⟩⟩⟩⟩⟩⟩⟩⟩⟩⟩⟩)) (
 Sim.skip <| Sim.doneB <| Sim.doneS <| Sim.seqI <| Sim.inl (τ := Unit) (φs := []) (n := 1) (L := [(2, .cp 1002 0)]) (Γr := (fun p35 => ⟨[(0, .aggk [3600040, 3600041, 3600042])], [(1, .cells [(70, .val T_api_Field a)]), (2, .cells [(2, .val T_pairline_Pair x1)]), (1002, .cells [(1, .con (.nilf)), (1, .con (.nilf)), (1, .con (.nilf))]), (2000001, .ghost (.cp 1 0)), (2000002, .ghost (.cp 2 0)), (2100002, .ghost (.cp 1002 0)), (3600040, .keep (.fnv (.func fn_field_said_1) [] [])), (3600041, .keep (.fnv (.func fn_field_said_2) [] [])), (3600042, .keep (.fnv (.func fn_field_said_3) [] []))]⟩)) 2100000 (fun p35 => ⟨[(32, .aggk [3600040, 3600041, 3600042]), (2, .cp 1002 0)], [(1, .cells [(70, .val T_api_Field a)]), (2, .cells [(2, .val T_pairline_Pair x1)]), (1002, .cells [(1, .con (.nilf)), (1, .con (.nilf)), (1, .con (.nilf))]), (2000001, .ghost (.cp 1 0)), (2000002, .ghost (.cp 2 0)), (3600040, .keep (.fnv (.func fn_field_said_1) [] [])), (3600041, .keep (.fnv (.func fn_field_said_2) [] [])), (3600042, .keep (.fnv (.func fn_field_said_3) [] []))]⟩) f_field_said rfl rfl rfl (c_call rfl) (.nil) ⟨⟨rfl, rfl⟩, trivial⟩ rfl (
 Sim.seqI <| Sim.opM (M_allocP 0 [(1, .con (.nilf)), (1, .con (.nilf)), (1, .con (.nilf))] (fun _ _ _ _ => ⟨([.nilf] : List AV), ([.nilf] ++ ([.nilf] ++ ([])) : List AV), rfl, rfl, ⟨_, rfl, rfl, rfl, rfl⟩, ⟨([.nilf] : List AV), ([.nilf] ++ ([]) : List AV), rfl, rfl, ⟨_, rfl, rfl, rfl, rfl⟩, ⟨([.nilf] : List AV), ([] : List AV), rfl, rfl, ⟨_, rfl, rfl, rfl, rfl⟩, rfl⟩⟩⟩) rfl rfl) fun _ =>
 Sim.doneS <| Sim.seqI <| Sim.opN (M_bldk (φs := [.fnv (.func fn_field_said_1) [] [], .fnv (.func fn_field_said_2) [] [], .fnv (.func fn_field_said_3) [] []]) 3600040 (.cons o_fn <| .cons o_fn <| .cons o_fn <| .nil) rfl rfl ⟨rfl, ⟨rfl, ⟨rfl, trivial⟩⟩⟩ (js := [3600040, 3600041, 3600042]) rfl) <|
 Sim.opM (M_stK (o_t rfl) (o_t rfl) rfl rfl rfl rfl) fun _ =>
 Sim.doneS <| Sim.retIn () (.cons (rg_cK rfl rfl rfl rfl) <| .nil) ⟨⟨⟨rfl, ⟨trivial, ⟨trivial, ⟨trivial, trivial⟩⟩⟩⟩, trivial⟩, ⟨⟨rfl, ⟨trivial, trivial⟩⟩, ⟨⟨rfl, ⟨trivial, trivial⟩⟩, ⟨⟨rfl, ⟨trivial, ⟨trivial, ⟨trivial, trivial⟩⟩⟩⟩, ⟨⟨rfl, trivial⟩, ⟨⟨rfl, trivial⟩, ⟨⟨rfl, trivial⟩, ⟨⟨rfl, trivial⟩, ⟨⟨rfl, trivial⟩, ⟨⟨rfl, trivial⟩, trivial⟩⟩⟩⟩⟩⟩⟩⟩⟩⟩) (fun p35 => BackOk.some' ⟨⟨rfl, ⟨trivial, trivial⟩⟩, ⟨⟨rfl, ⟨trivial, trivial⟩⟩, ⟨⟨rfl, ⟨trivial, ⟨trivial, ⟨trivial, trivial⟩⟩⟩⟩, ⟨⟨rfl, trivial⟩, ⟨⟨rfl, trivial⟩, ⟨⟨rfl, trivial⟩, ⟨⟨rfl, trivial⟩, ⟨⟨rfl, trivial⟩, trivial⟩⟩⟩⟩⟩⟩⟩⟩ rfl (.one rfl) ⟨trivial, ⟨trivial, ⟨trivial, trivial⟩⟩⟩ ⟨⟨rfl, trivial⟩, trivial⟩) (.one fun p35 =>
 Sim.opM (M_stK (o_t rfl) (o_t rfl) rfl rfl rfl rfl) fun _ =>
 Sim.doneS <| Sim.retIn (.inr (.inr (.inr (.inr (()))))) (.cons (rg_cK rfl rfl rfl rfl) <| .nil) ⟨⟨⟨rfl, ⟨trivial, ⟨trivial, ⟨trivial, trivial⟩⟩⟩⟩, trivial⟩, ⟨⟨rfl, ⟨trivial, trivial⟩⟩, ⟨⟨rfl, ⟨trivial, trivial⟩⟩, ⟨⟨rfl, trivial⟩, ⟨⟨rfl, trivial⟩, ⟨⟨rfl, trivial⟩, ⟨⟨rfl, trivial⟩, ⟨⟨rfl, trivial⟩, trivial⟩⟩⟩⟩⟩⟩⟩⟩)))) fun k31 => Sim.cond (o_t rfl) (
 Sim.skip <| Sim.weak (k31 x29) ⟨⟨⟨rfl, trivial⟩, ⟨⟨rfl, trivial⟩, ⟨⟨rfl, trivial⟩, trivial⟩⟩⟩, ⟨⟨rfl, ⟨trivial, trivial⟩⟩, ⟨⟨rfl, ⟨trivial, trivial⟩⟩, ⟨⟨rfl, ⟨trivial, ⟨trivial, ⟨trivial, trivial⟩⟩⟩⟩, ⟨⟨rfl, trivial⟩, ⟨⟨rfl, trivial⟩, trivial⟩⟩⟩⟩⟩⟩) (
 Sim.op (h_cmp (I := (IT.int .i64)) rfl (o_t rfl) o_i) fun x36 =>
 Sim.op1 (h_mv (o_t rfl)) <|
 Sim.weak (k31 x36) ⟨⟨⟨rfl, trivial⟩, ⟨⟨rfl, trivial⟩, ⟨⟨rfl, trivial⟩, trivial⟩⟩⟩, ⟨⟨rfl, ⟨trivial, trivial⟩⟩, ⟨⟨rfl, ⟨trivial, trivial⟩⟩, ⟨⟨rfl, ⟨trivial, ⟨trivial, ⟨trivial, trivial⟩⟩⟩⟩, ⟨⟨rfl, trivial⟩, ⟨⟨rfl, trivial⟩, trivial⟩⟩⟩⟩⟩⟩))))) fun k23 => Sim.cond (o_t rfl) (
 Sim.skip <| Sim.weak (k23 x21) ⟨⟨⟨rfl, trivial⟩, ⟨⟨rfl, trivial⟩, ⟨⟨rfl, trivial⟩, trivial⟩⟩⟩, ⟨⟨rfl, ⟨trivial, trivial⟩⟩, ⟨⟨rfl, ⟨trivial, trivial⟩⟩, ⟨⟨rfl, ⟨trivial, ⟨trivial, ⟨trivial, trivial⟩⟩⟩⟩, ⟨⟨rfl, trivial⟩, ⟨⟨rfl, trivial⟩, trivial⟩⟩⟩⟩⟩⟩) (
 Sim.op (h_cmp (I := (IT.int .i64)) rfl (o_t rfl) o_i) fun x37 =>
 Sim.op1 (h_mv (o_t rfl)) <|
 Sim.weak (k23 x37) ⟨⟨⟨rfl, trivial⟩, ⟨⟨rfl, trivial⟩, ⟨⟨rfl, trivial⟩, trivial⟩⟩⟩, ⟨⟨rfl, ⟨trivial, trivial⟩⟩, ⟨⟨rfl, ⟨trivial, trivial⟩⟩, ⟨⟨rfl, ⟨trivial, ⟨trivial, ⟨trivial, trivial⟩⟩⟩⟩, ⟨⟨rfl, trivial⟩, ⟨⟨rfl, trivial⟩, trivial⟩⟩⟩⟩⟩⟩))))) fun k15 => Sim.cond (o_t rfl) (
 Sim.skip <| Sim.weak (k15 x13) ⟨⟨⟨rfl, trivial⟩, ⟨⟨rfl, trivial⟩, ⟨⟨rfl, trivial⟩, trivial⟩⟩⟩, ⟨⟨rfl, ⟨trivial, trivial⟩⟩, ⟨⟨rfl, ⟨trivial, trivial⟩⟩, ⟨⟨rfl, ⟨trivial, ⟨trivial, ⟨trivial, trivial⟩⟩⟩⟩, ⟨⟨rfl, trivial⟩, ⟨⟨rfl, trivial⟩, trivial⟩⟩⟩⟩⟩⟩) (
 Sim.seqI <| Sim.op (h_cmp (I := (IT.int .i64)) rfl (o_t rfl) o_i) fun x38 =>
 Sim.op1 (h_mv (o_t rfl)) <|
 Sim.doneS <| Sim.cond (o_t rfl) (
 Sim.skip <| Sim.weak (k15 x38) ⟨⟨⟨rfl, trivial⟩, ⟨⟨rfl, trivial⟩, ⟨⟨rfl, trivial⟩, trivial⟩⟩⟩, ⟨⟨rfl, ⟨trivial, trivial⟩⟩, ⟨⟨rfl, ⟨trivial, trivial⟩⟩, ⟨⟨rfl, ⟨trivial, ⟨trivial, ⟨trivial, trivial⟩⟩⟩⟩, ⟨⟨rfl, trivial⟩, ⟨⟨rfl, trivial⟩, trivial⟩⟩⟩⟩⟩⟩) (
 Sim.op (h_cmp (I := (IT.int .i64)) rfl (o_t rfl) o_i) fun x39 =>
 Sim.op1 (h_mv (o_t rfl)) <|
 Sim.weak (k15 x39) ⟨⟨⟨rfl, trivial⟩, ⟨⟨rfl, trivial⟩, ⟨⟨rfl, trivial⟩, trivial⟩⟩⟩, ⟨⟨rfl, ⟨trivial, trivial⟩⟩, ⟨⟨rfl, ⟨trivial, trivial⟩⟩, ⟨⟨rfl, ⟨trivial, ⟨trivial, ⟨trivial, trivial⟩⟩⟩⟩, ⟨⟨rfl, trivial⟩, ⟨⟨rfl, trivial⟩, trivial⟩⟩⟩⟩⟩⟩))) (BackAlt (fun p8 => BackOk.some' ⟨⟨rfl, ⟨trivial, trivial⟩⟩, ⟨⟨rfl, ⟨trivial, trivial⟩⟩, ⟨⟨rfl, trivial⟩, ⟨⟨rfl, trivial⟩, ⟨⟨rfl, trivial⟩, trivial⟩⟩⟩⟩⟩ rfl (.one rfl) ⟨trivial, ⟨trivial, ⟨trivial, trivial⟩⟩⟩ ⟨⟨rfl, trivial⟩, ⟨⟨rfl, trivial⟩, trivial⟩⟩) (BackAlt (fun p9 => BackOk.some' ⟨⟨rfl, ⟨trivial, trivial⟩⟩, ⟨⟨rfl, ⟨trivial, trivial⟩⟩, ⟨⟨rfl, trivial⟩, ⟨⟨rfl, trivial⟩, ⟨⟨rfl, trivial⟩, trivial⟩⟩⟩⟩⟩ rfl (.one rfl) ⟨trivial, ⟨trivial, ⟨trivial, trivial⟩⟩⟩ ⟨⟨rfl, trivial⟩, ⟨⟨rfl, trivial⟩, trivial⟩⟩) (BackAlt (fun p10 => BackOk.some' ⟨⟨rfl, ⟨trivial, trivial⟩⟩, ⟨⟨rfl, ⟨trivial, trivial⟩⟩, ⟨⟨rfl, trivial⟩, ⟨⟨rfl, trivial⟩, ⟨⟨rfl, trivial⟩, trivial⟩⟩⟩⟩⟩ rfl (.one rfl) ⟨trivial, ⟨trivial, ⟨trivial, trivial⟩⟩⟩ ⟨⟨rfl, trivial⟩, ⟨⟨rfl, trivial⟩, trivial⟩⟩) (BackAlt (fun p11 => BackOk.some' ⟨⟨rfl, ⟨trivial, trivial⟩⟩, ⟨⟨rfl, ⟨trivial, trivial⟩⟩, ⟨⟨rfl, ⟨trivial, trivial⟩⟩, ⟨⟨rfl, ⟨trivial, trivial⟩⟩, ⟨⟨rfl, trivial⟩, ⟨⟨rfl, trivial⟩, ⟨⟨rfl, trivial⟩, ⟨⟨rfl, trivial⟩, ⟨⟨rfl, ⟨trivial, ⟨trivial, trivial⟩⟩⟩, ⟨⟨rfl, ⟨trivial, ⟨trivial, trivial⟩⟩⟩, ⟨⟨rfl, trivial⟩, trivial⟩⟩⟩⟩⟩⟩⟩⟩⟩⟩⟩ rfl (.one rfl) ⟨trivial, ⟨trivial, ⟨trivial, trivial⟩⟩⟩ ⟨⟨rfl, trivial⟩, ⟨⟨rfl, trivial⟩, trivial⟩⟩) (fun p12 => BackOk.some' ⟨⟨rfl, ⟨trivial, trivial⟩⟩, ⟨⟨rfl, ⟨trivial, trivial⟩⟩, ⟨⟨rfl, trivial⟩, ⟨⟨rfl, trivial⟩, ⟨⟨rfl, trivial⟩, trivial⟩⟩⟩⟩⟩ rfl (.one rfl) ⟨trivial, ⟨trivial, ⟨trivial, trivial⟩⟩⟩ ⟨⟨rfl, trivial⟩, ⟨⟨rfl, trivial⟩, trivial⟩⟩))))) (.alt (.one fun p8 =>
 SimD.op1 rfl (h_fldk (l := [3600040]) (r := [3600042]) (o_t rfl) rfl rfl rfl rfl) <|
 SimD.early 0 rfl rfl rfl rfl rfl (T.Uni.iso (T.Uni.prod uni_int (T.Uni.prod (T.Uni.arr uni_u8) (T.Uni.prod uni_u64 (T.Uni.prod (T.Uni.iso (T.Uni.prod (T.Uni.iso (T.Uni.prod uni_int (T.Uni.arr uni_u8))) uni_int)) (T.Uni.iso (T.Uni.prod (T.Uni.iso (T.Uni.prod uni_int (T.Uni.arr uni_u8))) uni_int))))))) (h_ldC (t := T_api_Field) (u := T_api_Field) (o_t rfl) rfl rfl (Fld.id _) rfl rfl) <|
 SimDW.op rfl (fun _ => .nil) (.nil) (h_callSN sp_field_keyed_2 (c_callv (o_kv rfl rfl) rfl) (.one (s_o (o_t rfl)))) fun x40 =>
 SimD.op1 rfl (h_mv (o_t rfl)) <|
 SimD.opn rfl (h_ext (o_t rfl) rfl) fun x41 =>
 SimD.opn rfl (h_ext (o_t rfl) rfl) fun x42 =>
 SimD.op1 rfl (h_mv (o_t rfl)) <|
 SimD.op1 rfl (h_mv (o_t rfl)) <|
 SimD.done <| Sim.doneS <| Sim.seqI <| Sim.op1 (h_faC (o_t rfl)) <|
 Sim.opn (h_ldC (t := T_api_Field) (u := (T.int .i64)) (o_t rfl) rfl rfl F_api_Field_Word rfl rfl) fun x43 =>
 Sim.op (h_call1 sp_field_Name (.one (o_t rfl))) fun x44 =>
 Sim.op1 (h_mv (o_t rfl)) <|
 Sim.op (h_bld rfl rfl (.cons F_pairline_Pair_Key rfl (o_t rfl) <| .cons F_pairline_Pair_Value rfl (o_t rfl) <| .nil _)) fun x45 =>
 Sim.opM (M_stC (o_t rfl) (o_t rfl) rfl rfl (Fld.id _) rfl) fun x46 =>
 Sim.op1 (h_mv o_i) <|
 Sim.doneS <| Sim.ret (.cons (res_c rfl rfl rfl (Fld.id _) rfl rfl) <| .one (res_t rfl))) (.alt (.one fun p9 =>
 SimD.op1 rfl (h_fldk (l := [3600040]) (r := [3600042]) (o_t rfl) rfl rfl rfl rfl) <|
 SimD.early 0 rfl rfl rfl rfl rfl (T.Uni.iso (T.Uni.prod uni_int (T.Uni.prod (T.Uni.arr uni_u8) (T.Uni.prod uni_u64 (T.Uni.prod (T.Uni.iso (T.Uni.prod (T.Uni.iso (T.Uni.prod uni_int (T.Uni.arr uni_u8))) uni_int)) (T.Uni.iso (T.Uni.prod (T.Uni.iso (T.Uni.prod uni_int (T.Uni.arr uni_u8))) uni_int))))))) (h_ldC (t := T_api_Field) (u := T_api_Field) (o_t rfl) rfl rfl (Fld.id _) rfl rfl) <|
 SimD.stop) (.alt (.one fun p10 =>
 SimD.op1 rfl (h_fldk (l := [3600040]) (r := [3600042]) (o_t rfl) rfl rfl rfl rfl) <|
 SimD.early 0 rfl rfl rfl rfl rfl (T.Uni.iso (T.Uni.prod uni_int (T.Uni.prod (T.Uni.arr uni_u8) (T.Uni.prod uni_u64 (T.Uni.prod (T.Uni.iso (T.Uni.prod (T.Uni.iso (T.Uni.prod uni_int (T.Uni.arr uni_u8))) uni_int)) (T.Uni.iso (T.Uni.prod (T.Uni.iso (T.Uni.prod uni_int (T.Uni.arr uni_u8))) uni_int))))))) (h_ldC (t := T_api_Field) (u := T_api_Field) (o_t rfl) rfl rfl (Fld.id _) rfl rfl) <|
 SimD.stop) (.alt (.one fun p11 =>
 SimD.op1 rfl (h_fldk (l := [3600280]) (r := [3600282]) (o_t rfl) rfl rfl rfl rfl) <|
 SimD.early 0 rfl rfl rfl rfl rfl (T.Uni.iso (T.Uni.prod uni_int (T.Uni.prod (T.Uni.arr uni_u8) (T.Uni.prod uni_u64 (T.Uni.prod (T.Uni.iso (T.Uni.prod (T.Uni.iso (T.Uni.prod uni_int (T.Uni.arr uni_u8))) uni_int)) (T.Uni.iso (T.Uni.prod (T.Uni.iso (T.Uni.prod uni_int (T.Uni.arr uni_u8))) uni_int))))))) (h_ldC (t := T_api_Field) (u := T_api_Field) (o_t rfl) rfl rfl (Fld.id _) rfl rfl) <|
 SimD.inl (τ := (Str × Bool)) (φs := [.val T_api_Field ((Fld.id _).get a), .cp 2002 0, .cp 3 0]) (n := 2) (L := [(1, .cp 1 0), (2, .cp 2 0)]) (Γr := (fun p47 => ⟨[(0, .val T.str p47.1), (1, .val T.b p47.2)], [(1, .cells [(70, .val T_api_Field a)]), (2, .cells [(2, .val T_pairline_Pair x1)]), (2000001, .ghost (.cp 1 0)), (2000002, .ghost (.cp 2 0))]⟩)) rfl (.nil) 2000000 (fun p47 => ⟨[(16, .tup [⟨T.str, p47.1⟩, ⟨T.b, p47.2⟩]), (1, .cp 1 0), (2, .cp 2 0)], [(1, .cells [(70, .val T_api_Field a)]), (2, .cells [(2, .val T_pairline_Pair x1)])]⟩) (fun _ => .nil) f_field_counted_2 rfl rfl rfl (c_callv (o_kv rfl rfl) rfl) (.cons (s_o (o_t rfl)) <| .cons (s_k rfl) <| .cons (s_k rfl) <| .nil) ⟨⟨rfl, rfl⟩, ⟨⟨rfl, rfl⟩, trivial⟩⟩ rfl (
 Sim.seqI <| Sim.opM (M_box (t := T_api_Field) 1003 rfl rfl (o_t rfl)) fun _ =>
 Sim.op1 (h_mv o_s) <|
 Sim.op1 (h_mv o_b) <|
 Sim.doneS <| Sim.seqI <| Sim.op1 (h_faC (o_t rfl)) <|
 Sim.opn (h_ldC (t := T_api_Field) (u := T.u64) (o_t rfl) rfl rfl F_api_Field_N rfl rfl) fun x48 =>
 Sim.op (h_call1 sp_decimal_Text (.one (o_t rfl))) fun x49 =>
 Sim.op1 (h_faC (o_t rfl)) <|
 Sim.opn (h_ldC (t := T_api_Field) (u := T.u64) (o_t rfl) rfl rfl F_api_Field_N rfl rfl) fun x50 =>
 Sim.opn (h_ldC (t := T.u64) (u := T.u64) (o_t rfl) rfl rfl (Fld.id _) rfl rfl) fun x51 =>
 Sim.op (h_cmp (I := IT.u64) rfl (o_t rfl) (o_t rfl)) fun x52 =>
 Sim.op1 (h_mv (o_t rfl)) <|
 Sim.and 4 rfl rfl rfl (Grp.op1 (h_faC (o_t rfl)) <|
 Grp.opn (h_ldC (t := T_api_Field) (u := T.u64) (o_t rfl) rfl rfl F_api_Field_N rfl rfl) fun x53 =>
 Grp.opn (h_ldC (t := T.u64) (u := T.u64) (o_t rfl) rfl rfl (Fld.id _) rfl rfl) fun x54 =>
 Grp.op (h_cmp (I := IT.u64) rfl (o_t rfl) (o_t rfl)) fun x55 =>
 Grp.nil (o_t rfl)) fun x56 =>
 Sim.op1 (h_mv (o_t rfl)) <|
 Sim.op1 (h_mv (o_t rfl)) <|
 Sim.doneS <| Sim.retIn (x49, x56) (.cons (rg_t rfl) <| .cons (rg_t rfl) <| .nil) ⟨⟨⟨rfl, trivial⟩, ⟨⟨rfl, trivial⟩, trivial⟩⟩, ⟨⟨rfl, ⟨trivial, trivial⟩⟩, ⟨⟨rfl, ⟨trivial, trivial⟩⟩, ⟨⟨rfl, trivial⟩, ⟨⟨rfl, trivial⟩, trivial⟩⟩⟩⟩⟩) (fun p47 => BackOk.some' ⟨⟨rfl, ⟨trivial, trivial⟩⟩, ⟨⟨rfl, ⟨trivial, trivial⟩⟩, trivial⟩⟩ rfl (.vals rfl (by intro i p h; match i, h with | 0, h => (cases h; rfl) | 1, h => (cases h; rfl) | (_ + 2), h => simp at h)) trivial ⟨⟨rfl, trivial⟩, ⟨⟨rfl, trivial⟩, trivial⟩⟩) fun p47 =>
 SimD.op1 rfl (h_mv (o_t rfl)) <|
 SimD.opn rfl (h_ext (o_t rfl) rfl) fun x57 =>
 SimD.opn rfl (h_ext (o_t rfl) rfl) fun x58 =>
 SimD.op1 rfl (h_mv (o_t rfl)) <|
 SimD.op1 rfl (h_mv (o_t rfl)) <|
 SimD.done <| Sim.doneS <| Sim.seqI <| Sim.op1 (h_faC (o_t rfl)) <|
 Sim.opn (h_ldC (t := T_api_Field) (u := (T.int .i64)) (o_t rfl) rfl rfl F_api_Field_Word rfl rfl) fun x59 =>
 Sim.op (h_call1 sp_field_Name (.one (o_t rfl))) fun x60 =>
 Sim.op1 (h_mv (o_t rfl)) <|
 Sim.op (h_bld rfl rfl (.cons F_pairline_Pair_Key rfl (o_t rfl) <| .cons F_pairline_Pair_Value rfl (o_t rfl) <| .nil _)) fun x61 =>
 Sim.opM (M_stC (o_t rfl) (o_t rfl) rfl rfl (Fld.id _) rfl) fun x62 =>
 Sim.op1 (h_mv o_i) <|
 Sim.doneS <| Sim.ret (.cons (res_c rfl rfl rfl (Fld.id _) rfl rfl) <| .one (res_t rfl))) (.one fun p12 =>
 SimD.op1 rfl (h_fldk (l := [3600040]) (r := [3600042]) (o_t rfl) rfl rfl rfl rfl) <|
 SimD.early 0 rfl rfl rfl rfl rfl (T.Uni.iso (T.Uni.prod uni_int (T.Uni.prod (T.Uni.arr uni_u8) (T.Uni.prod uni_u64 (T.Uni.prod (T.Uni.iso (T.Uni.prod (T.Uni.iso (T.Uni.prod uni_int (T.Uni.arr uni_u8))) uni_int)) (T.Uni.iso (T.Uni.prod (T.Uni.iso (T.Uni.prod uni_int (T.Uni.arr uni_u8))) uni_int))))))) (h_ldC (t := T_api_Field) (u := T_api_Field) (o_t rfl) rfl rfl (Fld.id _) rfl rfl) <|
 SimDW.op rfl (fun _ => .nil) (.nil) (h_callSN sp_field_said_2 (c_callv (o_kv rfl rfl) rfl) (.one (s_o (o_t rfl)))) fun x63 =>
 SimD.op1 rfl (h_mv (o_t rfl)) <|
 SimD.opn rfl (h_ext (o_t rfl) rfl) fun x64 =>
 SimD.opn rfl (h_ext (o_t rfl) rfl) fun x65 =>
 SimD.op1 rfl (h_mv (o_t rfl)) <|
 SimD.op1 rfl (h_mv (o_t rfl)) <|
 SimD.done <| Sim.doneS <| Sim.seqI <| Sim.op1 (h_faC (o_t rfl)) <|
 Sim.opn (h_ldC (t := T_api_Field) (u := (T.int .i64)) (o_t rfl) rfl rfl F_api_Field_Word rfl rfl) fun x66 =>
 Sim.op (h_call1 sp_field_Name (.one (o_t rfl))) fun x67 =>
 Sim.op1 (h_mv (o_t rfl)) <|
 Sim.op (h_bld rfl rfl (.cons F_pairline_Pair_Key rfl (o_t rfl) <| .cons F_pairline_Pair_Value rfl (o_t rfl) <| .nil _)) fun x68 =>
 Sim.opM (M_stC (o_t rfl) (o_t rfl) rfl rfl (Fld.id _) rfl) fun x69 =>
 Sim.op1 (h_mv o_i) <|
 Sim.doneS <| Sim.ret (.cons (res_c rfl rfl rfl (Fld.id _) rfl rfl) <| .one (res_t rfl))))))))
theorem sp_field_Pair : Spec tb fn_field_Pair [T_api_Field] [T_pairline_Pair, (T.int .i64)] (fun a => field_Pair a) :=
  Spec.of f_field_Pair rfl rfl rfl sim_field_Pair

noncomputable def getres_pairs (a0 : (GS S_api_Field)) : Option (GS S_pairline_Pair) :=
 (iter (fun (s2 : (Int × (GS S_pairline_Pair))) =>
 if (decide (s2.1 < (a0.l.length : Int))) = true then
 (idx a0.l s2.1).bind fun x5 =>
 (field_Pair x5).bind fun x10 =>
 (apG 32 s2.2 [x10.1]).bind fun x17 =>
 some (.inl (IntKind.i64.wrap (s2.1 + 1), x17))
 else
 some (.inr (.inl s2.2))) (0, .nil)).bind (Sum.elim (fun (p3 : (GS S_pairline_Pair)) =>
 some p3) some)
noncomputable def sim_getres_pairs (a : Res [(T.sl T_api_Field)]) : Sim tb ⟨argsT [(T.sl T_api_Field)] 0 a, []⟩ c_getres_pairs.body [] (QRes [(T.sl T_pairline_Pair)] c_getres_pairs.res) :=
 Sim.seqI <| Sim.op1 (h_mv (o_nils (t := T_pairline_Pair))) <| Sim.turn (born (n := 2) (j := 1002) rfl rfl) <|
 Sim.doneS <| Sim.seqI <| Sim.op1 (h_mv (o_nils (t := T_pairline_Pair))) <| Sim.turn (born (n := 3) (j := 1003) rfl rfl) <|
 Sim.doneS <| Sim.seqI <| Sim.seqI <| Sim.op1 (h_mv (o_t rfl)) <|
 Sim.op (h_len (o_t rfl)) fun x1 =>
 Sim.op1 (h_mv o_i) <|
 Sim.doneS <| Sim.blkI <| Sim.loop (id := 0) (σ := (Int × (GS S_pairline_Pair))) (τ := (GS S_pairline_Pair)) (fun s2 => ⟨[(3, .own 1003), (8, .val (T.sl T_api_Field) a), (9, .val (T.int .i64) x1), (10, .val (T.int .i64) s2.1)], [(1003, .row T_pairline_Pair s2.2)]⟩) (fun p3 => ⟨[(3, .own 1003)], [(1003, .row T_pairline_Pair p3)]⟩) (0, .nil) ⟨⟨⟨rfl, trivial⟩, ⟨⟨rfl, trivial⟩, ⟨⟨rfl, trivial⟩, ⟨⟨rfl, trivial⟩, trivial⟩⟩⟩⟩, ⟨⟨rfl, trivial⟩, trivial⟩⟩ (fun _ => rfl) (fun s2 =>
 Sim.seqI <| Sim.op (h_cmp (I := (IT.int .i64)) rfl (o_t rfl) (o_t rfl)) fun x4 =>
 Sim.doneS <| Sim.seqI <| Sim.cond (o_t rfl) (
 Sim.skip <| Sim.doneS <| Sim.seqI <| Sim.blkI <| Sim.seqI <| Sim.op (h_ias rfl (o_t rfl) (o_t rfl)) fun x5 =>
 Sim.opn (h_ld rfl rfl (o_t rfl)) fun x6 =>
 Sim.opM (M_alloc (t := T_api_Field) 5 rfl rfl) fun x7 =>
 Sim.opM (M_stC (o_t rfl) (o_t rfl) rfl rfl (Fld.id _) rfl) fun x8 =>
 Sim.doneS <| Sim.seqI <| Sim.opn (h_ldC (t := T_api_Field) (u := T_api_Field) (o_t rfl) rfl rfl (Fld.id _) rfl rfl) fun x9 =>
 Sim.op (h_callN sp_field_Pair (.one (o_t rfl))) fun x10 =>
 Sim.op1 (h_mv (o_t rfl)) <|
 Sim.opn (h_ext (o_t rfl) rfl) fun x11 =>
 Sim.opn (h_ext (o_t rfl) rfl) fun x12 =>
 Sim.opM (M_alloc (t := T_pairline_Pair) 6 rfl rfl) fun x13 =>
 Sim.opM (M_stC (o_t rfl) (o_t rfl) rfl rfl (Fld.id _) rfl) fun x14 =>
 Sim.op1 (h_mv (o_t rfl)) <|
 Sim.doneS <| Sim.op1 (h_mv (o_t rfl)) <|
 Sim.opn (h_ldC (t := T_pairline_Pair) (u := T_pairline_Pair) (o_t rfl) rfl rfl (Fld.id _) rfl rfl) fun x15 =>
 Sim.op (h_bll (t := T_pairline_Pair) (n := 1) rfl rfl (.cons rfl (o_t rfl) <| .nil _)) fun x16 =>
 Sim.opM (M_app rfl (o_t rfl) rfl (n_sl (o_t rfl))) fun x17 =>
 Sim.op1 (h_mv (o_t rfl)) <|
 Sim.doneB <| Sim.doneS <| Sim.op (h_add (I := (IT.int .i64)) (o_t rfl) o_i) fun x18 =>
 Sim.op1 (h_mv (o_t rfl)) <|
 Sim.next (x18, x17) ⟨⟨⟨rfl, trivial⟩, ⟨⟨rfl, trivial⟩, ⟨⟨rfl, trivial⟩, ⟨⟨rfl, trivial⟩, trivial⟩⟩⟩⟩, ⟨⟨rfl, trivial⟩, trivial⟩⟩) (
 Sim.exitS <| Sim.out s2.2 ⟨⟨⟨rfl, trivial⟩, trivial⟩, ⟨⟨rfl, trivial⟩, trivial⟩⟩)) (fun p3 =>
 Sim.exitB <| Sim.doneS <| Sim.seqI <| Sim.op1 (h_mv (o_t rfl)) <|
 Sim.op1 (h_mv (o_t rfl)) <|
 Sim.doneS <| Sim.frzRow 1003 rfl rfl <| Sim.ret (.one (res_t rfl)))
theorem sp_getres_pairs : Spec tb fn_getres_pairs [(T.sl T_api_Field)] [(T.sl T_pairline_Pair)] (fun a => getres_pairs a) :=
  Spec.of f_getres_pairs rfl rfl rfl sim_getres_pairs

noncomputable def internal_stringslite_IndexByte (a0 : Str) (a1 : UInt8) : Option Int :=
 (internal_bytealg_IndexByteString a0 a1).bind fun x1 =>
 some x1
noncomputable def sim_internal_stringslite_IndexByte (a : Res [T.str, T.u8]) : Sim tb ⟨argsT [T.str, T.u8] 0 a, []⟩ c_internal_stringslite_IndexByte.body [] (QRes [(T.int .i64)] c_internal_stringslite_IndexByte.res) :=
 Sim.seqI <| Sim.op1 (h_mv o_i) <|
 Sim.doneS <| Sim.seqI <| Sim.op1 (h_mv (o_t rfl)) <|
 Sim.op1 (h_mv (o_t rfl)) <|
 Sim.op (h_call1 sp_internal_bytealg_IndexByteString (.cons (o_t rfl) <| .one (o_t rfl))) fun x1 =>
 Sim.op1 (h_mv (o_t rfl)) <|
 Sim.doneS <| Sim.ret (.one (res_t rfl))
theorem sp_internal_stringslite_IndexByte : Spec tb fn_internal_stringslite_IndexByte [T.str, T.u8] [(T.int .i64)] (fun a => internal_stringslite_IndexByte a.1 a.2) :=
  Spec.of f_internal_stringslite_IndexByte rfl rfl rfl sim_internal_stringslite_IndexByte

noncomputable def strings_IndexByte (a0 : Str) (a1 : UInt8) : Option Int :=
 (internal_stringslite_IndexByte a0 a1).bind fun x1 =>
 some x1
noncomputable def sim_strings_IndexByte (a : Res [T.str, T.u8]) : Sim tb ⟨argsT [T.str, T.u8] 0 a, []⟩ c_strings_IndexByte.body [] (QRes [(T.int .i64)] c_strings_IndexByte.res) :=
 Sim.seqI <| Sim.op1 (h_mv o_i) <|
 Sim.doneS <| Sim.seqI <| Sim.op1 (h_mv (o_t rfl)) <|
 Sim.op1 (h_mv (o_t rfl)) <|
 Sim.op (h_call1 sp_internal_stringslite_IndexByte (.cons (o_t rfl) <| .one (o_t rfl))) fun x1 =>
 Sim.op1 (h_mv (o_t rfl)) <|
 Sim.doneS <| Sim.ret (.one (res_t rfl))
theorem sp_strings_IndexByte : Spec tb fn_strings_IndexByte [T.str, T.u8] [(T.int .i64)] (fun a => strings_IndexByte a.1 a.2) :=
  Spec.of f_strings_IndexByte rfl rfl rfl sim_strings_IndexByte

noncomputable def unicode_utf8_ValidRune (a0 : Int) : Option Bool :=
 (andO (decide (0 ≤ a0)) (some (decide (a0 < 55296)))).bind fun x3 =>
 if x3 = true then
 some true
 else
 (andO (decide (57343 < a0)) (some (decide (a0 ≤ 1114111)))).bind fun x6 =>
 if x6 = true then
 some true
 else
 some false
noncomputable def sim_unicode_utf8_ValidRune (a : Res [(T.int .i32)]) : Sim tb ⟨argsT [(T.int .i32)] 0 a, []⟩ c_unicode_utf8_ValidRune.body [] (QRes [T.b] c_unicode_utf8_ValidRune.res) :=
 Sim.seqI <| Sim.op1 (h_mv o_b) <|
 Sim.doneS <| Sim.seqI <| Sim.blkI <| Sim.seqI <| Sim.op1 (h_mv (o_t rfl)) <|
 Sim.op (h_cmp (I := (IT.int .i32)) rfl o_i (o_t rfl)) fun x1 =>
 Sim.op1 (h_mv (o_t rfl)) <|
 Sim.and 2 rfl rfl rfl (Grp.op1 (h_mv (o_t rfl)) <|
 Grp.op (h_cmp (I := (IT.int .i32)) rfl (o_t rfl) o_i) fun x2 =>
 Grp.nil (o_t rfl)) fun x3 =>
 Sim.op1 (h_mv (o_t rfl)) <|
 Sim.doneS <| Sim.cond (o_t rfl) (
 Sim.seqI <| Sim.op1 (h_mv o_b) <|
 Sim.doneS <| Sim.ret (.one (res_t rfl))) (
 Sim.seqI <| Sim.op1 (h_mv (o_t rfl)) <|
 Sim.op (h_cmp (I := (IT.int .i32)) rfl o_i (o_t rfl)) fun x4 =>
 Sim.op1 (h_mv (o_t rfl)) <|
 Sim.and 2 rfl rfl rfl (Grp.op1 (h_mv (o_t rfl)) <|
 Grp.op (h_cmp (I := (IT.int .i32)) rfl (o_t rfl) o_i) fun x5 =>
 Grp.nil (o_t rfl)) fun x6 =>
 Sim.op1 (h_mv (o_t rfl)) <|
 Sim.doneS <| Sim.cond (o_t rfl) (
 Sim.seqI <| Sim.op1 (h_mv o_b) <|
 Sim.doneS <| Sim.ret (.one (res_t rfl))) (
 Sim.skip <| Sim.doneB <| Sim.doneS <| Sim.seqI <| Sim.op1 (h_mv o_b) <|
 Sim.doneS <| Sim.ret (.one (res_t rfl))))
theorem sp_unicode_utf8_ValidRune : Spec tb fn_unicode_utf8_ValidRune [(T.int .i32)] [T.b] (fun a => unicode_utf8_ValidRune a) :=
  Spec.of f_unicode_utf8_ValidRune rfl rfl rfl sim_unicode_utf8_ValidRune

noncomputable def internal_bytealg_Cutover (a0 : Int) : Option Int :=
 (if 8 = 0 then none else some (IntKind.i64.wrap (Int.tdiv (IntKind.i64.wrap (a0 + 16)) 8))).bind fun x2 =>
 some x2
noncomputable def sim_internal_bytealg_Cutover (a : Res [(T.int .i64)]) : Sim tb ⟨argsT [(T.int .i64)] 0 a, []⟩ c_internal_bytealg_Cutover.body [] (QRes [(T.int .i64)] c_internal_bytealg_Cutover.res) :=
 Sim.seqI <| Sim.op1 (h_mv o_i) <|
 Sim.doneS <| Sim.seqI <| Sim.op1 (h_mv (o_t rfl)) <|
 Sim.op (h_add (I := (IT.int .i64)) (o_t rfl) o_i) fun x1 =>
 Sim.op (h_quo (I := (IT.int .i64)) (o_t rfl) o_i) fun x2 =>
 Sim.op1 (h_mv (o_t rfl)) <|
 Sim.doneS <| Sim.ret (.one (res_t rfl))
theorem sp_internal_bytealg_Cutover : Spec tb fn_internal_bytealg_Cutover [(T.int .i64)] [(T.int .i64)] (fun a => internal_bytealg_Cutover a) :=
  Spec.of f_internal_bytealg_Cutover rfl rfl rfl sim_internal_bytealg_Cutover

noncomputable def strings_IndexRune (a0 : Str) (a1 : Int) : Option Int :=
 (andO (decide (0 ≤ a1)) (some (decide (a1 < 128)))).bind fun x3 =>
 if x3 = true then
 (strings_IndexByte a0 (IT.u8.ofI a1)).bind fun x5 =>
 some x5
 else
 if (decide (a1 = 65533)) = true then
 (iter (fun (s7 : Nat) =>
 if s7 < a0.length then
 let x9 := runeAt a0 s7
 if (decide (x9.1 = 65533)) = true then
 (some ((s7 : Nat) : Int)).map fun r => .inr (.inr r)
 else
 some (.inl (s7 + x9.2))
 else
 some (.inr (.inl ()))) 0).bind (Sum.elim (fun (p8 : Unit) =>
 some (-1)) some)
 else
 (unicode_utf8_ValidRune a1).bind fun x13 =>
 if (!x13) = true then
 some (-1)
 else
 let x17 := IntKind.i64.wrap ((((Utf8.encode a1).data.toList).length : Int) - 1)
 (iter (fun (s18 : Unit) =>
 if (decide (x17 < (a0.length : Int))) = true then
 (idx a0 x17).bind fun x22 =>
 (idx ((Utf8.encode a1).data.toList) x17).bind fun x23 =>
 (fun (k26 : Int → Option _) => if (!decide ((x22.toNat : Int) = (x23.toNat : Int))) = true then
 (subL a0 (some (IntKind.i64.wrap (x17 + 1))) none).bind fun x39 =>
 (idx ((Utf8.encode a1).data.toList) x17).bind fun x40 =>
 (strings_IndexByte x39 x40).bind fun x41 =>
 if (decide (x41 < 0)) = true then
 (some (-1)).map fun r => .inr (.inr r)
 else
 let x44 := IntKind.i64.wrap (x17 + IntKind.i64.wrap (x41 + 1))
 k26 x44
 else
 k26 x17) fun p25 =>
 (iter (fun (s27 : Int) =>
 let x30 := decide (s27 < (((Utf8.encode a1).data.toList).length : Int))
 if x30 = true then
 (idx a0 (IntKind.i64.wrap (p25 - s27))).bind fun x32 =>
 (idx ((Utf8.encode a1).data.toList) (IntKind.i64.wrap (x17 - s27))).bind fun x34 =>
 if (!decide ((x32.toNat : Int) = (x34.toNat : Int))) = true then
 none
 else
 some (.inl (IntKind.i64.wrap (s27 + 1)))
 else
 some (.inr (.inl ()))) 1).bind (Sum.elim (fun (p28 : Unit) =>
 (some (IntKind.i64.wrap (p25 - x17))).map fun r => .inr (.inr r)) some)
 else
 some (.inr (.inl ()))) ()).bind (Sum.elim (fun (p19 : Unit) =>
 some (-1)) some)
noncomputable def sim_strings_IndexRune (a : Res [T.str, (T.int .i32)]) : Sim tb ⟨argsT [T.str, (T.int .i32)] 0 a, []⟩ c_strings_IndexRune.body [] (QRes [(T.int .i64)] c_strings_IndexRune.res) :=
 Sim.seqI <| Sim.op1 (h_mv o_i) <|
 Sim.doneS <| Sim.blkI <| Sim.seqI <| Sim.op1 (h_mv (o_t rfl)) <|
 Sim.op (h_cmp (I := (IT.int .i32)) rfl o_i (o_t rfl)) fun x1 =>
 Sim.op1 (h_mv (o_t rfl)) <|
 Sim.and 2 rfl rfl rfl (Grp.op1 (h_mv (o_t rfl)) <|
 Grp.op (h_cmp (I := (IT.int .i32)) rfl (o_t rfl) o_i) fun x2 =>
 Grp.nil (o_t rfl)) fun x3 =>
 Sim.op1 (h_mv (o_t rfl)) <|
 Sim.doneS <| Sim.cond (o_t rfl) (
 Sim.seqI <| Sim.op1 (h_mv (o_t rfl)) <|
 Sim.op1 (h_mv (o_t rfl)) <|
 Sim.op (h_cvi (I := (IT.int .i32)) (J := IT.u8) rfl (o_t rfl)) fun x4 =>
 Sim.op (h_call1 sp_strings_IndexByte (.cons (o_t rfl) <| .one (o_t rfl))) fun x5 =>
 Sim.op1 (h_mv (o_t rfl)) <|
 Sim.doneS <| Sim.ret (.one (res_t rfl))) (
 Sim.seqI <| Sim.op1 (h_mv (o_t rfl)) <|
 Sim.op (h_cmp (I := (IT.int .i32)) rfl (o_t rfl) o_i) fun x6 =>
 Sim.op1 (h_mv (o_t rfl)) <|
 Sim.doneS <| Sim.cond (o_t rfl) (
 Sim.seqI <| Sim.seqI <| Sim.op1 (h_mv (o_t rfl)) <|
 Sim.opM (M_rng 1175 rfl (o_t rfl)) fun _ =>
 Sim.doneS <| Sim.blkI <| Sim.loop (id := 9) (σ := Nat) (τ := Unit) (fun s7 => ⟨[(175, .own 1175)], [(1175, .dom DIter (a.1, s7))]⟩) (fun p8 => ⟨[], []⟩) 0 ⟨⟨⟨rfl, trivial⟩, trivial⟩, ⟨⟨rfl, trivial⟩, trivial⟩⟩ (fun _ => rfl) (fun s7 =>
 Sim.seqI <| Sim.nxt (o_t rfl) rfl (fun x9 =>
 Sim.op1 (h_ext (o_t rfl) rfl) <|
 Sim.doneS <| Sim.seqI <| Sim.condT (o_t rfl) <|
 Sim.skip <| Sim.doneS <| Sim.blkI <| Sim.seqI <| Sim.opn (h_ext (o_t rfl) rfl) fun x10 =>
 Sim.opn (h_ext (o_t rfl) rfl) fun x11 =>
 Sim.op1 (h_mv (o_t rfl)) <|
 Sim.op1 (h_mv (o_t rfl)) <|
 Sim.doneS <| Sim.seqI <| Sim.op1 (h_mv (o_t rfl)) <|
 Sim.op (h_cmp (I := (IT.int .i32)) rfl (o_t rfl) o_i) fun x12 =>
 Sim.doneS <| Sim.cond (o_t rfl) (
 Sim.seqI <| Sim.op1 (h_mv (o_t rfl)) <|
 Sim.op1 (h_mv (o_t rfl)) <|
 Sim.doneS <| Sim.outRet <| Sim.ret (.one (res_t rfl))) (
 Sim.skip <| Sim.doneB <| Sim.next (s7 + x9.2) ⟨⟨⟨rfl, trivial⟩, trivial⟩, ⟨⟨rfl, trivial⟩, trivial⟩⟩)) (
 Sim.op1 (h_ext (o_t rfl) rfl) <|
 Sim.doneS <| Sim.seqI <| Sim.condF (o_t rfl) <|
 Sim.exitS <| Sim.out () ⟨trivial, trivial⟩)) (fun p8 =>
 Sim.exitB <| Sim.doneS <| Sim.seqI <| Sim.op1 (h_mv o_i) <|
 Sim.doneS <| Sim.ret (.one (res_t rfl)))) (
 Sim.seqI <| Sim.op1 (h_mv (o_t rfl)) <|
 Sim.op (h_call1 sp_unicode_utf8_ValidRune (.one (o_t rfl))) fun x13 =>
 Sim.op (h_not (o_t rfl)) fun x14 =>
 Sim.op1 (h_mv (o_t rfl)) <|
 Sim.doneS <| Sim.cond (o_t rfl) (
 Sim.seqI <| Sim.op1 (h_mv o_i) <|
 Sim.doneS <| Sim.ret (.one (res_t rfl))) (
 Sim.scope <| Sim.seqI <| Sim.op1 (h_mv (o_t rfl)) <|
 Sim.op (h_cvc (o_t rfl)) fun x15 =>
 Sim.op1 (h_mv (o_t rfl)) <|
 Sim.doneS <| Sim.seqI <| Sim.op1 (h_mv (o_t rfl)) <|
 Sim.op (h_lens (o_t rfl)) fun x16 =>
 Sim.op (h_sub (I := (IT.int .i64)) (o_t rfl) o_i) fun x17 =>
 Sim.op1 (h_mv (o_t rfl)) <|
 Sim.doneS <| Sim.seqI <| Sim.op1 (h_mv (o_t rfl)) <|
 Sim.op1 (h_mv (o_t rfl)) <|
 Sim.doneS <| Sim.seqI <| Sim.op1 (h_mv o_i) <|
 Sim.doneS <| Sim.seqI <| Sim.blkI <| Sim.loop (id := 1) (σ := Unit) (τ := Unit) (fun s18 => ⟨[(0, .val T.str a.1), (7, .val T.str x15), (8, .val (T.int .i64) x17), (9, .val (T.int .i64) x17)], []⟩) (fun p19 => ⟨[], []⟩) () ⟨⟨⟨rfl, trivial⟩, ⟨⟨rfl, trivial⟩, ⟨⟨rfl, trivial⟩, ⟨⟨rfl, trivial⟩, trivial⟩⟩⟩⟩, trivial⟩ (fun _ => rfl) (fun s18 =>
 Sim.seqI <| Sim.seqI <| Sim.op1 (h_mv (o_t rfl)) <|
 Sim.op1 (h_mv (o_t rfl)) <|
 Sim.op (h_lens (o_t rfl)) fun x20 =>
 Sim.op (h_cmp (I := (IT.int .i64)) rfl (o_t rfl) (o_t rfl)) fun x21 =>
 Sim.doneS <| Sim.cond (o_t rfl) (
 Sim.skip <| Sim.doneS <| Sim.blkI <| Sim.scope <| Sim.seqI <| Sim.seqI <| Sim.op1 (h_mv (o_t rfl)) <|
 Sim.op1 (h_mv (o_t rfl)) <|
 Sim.op (h_ixs (o_t rfl) (o_t rfl)) fun x22 =>
 Sim.op1 (h_mv (o_t rfl)) <|
 Sim.op1 (h_mv (o_t rfl)) <|
 Sim.op (h_ixs (o_t rfl) (o_t rfl)) fun x23 =>
 Sim.op (h_cmp (I := IT.u8) rfl (o_t rfl) (o_t rfl)) fun x24 =>
 Sim.doneS <| Sim.join (τ := Int) (fun p25 => ⟨[(0, .val T.str a.1), (7, .val T.str x15), (8, .val (T.int .i64) x17), (9, .val (T.int .i64) p25)], []⟩) (fun p25 =>
 Sim.doneS <| Sim.seqI <| Sim.seqI <| Sim.op1 (h_mv o_i) <|
 Sim.doneS <| Sim.blkI <| Sim.loop (id := 3) (σ := Int) (τ := Unit) (fun s27 => ⟨[(0, .val T.str a.1), (7, .val T.str x15), (8, .val (T.int .i64) x17), (9, .val (T.int .i64) p25), (12, .val (T.int .i64) s27)], []⟩) (fun p28 => ⟨[(8, .val (T.int .i64) x17), (9, .val (T.int .i64) p25)], []⟩) 1 ⟨⟨⟨rfl, trivial⟩, ⟨⟨rfl, trivial⟩, ⟨⟨rfl, trivial⟩, ⟨⟨rfl, trivial⟩, ⟨⟨rfl, trivial⟩, trivial⟩⟩⟩⟩⟩, trivial⟩ (fun _ => rfl) (fun s27 =>
 Sim.seqI <| Sim.seqI <| Sim.op1 (h_mv (o_t rfl)) <|
 Sim.op1 (h_mv (o_t rfl)) <|
 Sim.op (h_lens (o_t rfl)) fun x29 =>
 Sim.op (h_cmp (I := (IT.int .i64)) rfl (o_t rfl) (o_t rfl)) fun x30 =>
 Sim.doneS <| Sim.cond (o_t rfl) (
 Sim.skip <| Sim.doneS <| Sim.seqI <| Sim.blkI <| Sim.seqI <| Sim.op1 (h_mv (o_t rfl)) <|
 Sim.op1 (h_mv (o_t rfl)) <|
 Sim.op1 (h_mv (o_t rfl)) <|
 Sim.op (h_sub (I := (IT.int .i64)) (o_t rfl) (o_t rfl)) fun x31 =>
 Sim.op (h_ixs (o_t rfl) (o_t rfl)) fun x32 =>
 Sim.op1 (h_mv (o_t rfl)) <|
 Sim.op1 (h_mv (o_t rfl)) <|
 Sim.op1 (h_mv (o_t rfl)) <|
 Sim.op (h_sub (I := (IT.int .i64)) (o_t rfl) (o_t rfl)) fun x33 =>
 Sim.op (h_ixs (o_t rfl) (o_t rfl)) fun x34 =>
 Sim.op (h_cmp (I := IT.u8) rfl (o_t rfl) (o_t rfl)) fun x35 =>
 Sim.doneS <| Sim.cond (o_t rfl) (
 Sim.stop) (
 Sim.skip <| Sim.doneB <| Sim.doneS <| Sim.op1 (h_mv (o_t rfl)) <|
 Sim.op (h_add (I := (IT.int .i64)) (o_t rfl) o_i) fun x36 =>
 Sim.op1 (h_mv (o_t rfl)) <|
 Sim.next x36 ⟨⟨⟨rfl, trivial⟩, ⟨⟨rfl, trivial⟩, ⟨⟨rfl, trivial⟩, ⟨⟨rfl, trivial⟩, ⟨⟨rfl, trivial⟩, trivial⟩⟩⟩⟩⟩, trivial⟩)) (
 Sim.exitS <| Sim.out () ⟨⟨⟨rfl, trivial⟩, ⟨⟨rfl, trivial⟩, trivial⟩⟩, trivial⟩)) (fun p28 =>
 Sim.exitB <| Sim.doneS <| Sim.seqI <| Sim.seqI <| Sim.op1 (h_mv (o_t rfl)) <|
 Sim.op1 (h_mv (o_t rfl)) <|
 Sim.op (h_sub (I := (IT.int .i64)) (o_t rfl) (o_t rfl)) fun x37 =>
 Sim.op1 (h_mv (o_t rfl)) <|
 Sim.doneS <| Sim.outRet <| Sim.ret (.one (res_t rfl)))) fun k26 => Sim.cond (o_t rfl) (
 Sim.seqI <| Sim.op1 (h_mv (o_t rfl)) <|
 Sim.op1 (h_mv (o_t rfl)) <|
 Sim.op (h_add (I := (IT.int .i64)) (o_t rfl) o_i) fun x38 =>
 Sim.op (h_sls (o_t rfl) (.some (o_t rfl)) .none) fun x39 =>
 Sim.op1 (h_mv (o_t rfl)) <|
 Sim.op1 (h_mv (o_t rfl)) <|
 Sim.op (h_ixs (o_t rfl) (o_t rfl)) fun x40 =>
 Sim.op (h_call1 sp_strings_IndexByte (.cons (o_t rfl) <| .one (o_t rfl))) fun x41 =>
 Sim.op1 (h_mv (o_t rfl)) <|
 Sim.doneS <| Sim.seqI <| Sim.seqI <| Sim.op1 (h_mv (o_t rfl)) <|
 Sim.op (h_cmp (I := (IT.int .i64)) rfl (o_t rfl) o_i) fun x42 =>
 Sim.doneS <| Sim.cond (o_t rfl) (
 Sim.seqI <| Sim.op1 (h_mv o_i) <|
 Sim.doneS <| Sim.outRet <| Sim.ret (.one (res_t rfl))) (
 Sim.skip <| Sim.doneS <| Sim.op1 (h_mv (o_t rfl)) <|
 Sim.op1 (h_mv (o_t rfl)) <|
 Sim.op (h_add (I := (IT.int .i64)) (o_t rfl) o_i) fun x43 =>
 Sim.op (h_add (I := (IT.int .i64)) (o_t rfl) (o_t rfl)) fun x44 =>
 Sim.op1 (h_mv (o_t rfl)) <|
 Sim.weak (k26 x44) ⟨⟨⟨rfl, trivial⟩, ⟨⟨rfl, trivial⟩, ⟨⟨rfl, trivial⟩, ⟨⟨rfl, trivial⟩, trivial⟩⟩⟩⟩, trivial⟩)) (
 Sim.skip <| Sim.weak (k26 x17) ⟨⟨⟨rfl, trivial⟩, ⟨⟨rfl, trivial⟩, ⟨⟨rfl, trivial⟩, ⟨⟨rfl, trivial⟩, trivial⟩⟩⟩⟩, trivial⟩)) (
 Sim.exitS <| Sim.out () ⟨trivial, trivial⟩)) (fun p19 =>
 Sim.exitB <| Sim.doneS <| Sim.seqI <| Sim.seqI <| Sim.op1 (h_mv o_i) <|
 Sim.doneS <| Sim.ret (.one (res_t rfl))))))
theorem sp_strings_IndexRune : Spec tb fn_strings_IndexRune [T.str, (T.int .i32)] [(T.int .i64)] (fun a => strings_IndexRune a.1 a.2) :=
  Spec.of f_strings_IndexRune rfl rfl rfl sim_strings_IndexRune

noncomputable def strings_shouldUseASCIISet (a0 : Int) : Option Bool :=
 some (decide (8 < a0))
noncomputable def sim_strings_shouldUseASCIISet (a : Res [(T.int .i64)]) : Sim tb ⟨argsT [(T.int .i64)] 0 a, []⟩ c_strings_shouldUseASCIISet.body [] (QRes [T.b] c_strings_shouldUseASCIISet.res) :=
 Sim.seqI <| Sim.op1 (h_mv o_b) <|
 Sim.doneS <| Sim.seqI <| Sim.op1 (h_mv (o_t rfl)) <|
 Sim.op (h_cmp (I := (IT.int .i64)) rfl (o_t rfl) o_i) fun x1 =>
 Sim.op1 (h_mv (o_t rfl)) <|
 Sim.doneS <| Sim.ret (.one (res_t rfl))
theorem sp_strings_shouldUseASCIISet : Spec tb fn_strings_shouldUseASCIISet [(T.int .i64)] [T.b] (fun a => strings_shouldUseASCIISet a) :=
  Spec.of f_strings_shouldUseASCIISet rfl rfl rfl sim_strings_shouldUseASCIISet

noncomputable def strings_makeASCIISet (a0 : Str) : Option ((Ar Bool 256) × Bool) :=
 (iter (fun (s2 : (Int × (Ar Bool 256))) =>
 if (decide (s2.1 < (a0.length : Int))) = true then
 (idx a0 s2.1).bind fun x6 =>
 let x7 := decide (((128 : UInt8).toNat : Int) ≤ (x6.toNat : Int))
 if x7 = true then
 (some (s2.2, false)).map fun r => .inr (.inr r)
 else
 (idxN 256 (x6.toNat : Int)).bind fun x10 =>
 (if x10 < 256 then some (s2.2.set x10 true) else none).bind fun x11 =>
 some (.inl (IntKind.i64.wrap (s2.1 + 1), x11))
 else
 some (.inr (.inl s2.2))) (0, (T.arr 256 T.b).z)).bind (Sum.elim (fun (p3 : (Ar Bool 256)) =>
 some (p3, true)) some)
noncomputable def sim_strings_makeASCIISet (a : Res [T.str]) : Sim tb ⟨argsT [T.str] 0 a, []⟩ c_strings_makeASCIISet.body [] (QRes [(T.arr 256 T.b), T.b] c_strings_makeASCIISet.res) :=
 Sim.seqI <| Sim.opM (M_alloc (t := (T.arr 256 T.b)) 2 rfl rfl) fun x1 =>
 Sim.op1 (h_mv o_b) <|
 Sim.doneS <| Sim.seqI <| Sim.seqI <| Sim.op1 (h_mv o_i) <|
 Sim.doneS <| Sim.blkI <| Sim.loop (id := 0) (σ := (Int × (Ar Bool 256))) (τ := (Ar Bool 256)) (fun s2 => ⟨[(0, .val T.str a), (2, .cp 2 0), (4, .val (T.int .i64) s2.1)], [(2, .cells [(256, .val (T.arr 256 T.b) s2.2)])]⟩) (fun p3 => ⟨[(2, .cp 2 0)], [(2, .cells [(256, .val (T.arr 256 T.b) p3)])]⟩) (0, x1) ⟨⟨⟨rfl, trivial⟩, ⟨⟨rfl, trivial⟩, ⟨⟨rfl, trivial⟩, trivial⟩⟩⟩, ⟨⟨rfl, ⟨trivial, trivial⟩⟩, trivial⟩⟩ (fun _ => rfl) (fun s2 =>
 Sim.seqI <| Sim.seqI <| Sim.op1 (h_mv (o_t rfl)) <|
 Sim.op1 (h_mv (o_t rfl)) <|
 Sim.op (h_lens (o_t rfl)) fun x4 =>
 Sim.op (h_cmp (I := (IT.int .i64)) rfl (o_t rfl) (o_t rfl)) fun x5 =>
 Sim.doneS <| Sim.cond (o_t rfl) (
 Sim.skip <| Sim.doneS <| Sim.seqI <| Sim.blkI <| Sim.seqI <| Sim.op1 (h_mv (o_t rfl)) <|
 Sim.op1 (h_mv (o_t rfl)) <|
 Sim.op (h_ixs (o_t rfl) (o_t rfl)) fun x6 =>
 Sim.op1 (h_mv (o_t rfl)) <|
 Sim.doneS <| Sim.seqI <| Sim.seqI <| Sim.op1 (h_mv (o_t rfl)) <|
 Sim.op (h_cmp (I := IT.u8) rfl (o_t rfl) (o_u8 128 rfl)) fun x7 =>
 Sim.doneS <| Sim.cond (o_t rfl) (
 Sim.seqI <| Sim.opn (h_ldC (t := (T.arr 256 T.b)) (u := (T.arr 256 T.b)) (o_t rfl) rfl rfl (Fld.id _) rfl rfl) fun x8 =>
 Sim.opM (M_stC (o_t rfl) (o_t rfl) rfl rfl (Fld.id _) rfl) fun x9 =>
 Sim.op1 (h_mv o_b) <|
 Sim.doneS <| Sim.outRet <| Sim.ret (.cons (res_c rfl rfl rfl (Fld.id _) rfl rfl) <| .one (res_t rfl))) (
 Sim.skip <| Sim.doneS <| Sim.op1 (h_mv (o_t rfl)) <|
 Sim.op (h_iaaC (o_t rfl) (o_n8 (o_t rfl))) fun x10 =>
 Sim.opM (M_stA (s := (T.arr 256 T.b)) (Fld.id _) rfl (o_t rfl) o_b rfl rfl) fun x11 =>
 Sim.doneB <| Sim.doneS <| Sim.op1 (h_mv (o_t rfl)) <|
 Sim.op (h_add (I := (IT.int .i64)) (o_t rfl) o_i) fun x12 =>
 Sim.op1 (h_mv (o_t rfl)) <|
 Sim.next (x12, x11) ⟨⟨⟨rfl, trivial⟩, ⟨⟨rfl, trivial⟩, ⟨⟨rfl, trivial⟩, trivial⟩⟩⟩, ⟨⟨rfl, ⟨trivial, trivial⟩⟩, trivial⟩⟩)) (
 Sim.exitS <| Sim.out s2.2 ⟨⟨⟨rfl, trivial⟩, trivial⟩, ⟨⟨rfl, ⟨trivial, trivial⟩⟩, trivial⟩⟩)) (fun p3 =>
 Sim.exitB <| Sim.doneS <| Sim.seqI <| Sim.opn (h_ldC (t := (T.arr 256 T.b)) (u := (T.arr 256 T.b)) (o_t rfl) rfl rfl (Fld.id _) rfl rfl) fun x13 =>
 Sim.opM (M_stC (o_t rfl) (o_t rfl) rfl rfl (Fld.id _) rfl) fun x14 =>
 Sim.op1 (h_mv o_b) <|
 Sim.doneS <| Sim.ret (.cons (res_c rfl rfl rfl (Fld.id _) rfl rfl) <| .one (res_t rfl)))
theorem sp_strings_makeASCIISet : Spec tb fn_strings_makeASCIISet [T.str] [(T.arr 256 T.b), T.b] (fun a => strings_makeASCIISet a) :=
  Spec.of f_strings_makeASCIISet rfl rfl rfl sim_strings_makeASCIISet

noncomputable def p_strings_asciiSet_contains (a0 : (Option (Ar Bool 256))) (a1 : UInt8) : Option Bool :=
 (a0).bind fun x1 =>
 (idx x1.l (a1.toNat : Int)).bind fun x2 =>
 some x2
noncomputable def sim_p_strings_asciiSet_contains (a : Res [(T.ref (T.arr 256 T.b)), T.u8]) : Sim tb ⟨argsT [(T.ref (T.arr 256 T.b)), T.u8] 0 a, []⟩ c_p_strings_asciiSet_contains.body [] (QRes [T.b] c_p_strings_asciiSet_contains.res) :=
 Sim.seqI <| Sim.op1 (h_mv o_b) <|
 Sim.doneS <| Sim.seqI <| Sim.op1 (h_mv (o_t rfl)) <|
 Sim.op1 (h_mv (o_t rfl)) <|
 Sim.op (h_nilR (o_t rfl)) fun x1 =>
 Sim.op (h_iaa rfl rfl (o_t rfl) (o_n8 (o_t rfl))) fun x2 =>
 Sim.opn (h_ld rfl rfl (o_t rfl)) fun x3 =>
 Sim.op1 (h_mv (o_t rfl)) <|
 Sim.doneS <| Sim.ret (.one (res_t rfl))
theorem sp_p_strings_asciiSet_contains : Spec tb fn_p_strings_asciiSet_contains [(T.ref (T.arr 256 T.b)), T.u8] [T.b] (fun a => p_strings_asciiSet_contains a.1 a.2) :=
  Spec.of f_p_strings_asciiSet_contains rfl rfl rfl sim_p_strings_asciiSet_contains

noncomputable def strings_IndexAny (a0 : Str) (a1 : Str) : Option Int :=
 if (decide (a1 = [])) = true then
 some (-1)
 else
 if (decide ((a1.length : Int) = 1)) = true then
 (idx a1 0).bind fun x4 =>
 (fun (k8 : Int → Option _) => if (decide (128 ≤ IntKind.i32.wrap (x4.toNat : Int))) = true then
 k8 65533
 else
 k8 (IntKind.i32.wrap (x4.toNat : Int))) fun p7 =>
 (strings_IndexRune a0 p7).bind fun x9 =>
 some x9
 else
 (strings_shouldUseASCIISet (a0.length : Int)).bind fun x11 =>
 (fun (k13 : Unit → Option _) => if x11 = true then
 (strings_makeASCIISet a1).bind fun x21 =>
 if x21.2 = true then
 (iter (fun (s26 : Int) =>
 if (decide (s26 < (a0.length : Int))) = true then
 (idx a0 s26).bind fun x30 =>
 (p_strings_asciiSet_contains (some x21.1) x30).bind fun x31 =>
 if x31 = true then
 (some s26).map fun r => .inr (.inr r)
 else
 some (.inl (IntKind.i64.wrap (s26 + 1)))
 else
 some (.inr (.inl ()))) 0).bind (Sum.elim (fun (p27 : Unit) =>
 some (-1)) some)
 else
 k13 ()
 else
 k13 ()) fun p12 =>
 (iter (fun (s14 : Nat) =>
 if s14 < a0.length then
 let x16 := runeAt a0 s14
 (strings_IndexRune a1 x16.1).bind fun x19 =>
 if (decide (0 ≤ x19)) = true then
 (some ((s14 : Nat) : Int)).map fun r => .inr (.inr r)
 else
 some (.inl (s14 + x16.2))
 else
 some (.inr (.inl ()))) 0).bind (Sum.elim (fun (p15 : Unit) =>
 some (-1)) some)
noncomputable def sim_strings_IndexAny (a : Res [T.str, T.str]) : Sim tb ⟨argsT [T.str, T.str] 0 a, []⟩ c_strings_IndexAny.body [] (QRes [(T.int .i64)] c_strings_IndexAny.res) :=
 Sim.seqI <| Sim.op1 (h_mv o_i) <|
 Sim.doneS <| Sim.seqI <| Sim.seqI <| Sim.op1 (h_mv (o_t rfl)) <|
 Sim.op (h_seql (o_t rfl) o_s) fun x1 =>
 Sim.doneS <| Sim.cond (o_t rfl) (
 Sim.seqI <| Sim.op1 (h_mv o_i) <|
 Sim.doneS <| Sim.ret (.one (res_t rfl))) (
 Sim.skip <| Sim.doneS <| Sim.seqI <| Sim.seqI <| Sim.op1 (h_mv (o_t rfl)) <|
 Sim.op (h_lens (o_t rfl)) fun x2 =>
 Sim.op (h_cmp (I := (IT.int .i64)) rfl (o_t rfl) o_i) fun x3 =>
 Sim.doneS <| Sim.cond (o_t rfl) (
 Sim.seqI <| Sim.op1 (h_mv (o_t rfl)) <|
 Sim.op (h_ixs (o_t rfl) o_i) fun x4 =>
 Sim.op (h_cvi (I := IT.u8) (J := (IT.int .i32)) rfl (o_t rfl)) fun x5 =>
 Sim.op1 (h_mv (o_t rfl)) <|
 Sim.doneS <| Sim.seqI <| Sim.seqI <| Sim.op1 (h_mv (o_t rfl)) <|
 Sim.op (h_cmp (I := (IT.int .i32)) rfl (o_t rfl) o_i) fun x6 =>
 Sim.doneS <| Sim.join (τ := Int) (fun p7 => ⟨[(0, .val T.str a.1), (5, .val (T.int .i32) p7)], []⟩) (fun p7 =>
 Sim.doneS <| Sim.seqI <| Sim.op1 (h_mv (o_t rfl)) <|
 Sim.op1 (h_mv (o_t rfl)) <|
 Sim.op (h_call1 sp_strings_IndexRune (.cons (o_t rfl) <| .one (o_t rfl))) fun x9 =>
 Sim.op1 (h_mv (o_t rfl)) <|
 Sim.doneS <| Sim.ret (.one (res_t rfl))) fun k8 => Sim.cond (o_t rfl) (
 Sim.op1 (h_mv o_i) <|
 Sim.weak (k8 65533) ⟨⟨⟨rfl, trivial⟩, ⟨⟨rfl, trivial⟩, trivial⟩⟩, trivial⟩) (
 Sim.skip <| Sim.weak (k8 x5) ⟨⟨⟨rfl, trivial⟩, ⟨⟨rfl, trivial⟩, trivial⟩⟩, trivial⟩)) (
 Sim.skip <| Sim.doneS <| Sim.seqI <| Sim.seqI <| Sim.op1 (h_mv (o_t rfl)) <|
 Sim.op (h_lens (o_t rfl)) fun x10 =>
 Sim.op (h_call1 sp_strings_shouldUseASCIISet (.one (o_t rfl))) fun x11 =>
 Sim.doneS <| Sim.join (τ := Unit) (fun p12 => ⟨[(0, .val T.str a.1), (1, .val T.str a.2)], []⟩) (fun p12 =>
 Sim.doneS <| Sim.seqI <| Sim.seqI <| Sim.op1 (h_mv (o_t rfl)) <|
 Sim.opM (M_rng 1045 rfl (o_t rfl)) fun _ =>
 Sim.doneS <| Sim.blkI <| Sim.loop (id := 2) (σ := Nat) (τ := Unit) (fun s14 => ⟨[(1, .val T.str a.2), (45, .own 1045)], [(1045, .dom DIter (a.1, s14))]⟩) (fun p15 => ⟨[], []⟩) 0 ⟨⟨⟨rfl, trivial⟩, ⟨⟨rfl, trivial⟩, trivial⟩⟩, ⟨⟨rfl, trivial⟩, trivial⟩⟩ (fun _ => rfl) (fun s14 =>
 Sim.seqI <| Sim.nxt (o_t rfl) rfl (fun x16 =>
 Sim.op1 (h_ext (o_t rfl) rfl) <|
 Sim.doneS <| Sim.seqI <| Sim.condT (o_t rfl) <|
 Sim.skip <| Sim.doneS <| Sim.blkI <| Sim.seqI <| Sim.opn (h_ext (o_t rfl) rfl) fun x17 =>
 Sim.opn (h_ext (o_t rfl) rfl) fun x18 =>
 Sim.op1 (h_mv (o_t rfl)) <|
 Sim.op1 (h_mv (o_t rfl)) <|
 Sim.doneS <| Sim.seqI <| Sim.op1 (h_mv (o_t rfl)) <|
 Sim.op1 (h_mv (o_t rfl)) <|
 Sim.op (h_call1 sp_strings_IndexRune (.cons (o_t rfl) <| .one (o_t rfl))) fun x19 =>
 Sim.op (h_cmp (I := (IT.int .i64)) rfl (o_t rfl) o_i) fun x20 =>
 Sim.doneS <| Sim.cond (o_t rfl) (
 Sim.seqI <| Sim.op1 (h_mv (o_t rfl)) <|
 Sim.op1 (h_mv (o_t rfl)) <|
 Sim.doneS <| Sim.outRet <| Sim.ret (.one (res_t rfl))) (
 Sim.skip <| Sim.doneB <| Sim.next (s14 + x16.2) ⟨⟨⟨rfl, trivial⟩, ⟨⟨rfl, trivial⟩, trivial⟩⟩, ⟨⟨rfl, trivial⟩, trivial⟩⟩)) (
 Sim.op1 (h_ext (o_t rfl) rfl) <|
 Sim.doneS <| Sim.seqI <| Sim.condF (o_t rfl) <|
 Sim.exitS <| Sim.out () ⟨trivial, trivial⟩)) (fun p15 =>
 Sim.exitB <| Sim.doneS <| Sim.seqI <| Sim.op1 (h_mv o_i) <|
 Sim.doneS <| Sim.ret (.one (res_t rfl)))) fun k13 => Sim.cond (o_t rfl) (
 Sim.seqI <| Sim.op1 (h_mv (o_t rfl)) <|
 Sim.op (h_callN sp_strings_makeASCIISet (.one (o_t rfl))) fun x21 =>
 Sim.op1 (h_mv (o_t rfl)) <|
 Sim.opn (h_ext (o_t rfl) rfl) fun x22 =>
 Sim.opn (h_ext (o_t rfl) rfl) fun x23 =>
 Sim.opM (M_alloc (t := (T.arr 256 T.b)) 6 rfl rfl) fun x24 =>
 Sim.opM (M_stC (o_t rfl) (o_t rfl) rfl rfl (Fld.id _) rfl) fun x25 =>
 Sim.op1 (h_mv (o_t rfl)) <|
 Sim.doneS <| Sim.seqI <| Sim.op1 (h_mv (o_t rfl)) <|
 Sim.doneS <| Sim.cond (o_t rfl) (
 Sim.seqI <| Sim.seqI <| Sim.op1 (h_mv o_i) <|
 Sim.doneS <| Sim.blkI <| Sim.loop (id := 0) (σ := Int) (τ := Unit) (fun s26 => ⟨[(0, .val T.str a.1), (6, .cp 6 0), (8, .val (T.int .i64) s26)], [(6, .cells [(256, .val (T.arr 256 T.b) x25)])]⟩) (fun p27 => ⟨[], []⟩) 0 ⟨⟨⟨rfl, trivial⟩, ⟨⟨rfl, trivial⟩, ⟨⟨rfl, trivial⟩, trivial⟩⟩⟩, ⟨⟨rfl, ⟨trivial, trivial⟩⟩, trivial⟩⟩ (fun _ => rfl) (fun s26 =>
 Sim.seqI <| Sim.seqI <| Sim.op1 (h_mv (o_t rfl)) <|
 Sim.op1 (h_mv (o_t rfl)) <|
 Sim.op (h_lens (o_t rfl)) fun x28 =>
 Sim.op (h_cmp (I := (IT.int .i64)) rfl (o_t rfl) (o_t rfl)) fun x29 =>
 Sim.doneS <| Sim.cond (o_t rfl) (
 Sim.skip <| Sim.doneS <| Sim.seqI <| Sim.blkI <| Sim.seqI <| Sim.op1 (h_mv (o_t rfl)) <|
 Sim.op1 (h_mv (o_t rfl)) <|
 Sim.op (h_ixs (o_t rfl) (o_t rfl)) fun x30 =>
 Sim.op (h_callR1 sp_p_strings_asciiSet_contains (.cons flat_b .nil) (.cons (a_p (o_t rfl) rfl rfl) <| .one (a_v (o_t rfl)))) fun x31 =>
 Sim.doneS <| Sim.cond (o_t rfl) (
 Sim.seqI <| Sim.op1 (h_mv (o_t rfl)) <|
 Sim.op1 (h_mv (o_t rfl)) <|
 Sim.doneS <| Sim.outRet <| Sim.ret (.one (res_t rfl))) (
 Sim.skip <| Sim.doneB <| Sim.doneS <| Sim.op1 (h_mv (o_t rfl)) <|
 Sim.op (h_add (I := (IT.int .i64)) (o_t rfl) o_i) fun x32 =>
 Sim.op1 (h_mv (o_t rfl)) <|
 Sim.next x32 ⟨⟨⟨rfl, trivial⟩, ⟨⟨rfl, trivial⟩, ⟨⟨rfl, trivial⟩, trivial⟩⟩⟩, ⟨⟨rfl, ⟨trivial, trivial⟩⟩, trivial⟩⟩)) (
 Sim.exitS <| Sim.out () ⟨trivial, trivial⟩)) (fun p27 =>
 Sim.exitB <| Sim.doneS <| Sim.seqI <| Sim.op1 (h_mv o_i) <|
 Sim.doneS <| Sim.ret (.one (res_t rfl)))) (
 Sim.skip <| Sim.weak (k13 ()) ⟨⟨⟨rfl, trivial⟩, ⟨⟨rfl, trivial⟩, trivial⟩⟩, trivial⟩)) (
 Sim.skip <| Sim.weak (k13 ()) ⟨⟨⟨rfl, trivial⟩, ⟨⟨rfl, trivial⟩, trivial⟩⟩, trivial⟩)))
theorem sp_strings_IndexAny : Spec tb fn_strings_IndexAny [T.str, T.str] [(T.int .i64)] (fun a => strings_IndexAny a.1 a.2) :=
  Spec.of f_strings_IndexAny rfl rfl rfl sim_strings_IndexAny

noncomputable def strings_ContainsAny (a0 : Str) (a1 : Str) : Option Bool :=
 (strings_IndexAny a0 a1).bind fun x1 =>
 some (decide (0 ≤ x1))
noncomputable def sim_strings_ContainsAny (a : Res [T.str, T.str]) : Sim tb ⟨argsT [T.str, T.str] 0 a, []⟩ c_strings_ContainsAny.body [] (QRes [T.b] c_strings_ContainsAny.res) :=
 Sim.seqI <| Sim.op1 (h_mv o_b) <|
 Sim.doneS <| Sim.seqI <| Sim.op1 (h_mv (o_t rfl)) <|
 Sim.op1 (h_mv (o_t rfl)) <|
 Sim.op (h_call1 sp_strings_IndexAny (.cons (o_t rfl) <| .one (o_t rfl))) fun x1 =>
 Sim.op (h_cmp (I := (IT.int .i64)) rfl (o_t rfl) o_i) fun x2 =>
 Sim.op1 (h_mv (o_t rfl)) <|
 Sim.doneS <| Sim.ret (.one (res_t rfl))
theorem sp_strings_ContainsAny : Spec tb fn_strings_ContainsAny [T.str, T.str] [T.b] (fun a => strings_ContainsAny a.1 a.2) :=
  Spec.of f_strings_ContainsAny rfl rfl rfl sim_strings_ContainsAny

noncomputable def internal_stringslite_Index (a0 : Str) (a1 : Str) : Option Int :=
 (orO (decide ((a1.length : Int) = 0)) (some (decide (a1 = a0)))).bind fun x4 =>
 if x4 = true then
 some 0
 else
 if (decide ((a1.length : Int) = 1)) = true then
 (idx a1 0).bind fun x6 =>
 (internal_stringslite_IndexByte a0 x6).bind fun x7 =>
 some x7
 else
 if (decide ((a0.length : Int) ≤ (a1.length : Int))) = true then
 some (-1)
 else
 none
noncomputable def sim_internal_stringslite_Index (a : Res [T.str, T.str]) : Sim tb ⟨argsT [T.str, T.str] 0 a, []⟩ c_internal_stringslite_Index.body [] (QRes [(T.int .i64)] c_internal_stringslite_Index.res) :=
 Sim.seqI <| Sim.op1 (h_mv o_i) <|
 Sim.doneS <| Sim.seqI <| Sim.op1 (h_mv (o_t rfl)) <|
 Sim.op (h_lens (o_t rfl)) fun x1 =>
 Sim.op1 (h_mv (o_t rfl)) <|
 Sim.doneS <| Sim.seqI <| Sim.blkI <| Sim.seqI <| Sim.op1 (h_mv (o_t rfl)) <|
 Sim.op (h_cmp (I := (IT.int .i64)) rfl (o_t rfl) o_i) fun x2 =>
 Sim.op1 (h_mv (o_t rfl)) <|
 Sim.or 3 rfl rfl rfl (Grp.op1 (h_mv (o_t rfl)) <|
 Grp.op1 (h_mv (o_t rfl)) <|
 Grp.op (h_seql (o_t rfl) (o_t rfl)) fun x3 =>
 Grp.nil (o_t rfl)) fun x4 =>
 Sim.op1 (h_mv (o_t rfl)) <|
 Sim.doneS <| Sim.cond (o_t rfl) (
 Sim.seqI <| Sim.op1 (h_mv o_i) <|
 Sim.doneS <| Sim.ret (.one (res_t rfl))) (
 Sim.seqI <| Sim.op1 (h_mv (o_t rfl)) <|
 Sim.op (h_cmp (I := (IT.int .i64)) rfl (o_t rfl) o_i) fun x5 =>
 Sim.op1 (h_mv (o_t rfl)) <|
 Sim.doneS <| Sim.cond (o_t rfl) (
 Sim.seqI <| Sim.op1 (h_mv (o_t rfl)) <|
 Sim.op1 (h_mv (o_t rfl)) <|
 Sim.op (h_ixs (o_t rfl) o_i) fun x6 =>
 Sim.op (h_call1 sp_internal_stringslite_IndexByte (.cons (o_t rfl) <| .one (o_t rfl))) fun x7 =>
 Sim.op1 (h_mv (o_t rfl)) <|
 Sim.doneS <| Sim.ret (.one (res_t rfl))) (
 Sim.seqI <| Sim.op1 (h_mv (o_t rfl)) <|
 Sim.op1 (h_mv (o_t rfl)) <|
 Sim.op (h_lens (o_t rfl)) fun x8 =>
 Sim.op (h_cmp (I := (IT.int .i64)) rfl (o_t rfl) (o_t rfl)) fun x9 =>
 Sim.op1 (h_mv (o_t rfl)) <|
 Sim.doneS <| Sim.cond (o_t rfl) (
 Sim.seqI <| Sim.op1 (h_mv o_i) <|
 Sim.doneS <| Sim.ret (.one (res_t rfl))) (
 Sim.seqI <| Sim.op1 (h_mv (o_t rfl)) <|
 Sim.stop)))
theorem sp_internal_stringslite_Index : Spec tb fn_internal_stringslite_Index [T.str, T.str] [(T.int .i64)] (fun a => internal_stringslite_Index a.1 a.2) :=
  Spec.of f_internal_stringslite_Index rfl rfl rfl sim_internal_stringslite_Index

noncomputable def strings_Index (a0 : Str) (a1 : Str) : Option Int :=
 (internal_stringslite_Index a0 a1).bind fun x1 =>
 some x1
noncomputable def sim_strings_Index (a : Res [T.str, T.str]) : Sim tb ⟨argsT [T.str, T.str] 0 a, []⟩ c_strings_Index.body [] (QRes [(T.int .i64)] c_strings_Index.res) :=
 Sim.seqI <| Sim.op1 (h_mv o_i) <|
 Sim.doneS <| Sim.seqI <| Sim.op1 (h_mv (o_t rfl)) <|
 Sim.op1 (h_mv (o_t rfl)) <|
 Sim.op (h_call1 sp_internal_stringslite_Index (.cons (o_t rfl) <| .one (o_t rfl))) fun x1 =>
 Sim.op1 (h_mv (o_t rfl)) <|
 Sim.doneS <| Sim.ret (.one (res_t rfl))
theorem sp_strings_Index : Spec tb fn_strings_Index [T.str, T.str] [(T.int .i64)] (fun a => strings_Index a.1 a.2) :=
  Spec.of f_strings_Index rfl rfl rfl sim_strings_Index

noncomputable def strings_Contains (a0 : Str) (a1 : Str) : Option Bool :=
 (strings_Index a0 a1).bind fun x1 =>
 some (decide (0 ≤ x1))
noncomputable def sim_strings_Contains (a : Res [T.str, T.str]) : Sim tb ⟨argsT [T.str, T.str] 0 a, []⟩ c_strings_Contains.body [] (QRes [T.b] c_strings_Contains.res) :=
 Sim.seqI <| Sim.op1 (h_mv o_b) <|
 Sim.doneS <| Sim.seqI <| Sim.op1 (h_mv (o_t rfl)) <|
 Sim.op1 (h_mv (o_t rfl)) <|
 Sim.op (h_call1 sp_strings_Index (.cons (o_t rfl) <| .one (o_t rfl))) fun x1 =>
 Sim.op (h_cmp (I := (IT.int .i64)) rfl (o_t rfl) o_i) fun x2 =>
 Sim.op1 (h_mv (o_t rfl)) <|
 Sim.doneS <| Sim.ret (.one (res_t rfl))
theorem sp_strings_Contains : Spec tb fn_strings_Contains [T.str, T.str] [T.b] (fun a => strings_Contains a.1 a.2) :=
  Spec.of f_strings_Contains rfl rfl rfl sim_strings_Contains

noncomputable def pairline_Text (a0 : S_pairline_Pair) : Option (Str × Int) :=
 (orO (decide (a0.Key = [])) ((strings_ContainsAny a0.Key [61, 10]).bind fun x4 =>
 some x4)).bind fun x5 =>
 (orO x5 ((strings_Contains a0.Value [10]).bind fun x7 =>
 some x7)).bind fun x8 =>
 if x8 = true then
 some ([], 5)
 else
 (if a0.Key.length + [61].length ≤ 2 * most then some (a0.Key ++ [61]) else none).bind fun x10 =>
 (if x10.length + a0.Value.length ≤ 2 * most then some (x10 ++ a0.Value) else none).bind fun x12 =>
 if (decide (512 < (x12.length : Int))) = true then
 some ([], 4)
 else
 some (x12, 0)
noncomputable def sim_pairline_Text (a : Res [T_pairline_Pair]) : Sim tb ⟨argsT [T_pairline_Pair] 0 a, []⟩ c_pairline_Text.body [] (QRes [T.str, (T.int .i64)] c_pairline_Text.res) :=
 Sim.seqI <| Sim.opM (M_box (t := T_pairline_Pair) 1 rfl rfl (o_t rfl)) fun _ =>
 Sim.op1 (h_mv o_s) <|
 Sim.op1 (h_mv o_i) <|
 Sim.doneS <| Sim.seqI <| Sim.seqI <| Sim.op1 (h_faC (o_t rfl)) <|
 Sim.opn (h_ldC (t := T_pairline_Pair) (u := T.str) (o_t rfl) rfl rfl F_pairline_Pair_Key rfl rfl) fun x1 =>
 Sim.op (h_seql (o_t rfl) o_s) fun x2 =>
 Sim.op1 (h_mv (o_t rfl)) <|
 Sim.or 3 rfl rfl rfl (Grp.op1 (h_faC (o_t rfl)) <|
 Grp.opn (h_ldC (t := T_pairline_Pair) (u := T.str) (o_t rfl) rfl rfl F_pairline_Pair_Key rfl rfl) fun x3 =>
 Grp.op (h_call1 sp_strings_ContainsAny (.cons (o_t rfl) <| .one o_s)) fun x4 =>
 Grp.nil (o_t rfl)) fun x5 =>
 Sim.op1 (h_mv (o_t rfl)) <|
 Sim.or 3 rfl rfl rfl (Grp.op1 (h_faC (o_t rfl)) <|
 Grp.opn (h_ldC (t := T_pairline_Pair) (u := T.str) (o_t rfl) rfl rfl F_pairline_Pair_Value rfl rfl) fun x6 =>
 Grp.op (h_call1 sp_strings_Contains (.cons (o_t rfl) <| .one o_s)) fun x7 =>
 Grp.nil (o_t rfl)) fun x8 =>
 Sim.doneS <| Sim.cond (o_t rfl) (
 Sim.seqI <| Sim.op1 (h_mv o_s) <|
 Sim.op1 (h_mv o_i) <|
 Sim.doneS <| Sim.ret (.cons (res_t rfl) <| .one (res_t rfl))) (
 Sim.skip <| Sim.doneS <| Sim.seqI <| Sim.op1 (h_faC (o_t rfl)) <|
 Sim.opn (h_ldC (t := T_pairline_Pair) (u := T.str) (o_t rfl) rfl rfl F_pairline_Pair_Key rfl rfl) fun x9 =>
 Sim.op (h_sadd (o_t rfl) o_s) fun x10 =>
 Sim.op1 (h_faC (o_t rfl)) <|
 Sim.opn (h_ldC (t := T_pairline_Pair) (u := T.str) (o_t rfl) rfl rfl F_pairline_Pair_Value rfl rfl) fun x11 =>
 Sim.op (h_sadd (o_t rfl) (o_t rfl)) fun x12 =>
 Sim.op1 (h_mv (o_t rfl)) <|
 Sim.doneS <| Sim.seqI <| Sim.seqI <| Sim.op1 (h_mv (o_t rfl)) <|
 Sim.op (h_lens (o_t rfl)) fun x13 =>
 Sim.op (h_cmp (I := (IT.int .i64)) rfl (o_t rfl) o_i) fun x14 =>
 Sim.doneS <| Sim.cond (o_t rfl) (
 Sim.seqI <| Sim.op1 (h_mv o_s) <|
 Sim.op1 (h_mv o_i) <|
 Sim.doneS <| Sim.ret (.cons (res_t rfl) <| .one (res_t rfl))) (
 Sim.skip <| Sim.doneS <| Sim.seqI <| Sim.op1 (h_mv (o_t rfl)) <|
 Sim.op1 (h_mv (o_t rfl)) <|
 Sim.op1 (h_mv o_i) <|
 Sim.doneS <| Sim.ret (.cons (res_t rfl) <| .one (res_t rfl))))
theorem sp_pairline_Text : Spec tb fn_pairline_Text [T_pairline_Pair] [T.str, (T.int .i64)] (fun a => pairline_Text a) :=
  Spec.of f_pairline_Text rfl rfl rfl sim_pairline_Text

noncomputable def lines_Join (a0 : (GS Str)) : Option Str :=
 (iter (fun (s3 : (Int × Str)) =>
 if (decide (s3.1 < (a0.l.length : Int))) = true then
 (idx a0.l s3.1).bind fun x6 =>
 (bldG s3.2 x6).bind fun x8 =>
 (bldG x8 [10]).bind fun x9 =>
 some (.inl (IntKind.i64.wrap (s3.1 + 1), x9))
 else
 some (.inr (.inl s3.2))) (0, [])).bind (Sum.elim (fun (p4 : Str) =>
 (bldT false p4).bind fun x11 =>
 some x11) some)
noncomputable def sim_lines_Join (a : Res [(T.sl T.str)]) : Sim tb ⟨argsT [(T.sl T.str)] 0 a, []⟩ c_lines_Join.body [] (QRes [T.str] c_lines_Join.res) :=
 Sim.seqI <| Sim.op1 (h_mv o_s) <|
 Sim.doneS <| Sim.seqI <| Sim.opM (M_bldA 3 5 rfl rfl) fun x1 =>
 Sim.doneS <| Sim.seqI <| Sim.seqI <| Sim.op1 (h_mv (o_t rfl)) <|
 Sim.op (h_len (o_t rfl)) fun x2 =>
 Sim.op1 (h_mv o_i) <|
 Sim.doneS <| Sim.blkI <| Sim.loop (id := 0) (σ := (Int × Str)) (τ := Str) (fun s3 => ⟨[(3, .own 3), (6, .val (T.sl T.str) a), (7, .val (T.int .i64) x2), (8, .val (T.int .i64) s3.1)], [(3, .dom (DBld 107 5 false) s3.2)]⟩) (fun p4 => ⟨[(3, .own 3)], [(3, .dom (DBld 107 5 false) p4)]⟩) (0, x1) ⟨⟨⟨rfl, trivial⟩, ⟨⟨rfl, trivial⟩, ⟨⟨rfl, trivial⟩, ⟨⟨rfl, trivial⟩, trivial⟩⟩⟩⟩, ⟨⟨rfl, trivial⟩, trivial⟩⟩ (fun _ => rfl) (fun s3 =>
 Sim.seqI <| Sim.op (h_cmp (I := (IT.int .i64)) rfl (o_t rfl) (o_t rfl)) fun x5 =>
 Sim.doneS <| Sim.seqI <| Sim.cond (o_t rfl) (
 Sim.skip <| Sim.doneS <| Sim.seqI <| Sim.blkI <| Sim.seqI <| Sim.op (h_ias rfl (o_t rfl) (o_t rfl)) fun x6 =>
 Sim.opn (h_ld rfl rfl (o_t rfl)) fun x7 =>
 Sim.op1 (h_mv (o_t rfl)) <|
 Sim.doneS <| Sim.seqI <| Sim.op1 (h_mv (o_t rfl)) <|
 Sim.opM (M_bldW f_p_strings_Builder_copyCheck rfl f_p_strings_Builder_WriteString (o_t rfl) rfl (o_t rfl)) fun x8 =>
 Sim.doneS <| Sim.opM (M_bldW f_p_strings_Builder_copyCheck rfl f_p_strings_Builder_WriteString (o_t rfl) rfl o_s) fun x9 =>
 Sim.doneB <| Sim.doneS <| Sim.op (h_add (I := (IT.int .i64)) (o_t rfl) o_i) fun x10 =>
 Sim.op1 (h_mv (o_t rfl)) <|
 Sim.next (x10, x9) ⟨⟨⟨rfl, trivial⟩, ⟨⟨rfl, trivial⟩, ⟨⟨rfl, trivial⟩, ⟨⟨rfl, trivial⟩, trivial⟩⟩⟩⟩, ⟨⟨rfl, trivial⟩, trivial⟩⟩) (
 Sim.exitS <| Sim.out s3.2 ⟨⟨⟨rfl, trivial⟩, trivial⟩, ⟨⟨rfl, trivial⟩, trivial⟩⟩)) (fun p4 =>
 Sim.exitB <| Sim.doneS <| Sim.seqI <| Sim.opM (M_bldS f_p_strings_Builder_String (o_t rfl) rfl) fun x11 =>
 Sim.op1 (h_mv (o_t rfl)) <|
 Sim.doneS <| Sim.ret (.one (res_t rfl)))
theorem sp_lines_Join : Spec tb fn_lines_Join [(T.sl T.str)] [T.str] (fun a => lines_Join a) :=
  Spec.of f_lines_Join rfl rfl rfl sim_lines_Join

noncomputable def pairline_Block (a0 : (GS S_pairline_Pair)) : Option (Str × Int) :=
 if (decide (400 < (a0.l.length : Int))) = true then
 some ([], 4)
 else
 (iter (fun (s4 : (Int × (GS Str))) =>
 if (decide (s4.1 < (a0.l.length : Int))) = true then
 (idx a0.l s4.1).bind fun x7 =>
 (pairline_Text x7).bind fun x12 =>
 if (!decide (x12.2 = 0)) = true then
 (some ([], x12.2)).map fun r => .inr (.inr r)
 else
 (apG 16 s4.2 [x12.1]).bind fun x17 =>
 some (.inl (IntKind.i64.wrap (s4.1 + 1), x17))
 else
 some (.inr (.inl s4.2))) (0, .nil)).bind (Sum.elim (fun (p5 : (GS Str)) =>
 (apG 16 p5 [[]]).bind fun x20 =>
 (lines_Join x20).bind fun x21 =>
 some (x21, 0)) some)
noncomputable def sim_pairline_Block (a : Res [(T.sl T_pairline_Pair)]) : Sim tb ⟨argsT [(T.sl T_pairline_Pair)] 0 a, []⟩ c_pairline_Block.body [] (QRes [T.str, (T.int .i64)] c_pairline_Block.res) :=
 Sim.seqI <| Sim.op1 (h_mv o_s) <|
 Sim.op1 (h_mv o_i) <|
 Sim.doneS <| Sim.seqI <| Sim.seqI <| Sim.op1 (h_mv (o_t rfl)) <|
 Sim.op (h_len (o_t rfl)) fun x1 =>
 Sim.op (h_cmp (I := (IT.int .i64)) rfl (o_t rfl) o_i) fun x2 =>
 Sim.doneS <| Sim.cond (o_t rfl) (
 Sim.seqI <| Sim.op1 (h_mv o_s) <|
 Sim.op1 (h_mv o_i) <|
 Sim.doneS <| Sim.ret (.cons (res_t rfl) <| .one (res_t rfl))) (
 Sim.skip <| Sim.doneS <| Sim.seqI <| Sim.op1 (h_mv (o_nils (t := T.str))) <| Sim.turn (born (n := 4) (j := 1004) rfl rfl) <|
 Sim.doneS <| Sim.seqI <| Sim.seqI <| Sim.op1 (h_mv (o_t rfl)) <|
 Sim.op (h_len (o_t rfl)) fun x3 =>
 Sim.op1 (h_mv o_i) <|
 Sim.doneS <| Sim.blkI <| Sim.loop (id := 0) (σ := (Int × (GS Str))) (τ := (GS Str)) (fun s4 => ⟨[(4, .own 1004), (12, .val (T.sl T_pairline_Pair) a), (13, .val (T.int .i64) x3), (14, .val (T.int .i64) s4.1)], [(1004, .row T.str s4.2)]⟩) (fun p5 => ⟨[(4, .own 1004)], [(1004, .row T.str p5)]⟩) (0, .nil) ⟨⟨⟨rfl, trivial⟩, ⟨⟨rfl, trivial⟩, ⟨⟨rfl, trivial⟩, ⟨⟨rfl, trivial⟩, trivial⟩⟩⟩⟩, ⟨⟨rfl, trivial⟩, trivial⟩⟩ (fun _ => rfl) (fun s4 =>
 Sim.seqI <| Sim.op (h_cmp (I := (IT.int .i64)) rfl (o_t rfl) (o_t rfl)) fun x6 =>
 Sim.doneS <| Sim.seqI <| Sim.cond (o_t rfl) (
 Sim.skip <| Sim.doneS <| Sim.seqI <| Sim.blkI <| Sim.seqI <| Sim.op (h_ias rfl (o_t rfl) (o_t rfl)) fun x7 =>
 Sim.opn (h_ld rfl rfl (o_t rfl)) fun x8 =>
 Sim.opM (M_alloc (t := T_pairline_Pair) 6 rfl rfl) fun x9 =>
 Sim.opM (M_stC (o_t rfl) (o_t rfl) rfl rfl (Fld.id _) rfl) fun x10 =>
 Sim.doneS <| Sim.seqI <| Sim.opn (h_ldC (t := T_pairline_Pair) (u := T_pairline_Pair) (o_t rfl) rfl rfl (Fld.id _) rfl rfl) fun x11 =>
 Sim.op (h_callN sp_pairline_Text (.one (o_t rfl))) fun x12 =>
 Sim.op1 (h_mv (o_t rfl)) <|
 Sim.opn (h_ext (o_t rfl) rfl) fun x13 =>
 Sim.opn (h_ext (o_t rfl) rfl) fun x14 =>
 Sim.op1 (h_mv (o_t rfl)) <|
 Sim.op1 (h_mv (o_t rfl)) <|
 Sim.doneS <| Sim.seqI <| Sim.seqI <| Sim.op1 (h_mv (o_t rfl)) <|
 Sim.op (h_cmp (I := (IT.int .i64)) rfl (o_t rfl) o_i) fun x15 =>
 Sim.doneS <| Sim.cond (o_t rfl) (
 Sim.seqI <| Sim.op1 (h_mv (o_t rfl)) <|
 Sim.op1 (h_mv o_s) <|
 Sim.op1 (h_mv (o_t rfl)) <|
 Sim.doneS <| Sim.outRet <| Sim.ret (.cons (res_t rfl) <| .one (res_t rfl))) (
 Sim.skip <| Sim.doneS <| Sim.op1 (h_mv (o_t rfl)) <|
 Sim.op1 (h_mv (o_t rfl)) <|
 Sim.op (h_bll (t := T.str) (n := 1) rfl rfl (.cons rfl (o_t rfl) <| .nil _)) fun x16 =>
 Sim.opM (M_app rfl (o_t rfl) rfl (n_sl (o_t rfl))) fun x17 =>
 Sim.op1 (h_mv (o_t rfl)) <|
 Sim.doneB <| Sim.doneS <| Sim.op (h_add (I := (IT.int .i64)) (o_t rfl) o_i) fun x18 =>
 Sim.op1 (h_mv (o_t rfl)) <|
 Sim.next (x18, x17) ⟨⟨⟨rfl, trivial⟩, ⟨⟨rfl, trivial⟩, ⟨⟨rfl, trivial⟩, ⟨⟨rfl, trivial⟩, trivial⟩⟩⟩⟩, ⟨⟨rfl, trivial⟩, trivial⟩⟩)) (
 Sim.exitS <| Sim.out s4.2 ⟨⟨⟨rfl, trivial⟩, trivial⟩, ⟨⟨rfl, trivial⟩, trivial⟩⟩)) (fun p5 =>
 Sim.exitB <| Sim.doneS <| Sim.seqI <| Sim.op1 (h_mv (o_t rfl)) <|
 Sim.op (h_bll (t := T.str) (n := 1) rfl rfl (.cons rfl o_s <| .nil _)) fun x19 =>
 Sim.opM (M_app rfl (o_t rfl) rfl (n_sl (o_t rfl))) fun x20 =>
 Sim.frzRow 1004 rfl rfl <| Sim.op (h_call1 sp_lines_Join (.one (o_t rfl))) fun x21 =>
 Sim.op1 (h_mv (o_t rfl)) <|
 Sim.op1 (h_mv o_i) <|
 Sim.doneS <| Sim.ret (.cons (res_t rfl) <| .one (res_t rfl))))
theorem sp_pairline_Block : Spec tb fn_pairline_Block [(T.sl T_pairline_Pair)] [T.str, (T.int .i64)] (fun a => pairline_Block a) :=
  Spec.of f_pairline_Block rfl rfl rfl sim_pairline_Block

noncomputable def getres_Refusal (a0 : Int) : Option Str :=
 (orO (decide (a0 < 0)) (some (decide (20 < a0)))).bind fun x3 =>
 (fun (k5 : Int → Option _) => if x3 = true then
 k5 1
 else
 k5 a0) fun p4 =>
 let x7 := (⟨16, (T.arr 32 T.u8).z, IT.u64.ofI p4, T_api_Endpoint.z, T_api_Prefix.z⟩ : S_api_Field)
 (getres_pairs (GS.mk [x7])).bind fun x9 =>
 (pairline_Block x9).bind fun x10 =>
 some x10.1
noncomputable def sim_getres_Refusal (a : Res [(T.int .i64)]) : Sim tb ⟨argsT [(T.int .i64)] 0 a, []⟩ c_getres_Refusal.body [] (QRes [T.str] c_getres_Refusal.res) :=
 Sim.seqI <| Sim.op1 (h_mv o_s) <|
 Sim.doneS <| Sim.seqI <| Sim.seqI <| Sim.op1 (h_mv (o_t rfl)) <|
 Sim.op (h_cmp (I := (IT.int .i64)) rfl (o_t rfl) o_i) fun x1 =>
 Sim.op1 (h_mv (o_t rfl)) <|
 Sim.or 2 rfl rfl rfl (Grp.op1 (h_mv (o_t rfl)) <|
 Grp.op (h_cmp (I := (IT.int .i64)) rfl (o_t rfl) o_i) fun x2 =>
 Grp.nil (o_t rfl)) fun x3 =>
 Sim.doneS <| Sim.join (τ := Int) (fun p4 => ⟨[(0, .val (T.int .i64) p4)], []⟩) (fun p4 =>
 Sim.doneS <| Sim.seqI <| Sim.op1 (h_mv (o_t rfl)) <|
 Sim.op (h_cvi (I := (IT.int .i64)) (J := IT.u64) rfl (o_t rfl)) fun x6 =>
 Sim.op (h_bld rfl rfl (.cons F_api_Field_Word rfl o_i <| .cons F_api_Field_N rfl (o_t rfl) <| .nil _)) fun x7 =>
 Sim.op (h_bll (t := T_api_Field) (n := 1) rfl rfl (.cons rfl (o_t rfl) <| .nil _)) fun x8 =>
 Sim.op (h_call1 sp_getres_pairs (.one (o_t rfl))) fun x9 =>
 Sim.op (h_callN sp_pairline_Block (.one (o_t rfl))) fun x10 =>
 Sim.op1 (h_mv (o_t rfl)) <|
 Sim.opn (h_ext (o_t rfl) rfl) fun x11 =>
 Sim.opn (h_ext (o_t rfl) rfl) fun x12 =>
 Sim.op1 (h_mv (o_t rfl)) <|
 Sim.op1 (h_mv (o_t rfl)) <|
 Sim.doneS <| Sim.seqI <| Sim.op1 (h_mv (o_t rfl)) <|
 Sim.op1 (h_mv (o_t rfl)) <|
 Sim.doneS <| Sim.ret (.one (res_t rfl))) fun k5 => Sim.cond (o_t rfl) (
 Sim.op1 (h_mv o_i) <|
 Sim.weak (k5 1) ⟨⟨⟨rfl, trivial⟩, trivial⟩, trivial⟩) (
 Sim.skip <| Sim.weak (k5 a) ⟨⟨⟨rfl, trivial⟩, trivial⟩, trivial⟩)
theorem sp_getres_Refusal : Spec tb fn_getres_Refusal [(T.int .i64)] [T.str] (fun a => getres_Refusal a) :=
  Spec.of f_getres_Refusal rfl rfl rfl sim_getres_Refusal

noncomputable def r03_Text_r : Nat → UInt64 →  Option Str
 | 0, _ => none
 | n + 1, a0 =>
 (if ((10 : UInt64).toNat : Int) = 0 then none else some (IT.u64.ofI (Int.tmod (a0.toNat : Int) ((10 : UInt64).toNat : Int)))).bind fun x1 =>
 let x2 := IT.u64.ofI (((48 : UInt64).toNat : Int) + (x1.toNat : Int))
 let x6 := decide ((a0.toNat : Int) < ((10 : UInt64).toNat : Int))
 if x6 = true then
 some ([IT.u8.ofI (x2.toNat : Int)] : Str)
 else
 (if ((10 : UInt64).toNat : Int) = 0 then none else some (IT.u64.ofI (Int.tdiv (a0.toNat : Int) ((10 : UInt64).toNat : Int)))).bind fun x7 =>
 (r03_Text_r n x7).bind fun x8 =>
 (if x8.length + ([IT.u8.ofI (x2.toNat : Int)] : Str).length ≤ 2 * most then some (x8 ++ ([IT.u8.ofI (x2.toNat : Int)] : Str)) else none).bind fun x9 =>
 some x9
noncomputable def sim_r03_Text (n : Nat) (ih : Spec tb fn_r03_Text [T.u64] [T.str] (fun a => r03_Text_r n a)) (a : Res [T.u64]) : Sim tb ⟨argsT [T.u64] 0 a, []⟩ c_r03_Text.body [] (QRes [T.str] c_r03_Text.res) :=
 Sim.seqI <| Sim.op1 (h_mv o_s) <|
 Sim.doneS <| Sim.seqI <| Sim.op1 (h_mv (o_t rfl)) <|
 Sim.op (h_remN (I := NT.u64) (o_t rfl) (o_u64 10 rfl)) fun x1 =>
 Sim.op (h_add (I := IT.u64) (o_u64 48 rfl) (o_t rfl)) fun x2 =>
 Sim.op (h_cvi (I := IT.u64) (J := IT.u8) rfl (o_t rfl)) fun x3 =>
 Sim.opM (M_bls (t := T.u8) (n := 1) 1008 rfl rfl (.cons rfl (o_t rfl) <| .nil _) rfl) fun x4 =>
 Sim.op (h_cvsO (o_t rfl) rfl) fun x5 =>
 Sim.op1 (h_mv (o_t rfl)) <|
 Sim.doneS <| Sim.seqI <| Sim.seqI <| Sim.op1 (h_mv (o_t rfl)) <|
 Sim.op (h_cmp (I := IT.u64) rfl (o_t rfl) (o_u64 10 rfl)) fun x6 =>
 Sim.doneS <| Sim.cond (o_t rfl) (
 Sim.seqI <| Sim.op1 (h_mv (o_t rfl)) <|
 Sim.op1 (h_mv (o_t rfl)) <|
 Sim.doneS <| Sim.ret (.one (res_t rfl))) (
 Sim.skip <| Sim.doneS <| Sim.seqI <| Sim.op1 (h_mv (o_t rfl)) <|
 Sim.op (h_quo (I := IT.u64) (o_t rfl) (o_u64 10 rfl)) fun x7 =>
 Sim.op (h_call1 ih (.one (o_t rfl))) fun x8 =>
 Sim.op1 (h_mv (o_t rfl)) <|
 Sim.op (h_sadd (o_t rfl) (o_t rfl)) fun x9 =>
 Sim.op1 (h_mv (o_t rfl)) <|
 Sim.doneS <| Sim.ret (.one (res_t rfl)))
theorem sp_r03_Text_r : ∀ n, Spec tb fn_r03_Text [T.u64] [T.str] (fun a => r03_Text_r n a)
 | 0 => Spec.none'
 | n + 1 => Spec.of f_r03_Text rfl rfl rfl (sim_r03_Text n (sp_r03_Text_r n))
noncomputable def r03_Text (a0 : UInt64) : Option Str := fuelO fun n => r03_Text_r n a0
theorem sp_r03_Text : Spec tb fn_r03_Text [T.u64] [T.str] (fun a => r03_Text a) := Spec.fuel sp_r03_Text_r

noncomputable def r39_Refusal (a0 : Int) : Option Str :=
 (orO (decide (a0 < 0)) (some (decide (20 < a0)))).bind fun x3 =>
 (fun (k5 : Int → Option _) => if x3 = true then
 k5 1
 else
 k5 a0) fun p4 =>
 (r03_Text (IT.u64.ofI p4)).bind fun x7 =>
 (if [101, 114, 114, 110, 111, 61].length + x7.length ≤ 2 * most then some ([101, 114, 114, 110, 111, 61] ++ x7) else none).bind fun x8 =>
 (if x8.length + [10, 10].length ≤ 2 * most then some (x8 ++ [10, 10]) else none).bind fun x9 =>
 some x9
noncomputable def sim_r39_Refusal (a : Res [(T.int .i64)]) : Sim tb ⟨argsT [(T.int .i64)] 0 a, []⟩ c_r39_Refusal.body [] (QRes [T.str] c_r39_Refusal.res) :=
 Sim.seqI <| Sim.op1 (h_mv o_s) <|
 Sim.doneS <| Sim.seqI <| Sim.seqI <| Sim.op1 (h_mv (o_t rfl)) <|
 Sim.op (h_cmp (I := (IT.int .i64)) rfl (o_t rfl) o_i) fun x1 =>
 Sim.op1 (h_mv (o_t rfl)) <|
 Sim.or 2 rfl rfl rfl (Grp.op1 (h_mv (o_t rfl)) <|
 Grp.op (h_cmp (I := (IT.int .i64)) rfl (o_t rfl) o_i) fun x2 =>
 Grp.nil (o_t rfl)) fun x3 =>
 Sim.doneS <| Sim.join (τ := Int) (fun p4 => ⟨[(0, .val (T.int .i64) p4)], []⟩) (fun p4 =>
 Sim.doneS <| Sim.seqI <| Sim.op1 (h_mv (o_t rfl)) <|
 Sim.op (h_cvi (I := (IT.int .i64)) (J := IT.u64) rfl (o_t rfl)) fun x6 =>
 Sim.op (h_call1 sp_r03_Text (.one (o_t rfl))) fun x7 =>
 Sim.op (h_sadd o_s (o_t rfl)) fun x8 =>
 Sim.op (h_sadd (o_t rfl) o_s) fun x9 =>
 Sim.op1 (h_mv (o_t rfl)) <|
 Sim.doneS <| Sim.ret (.one (res_t rfl))) fun k5 => Sim.cond (o_t rfl) (
 Sim.op1 (h_mv o_i) <|
 Sim.weak (k5 1) ⟨⟨⟨rfl, trivial⟩, trivial⟩, trivial⟩) (
 Sim.skip <| Sim.weak (k5 a) ⟨⟨⟨rfl, trivial⟩, trivial⟩, trivial⟩)
theorem sp_r39_Refusal : Spec tb fn_r39_Refusal [(T.int .i64)] [T.str] (fun a => r39_Refusal a) :=
  Spec.of f_r39_Refusal rfl rfl rfl sim_r39_Refusal

noncomputable def view_short (a0 : Int) : Option Bool :=
 (andO (decide (0 ≤ a0)) (some (decide (a0 ≤ 65535)))).bind fun x3 =>
 some x3
noncomputable def sim_view_short (a : Res [(T.int .i64)]) : Sim tb ⟨argsT [(T.int .i64)] 0 a, []⟩ c_view_short.body [] (QRes [T.b] c_view_short.res) :=
 Sim.seqI <| Sim.op1 (h_mv o_b) <|
 Sim.doneS <| Sim.seqI <| Sim.op1 (h_mv (o_t rfl)) <|
 Sim.op (h_cmp (I := (IT.int .i64)) rfl (o_t rfl) o_i) fun x1 =>
 Sim.op1 (h_mv (o_t rfl)) <|
 Sim.and 2 rfl rfl rfl (Grp.op1 (h_mv (o_t rfl)) <|
 Grp.op (h_cmp (I := (IT.int .i64)) rfl (o_t rfl) o_i) fun x2 =>
 Grp.nil (o_t rfl)) fun x3 =>
 Sim.op1 (h_mv (o_t rfl)) <|
 Sim.doneS <| Sim.ret (.one (res_t rfl))
theorem sp_view_short : Spec tb fn_view_short [(T.int .i64)] [T.b] (fun a => view_short a) :=
  Spec.of f_view_short rfl rfl rfl sim_view_short

noncomputable def addr_Four (a0 : (Ar UInt8 4)) : Option S_api_Addr :=
 (frzO a0.l 0 4 4).bind fun x5 =>
 (cpyA ((⟨4, (T.arr 16 T.u8).z⟩ : S_api_Addr).B) 0 16 x5.l).bind fun x6 =>
 let x7 := ({ (⟨4, (T.arr 16 T.u8).z⟩ : S_api_Addr) with B := x6 })
 some x7
noncomputable def sim_addr_Four (a : Res [(T.arr 4 T.u8)]) : Sim tb ⟨argsT [(T.arr 4 T.u8)] 0 a, []⟩ c_addr_Four.body [] (QRes [T_api_Addr] c_addr_Four.res) :=
 Sim.seqI <| Sim.opM (M_box (t := (T.arr 4 T.u8)) 1 rfl rfl (o_t rfl)) fun _ =>
 Sim.opM (M_alloc (t := T_api_Addr) 2 rfl rfl) fun x1 =>
 Sim.doneS <| Sim.seqI <| Sim.op (h_bld rfl rfl (.cons F_api_Addr_V rfl o_i <| .nil _)) fun x2 =>
 Sim.opM (M_alloc (t := T_api_Addr) 3 rfl rfl) fun x3 =>
 Sim.opM (M_stC (o_t rfl) (o_t rfl) rfl rfl (Fld.id _) rfl) fun x4 =>
 Sim.doneS <| Sim.seqI <| Sim.regd 1 <| SimD.op1 rfl (h_faC (o_t rfl)) <|
 SimD.op1 rfl (h_slaL (k := 0) (m := 16) rfl rfl (o_t rfl) .none .none rfl rfl rfl) <|
 SimD.op1 rfl (h_slaL (k := 0) (m := 4) rfl rfl (o_t rfl) .none .none rfl rfl rfl) <|
 SimD.frzSl (o := 0) (k := 0) (m := 4) (t := (T.arr 4 T.u8)) (u := T.u8) 7 (Fld.id _) rfl rfl rfl rfl fun x5 =>
 SimD.opM rfl (fun _ => .nil) (.nil) (M_cpyD (t := T.u8) (s := T_api_Addr) (o := 1) (k := 0) F_api_Addr_B rfl (o_t rfl) (n_sl (o_t rfl)) rfl rfl) fun x6 =>
 SimD.done <| Sim.doneS <| Sim.seqI <| Sim.opn (h_ldC (t := T_api_Addr) (u := T_api_Addr) (o_t rfl) rfl rfl (Fld.id _) rfl rfl) fun x7 =>
 Sim.opM (M_stC (o_t rfl) (o_t rfl) rfl rfl (Fld.id _) rfl) fun x8 =>
 Sim.doneS <| Sim.ret (.one (res_c rfl rfl rfl (Fld.id _) rfl rfl))
theorem sp_addr_Four : Spec tb fn_addr_Four [(T.arr 4 T.u8)] [T_api_Addr] (fun a => addr_Four a) :=
  Spec.of f_addr_Four rfl rfl rfl sim_addr_Four

noncomputable def addr_Right (a0 : S_api_Addr) : Option Bool :=
 (orO (decide (a0.V = 6)) ((andO (decide (a0.V = 4)) (let x6 := (⟨(a0.B.l.drop 0).take 4, by rw [List.length_take, List.length_drop, Ar.len]; rfl⟩ : (Ar UInt8 4))
 (addr_Four x6).bind fun x7 =>
 some (cmpB C_api_Addr a0 x7))).bind fun x9 =>
 some x9)).bind fun x10 =>
 some x10
noncomputable def sim_addr_Right (a : Res [T_api_Addr]) : Sim tb ⟨argsT [T_api_Addr] 0 a, []⟩ c_addr_Right.body [] (QRes [T.b] c_addr_Right.res) :=
 Sim.seqI <| Sim.opM (M_box (t := T_api_Addr) 1 rfl rfl (o_t rfl)) fun _ =>
 Sim.op1 (h_mv o_b) <|
 Sim.doneS <| Sim.seqI <| Sim.op1 (h_faC (o_t rfl)) <|
 Sim.opn (h_ldC (t := T_api_Addr) (u := (T.int .i64)) (o_t rfl) rfl rfl F_api_Addr_V rfl rfl) fun x1 =>
 Sim.op (h_cmp (I := (IT.int .i64)) rfl (o_t rfl) o_i) fun x2 =>
 Sim.op1 (h_mv (o_t rfl)) <|
 Sim.or 12 rfl rfl rfl (Grp.op1 (h_faC (o_t rfl)) <|
 Grp.opn (h_ldC (t := T_api_Addr) (u := (T.int .i64)) (o_t rfl) rfl rfl F_api_Addr_V rfl rfl) fun x3 =>
 Grp.op (h_cmp (I := (IT.int .i64)) rfl (o_t rfl) o_i) fun x4 =>
 Grp.op1 (h_mv (o_t rfl)) <|
 Grp.and 7 rfl rfl rfl rfl rfl (Grp.opn (h_ldC (t := T_api_Addr) (u := T_api_Addr) (o_t rfl) rfl rfl (Fld.id _) rfl rfl) fun x5 =>
 Grp.op1 (h_faC (o_t rfl)) <|
 Grp.op1 (h_slaL (k := 0) (m := 4) rfl rfl (o_t rfl) .none (.some o_i) rfl rfl rfl) <|
 Grp.op1 (h_s2aC (o_t rfl) rfl) <|
 Grp.opn (h_ldC (t := T_api_Addr) (u := (T.arr 4 T.u8)) (o_t rfl) rfl rfl (Fld.comp F_api_Addr_B (Fld.piece 16 T.u8 0 4 (by decide))) rfl rfl) fun x6 =>
 Grp.op (h_call1 sp_addr_Four (.one (o_t rfl))) fun x7 =>
 Grp.op (h_eq C_api_Addr rfl rfl (o_t rfl) (o_t rfl)) fun x8 =>
 Grp.nil (o_t rfl)) fun x9 =>
 Grp.nil (o_t rfl)) fun x10 =>
 Sim.op1 (h_mv (o_t rfl)) <|
 Sim.doneS <| Sim.ret (.one (res_t rfl))
theorem sp_addr_Right : Spec tb fn_addr_Right [T_api_Addr] [T.b] (fun a => addr_Right a) :=
  Spec.of f_addr_Right rfl rfl rfl sim_addr_Right

noncomputable def addr_Width (a0 : S_api_Addr) : Option Int :=
 (addr_Right a0).bind fun x2 =>
 if (!x2) = true then
 some 0
 else
 if (decide (a0.V = 4)) = true then
 some 32
 else
 some 128
noncomputable def sim_addr_Width (a : Res [T_api_Addr]) : Sim tb ⟨argsT [T_api_Addr] 0 a, []⟩ c_addr_Width.body [] (QRes [(T.int .i64)] c_addr_Width.res) :=
 Sim.seqI <| Sim.opM (M_box (t := T_api_Addr) 1 rfl rfl (o_t rfl)) fun _ =>
 Sim.op1 (h_mv o_i) <|
 Sim.doneS <| Sim.seqI <| Sim.blkI <| Sim.seqI <| Sim.opn (h_ldC (t := T_api_Addr) (u := T_api_Addr) (o_t rfl) rfl rfl (Fld.id _) rfl rfl) fun x1 =>
 Sim.op (h_call1 sp_addr_Right (.one (o_t rfl))) fun x2 =>
 Sim.op (h_not (o_t rfl)) fun x3 =>
 Sim.op1 (h_mv (o_t rfl)) <|
 Sim.doneS <| Sim.cond (o_t rfl) (
 Sim.seqI <| Sim.op1 (h_mv o_i) <|
 Sim.doneS <| Sim.ret (.one (res_t rfl))) (
 Sim.seqI <| Sim.op1 (h_faC (o_t rfl)) <|
 Sim.opn (h_ldC (t := T_api_Addr) (u := (T.int .i64)) (o_t rfl) rfl rfl F_api_Addr_V rfl rfl) fun x4 =>
 Sim.op (h_cmp (I := (IT.int .i64)) rfl (o_t rfl) o_i) fun x5 =>
 Sim.op1 (h_mv (o_t rfl)) <|
 Sim.doneS <| Sim.cond (o_t rfl) (
 Sim.seqI <| Sim.op1 (h_mv o_i) <|
 Sim.doneS <| Sim.ret (.one (res_t rfl))) (
 Sim.skip <| Sim.doneB <| Sim.doneS <| Sim.seqI <| Sim.op1 (h_mv o_i) <|
 Sim.doneS <| Sim.ret (.one (res_t rfl))))
theorem sp_addr_Width : Spec tb fn_addr_Width [T_api_Addr] [(T.int .i64)] (fun a => addr_Width a) :=
  Spec.of f_addr_Width rfl rfl rfl sim_addr_Width

noncomputable def addr_Mask (a0 : S_api_Addr) (a1 : Int) : Option S_api_Addr :=
 (addr_Right a0).bind fun x3 =>
 if (!x3) = true then
 some (⟨0, (T.arr 16 T.u8).z⟩ : S_api_Addr)
 else
 (iter (fun (s7 : (Int × S_api_Addr)) =>
 if (decide (s7.1 < 16)) = true then
 let x11 := IntKind.i64.wrap (a1 - IntKind.i64.wrap (8 * s7.1))
 let x13 := if 8 < if 0 > x11 then 0 else x11 then 8 else if 0 > x11 then 0 else x11
 (if (decide (a1 < 0)) = true then
 some (.inl 0)
 else
 some (.inl x13) : Option (Int ⊕ _)).bind (Sum.elim (fun (p15 : Int) =>
 (idxN 16 s7.1).bind fun x17 =>
 (s7.2.B.l[x17]?).bind fun x18 =>
 (if ((IT.u64.ofI (IntKind.i64.wrap (8 - p15))).toNat : Int) < 0 then none else some (IT.u8.ofI (((255 : UInt8).toNat : Int) * 2 ^ (min ((IT.u64.ofI (IntKind.i64.wrap (8 - p15))).toNat : Int).toNat 8)))).bind fun x21 =>
 let x22 := IT.u8.ofI (bitsR .and .u8 (x18.toNat : Int) (x21.toNat : Int))
 (idxN 16 s7.1).bind fun x23 =>
 (if x23 < 16 then some ({ s7.2 with B := s7.2.B.set x23 x22 }) else none).bind fun x24 =>
 some (.inl (IntKind.i64.wrap (s7.1 + 1), x24))) some)
 else
 some (.inr (.inl s7.2))) (0, a0)).bind (Sum.elim (fun (p8 : S_api_Addr) =>
 some p8) some)
noncomputable def sim_addr_Mask (a : Res [T_api_Addr, (T.int .i64)]) : Sim tb ⟨argsT [T_api_Addr, (T.int .i64)] 0 a, []⟩ c_addr_Mask.body [] (QRes [T_api_Addr] c_addr_Mask.res) :=
 Sim.seqI <| Sim.opM (M_box (t := T_api_Addr) 2 rfl rfl (o_t rfl)) fun _ =>
 Sim.opM (M_alloc (t := T_api_Addr) 4 rfl rfl) fun x1 =>
 Sim.doneS <| Sim.seqI <| Sim.seqI <| Sim.opn (h_ldC (t := T_api_Addr) (u := T_api_Addr) (o_t rfl) rfl rfl (Fld.id _) rfl rfl) fun x2 =>
 Sim.op (h_call1 sp_addr_Right (.one (o_t rfl))) fun x3 =>
 Sim.op (h_not (o_t rfl)) fun x4 =>
 Sim.doneS <| Sim.cond (o_t rfl) (
 Sim.seqI <| Sim.op (h_bld rfl rfl (.nil _)) fun x5 =>
 Sim.opM (M_stC (o_t rfl) (o_t rfl) rfl rfl (Fld.id _) rfl) fun x6 =>
 Sim.doneS <| Sim.ret (.one (res_c rfl rfl rfl (Fld.id _) rfl rfl))) (
 Sim.skip <| Sim.doneS <| Sim.seqI <| Sim.seqI <| Sim.op1 (h_mv o_i) <|
 Sim.doneS <| Sim.blkI <| Sim.loop (id := 0) (σ := (Int × S_api_Addr)) (τ := S_api_Addr) (fun s7 => ⟨[(1, .val (T.int .i64) a.2), (2, .cp 2 0), (4, .cp 4 0), (11, .val (T.int .i64) s7.1)], [(2, .cells [(17, .val T_api_Addr s7.2)]), (4, .cells [(17, .val T_api_Addr x1)])]⟩) (fun p8 => ⟨[(2, .cp 2 0), (4, .cp 4 0)], [(2, .cells [(17, .val T_api_Addr p8)]), (4, .cells [(17, .val T_api_Addr x1)])]⟩) (0, a.1) ⟨⟨⟨rfl, trivial⟩, ⟨⟨rfl, trivial⟩, ⟨⟨rfl, trivial⟩, ⟨⟨rfl, trivial⟩, trivial⟩⟩⟩⟩, ⟨⟨rfl, ⟨trivial, trivial⟩⟩, ⟨⟨rfl, ⟨trivial, trivial⟩⟩, trivial⟩⟩⟩ (fun _ => rfl) (fun s7 =>
 Sim.seqI <| Sim.op (h_cmp (I := (IT.int .i64)) rfl (o_t rfl) o_i) fun x9 =>
 Sim.doneS <| Sim.seqI <| Sim.cond (o_t rfl) (
 Sim.skip <| Sim.doneS <| Sim.seqI <| Sim.blkI <| Sim.seqI <| Sim.op1 (h_mv (o_t rfl)) <|
 Sim.op1 (h_mv (o_t rfl)) <|
 Sim.doneS <| Sim.seqI <| Sim.op1 (h_mv (o_t rfl)) <|
 Sim.op1 (h_mv (o_t rfl)) <|
 Sim.op (h_mul (I := (IT.int .i64)) o_i (o_t rfl)) fun x10 =>
 Sim.op (h_sub (I := (IT.int .i64)) (o_t rfl) (o_t rfl)) fun x11 =>
 Sim.op (h_max (I := (IT.int .i64)) (mx := true) (o_t rfl) o_i) fun x12 =>
 Sim.op (h_max (I := (IT.int .i64)) (mx := false) (o_t rfl) o_i) fun x13 =>
 Sim.op1 (h_mv (o_t rfl)) <|
 Sim.doneS <| Sim.seqI <| Sim.seqI <| Sim.op1 (h_mv (o_t rfl)) <|
 Sim.op (h_cmp (I := (IT.int .i64)) rfl (o_t rfl) o_i) fun x14 =>
 Sim.doneS <| Sim.joinS (τ := Int) (fun p15 => ⟨[(1, .val (T.int .i64) a.2), (2, .cp 2 0), (4, .cp 4 0), (5, .val (T.int .i64) s7.1), (6, .val (T.int .i64) p15), (11, .val (T.int .i64) s7.1)], [(2, .cells [(17, .val T_api_Addr s7.2)]), (4, .cells [(17, .val T_api_Addr x1)])]⟩) (fun p15 =>
 Sim.doneS <| Sim.op1 (h_mv (o_t rfl)) <|
 Sim.op1 (h_faC (o_t rfl)) <|
 Sim.op (h_iaaC (o_t rfl) (o_t rfl)) fun x17 =>
 Sim.op (h_ldA F_api_Addr_B rfl rfl (o_t rfl) rfl rfl) fun x18 =>
 Sim.op1 (h_mv (o_t rfl)) <|
 Sim.op (h_sub (I := (IT.int .i64)) o_i (o_t rfl)) fun x19 =>
 Sim.op (h_cvi (I := (IT.int .i64)) (J := IT.u64) rfl (o_t rfl)) fun x20 =>
 Sim.op (h_shl (I := IT.u8) (J := IT.u64) (o_u8 255 rfl) (o_t rfl)) fun x21 =>
 Sim.op (h_and (I := IT.u8) (o_t rfl) (o_t rfl)) fun x22 =>
 Sim.op1 (h_faC (o_t rfl)) <|
 Sim.op (h_iaaC (o_t rfl) (o_t rfl)) fun x23 =>
 Sim.opM (M_stA (s := T_api_Addr) F_api_Addr_B rfl (o_t rfl) (o_t rfl) rfl rfl) fun x24 =>
 Sim.doneB <| Sim.doneS <| Sim.op (h_add (I := (IT.int .i64)) (o_t rfl) o_i) fun x25 =>
 Sim.op1 (h_mv (o_t rfl)) <|
 Sim.next (x25, x24) ⟨⟨⟨rfl, trivial⟩, ⟨⟨rfl, trivial⟩, ⟨⟨rfl, trivial⟩, ⟨⟨rfl, trivial⟩, trivial⟩⟩⟩⟩, ⟨⟨rfl, ⟨trivial, trivial⟩⟩, ⟨⟨rfl, ⟨trivial, trivial⟩⟩, trivial⟩⟩⟩) <| Sim.cond (o_t rfl) (
 Sim.op1 (h_mv o_i) <|
 Sim.jn 0 ⟨⟨⟨rfl, trivial⟩, ⟨⟨rfl, trivial⟩, ⟨⟨rfl, trivial⟩, ⟨⟨rfl, trivial⟩, ⟨⟨rfl, trivial⟩, ⟨⟨rfl, trivial⟩, trivial⟩⟩⟩⟩⟩⟩, ⟨⟨rfl, ⟨trivial, trivial⟩⟩, ⟨⟨rfl, ⟨trivial, trivial⟩⟩, trivial⟩⟩⟩) (
 Sim.skip <| Sim.jn x13 ⟨⟨⟨rfl, trivial⟩, ⟨⟨rfl, trivial⟩, ⟨⟨rfl, trivial⟩, ⟨⟨rfl, trivial⟩, ⟨⟨rfl, trivial⟩, ⟨⟨rfl, trivial⟩, trivial⟩⟩⟩⟩⟩⟩, ⟨⟨rfl, ⟨trivial, trivial⟩⟩, ⟨⟨rfl, ⟨trivial, trivial⟩⟩, trivial⟩⟩⟩)) (
 Sim.exitS <| Sim.out s7.2 ⟨⟨⟨rfl, trivial⟩, ⟨⟨rfl, trivial⟩, trivial⟩⟩, ⟨⟨rfl, ⟨trivial, trivial⟩⟩, ⟨⟨rfl, ⟨trivial, trivial⟩⟩, trivial⟩⟩⟩)) (fun p8 =>
 Sim.exitB <| Sim.doneS <| Sim.seqI <| Sim.opn (h_ldC (t := T_api_Addr) (u := T_api_Addr) (o_t rfl) rfl rfl (Fld.id _) rfl rfl) fun x26 =>
 Sim.opM (M_stC (o_t rfl) (o_t rfl) rfl rfl (Fld.id _) rfl) fun x27 =>
 Sim.doneS <| Sim.ret (.one (res_c rfl rfl rfl (Fld.id _) rfl rfl))))
theorem sp_addr_Mask : Spec tb fn_addr_Mask [T_api_Addr, (T.int .i64)] [T_api_Addr] (fun a => addr_Mask a.1 a.2) :=
  Spec.of f_addr_Mask rfl rfl rfl sim_addr_Mask

noncomputable def cidr_Of (a0 : S_api_Addr) (a1 : Int) : Option (S_api_Prefix × Int) :=
 (addr_Right a0).bind fun x3 =>
 if (!x3) = true then
 some ((⟨T_api_Addr.z, 0⟩ : S_api_Prefix), 1)
 else
 (orO (decide (a1 < 0)) ((addr_Width a0).bind fun x9 =>
 some (decide (x9 < a1)))).bind fun x11 =>
 if x11 = true then
 some ((⟨T_api_Addr.z, 0⟩ : S_api_Prefix), 6)
 else
 (addr_Mask a0 a1).bind fun x15 =>
 some ((⟨x15, a1⟩ : S_api_Prefix), 0)
noncomputable def sim_cidr_Of (a : Res [T_api_Addr, (T.int .i64)]) : Sim tb ⟨argsT [T_api_Addr, (T.int .i64)] 0 a, []⟩ c_cidr_Of.body [] (QRes [T_api_Prefix, (T.int .i64)] c_cidr_Of.res) :=
 Sim.seqI <| Sim.opM (M_box (t := T_api_Addr) 2 rfl rfl (o_t rfl)) fun _ =>
 Sim.opM (M_alloc (t := T_api_Prefix) 4 rfl rfl) fun x1 =>
 Sim.op1 (h_mv o_i) <|
 Sim.doneS <| Sim.seqI <| Sim.blkI <| Sim.seqI <| Sim.opn (h_ldC (t := T_api_Addr) (u := T_api_Addr) (o_t rfl) rfl rfl (Fld.id _) rfl rfl) fun x2 =>
 Sim.op (h_call1 sp_addr_Right (.one (o_t rfl))) fun x3 =>
 Sim.op (h_not (o_t rfl)) fun x4 =>
 Sim.op1 (h_mv (o_t rfl)) <|
 Sim.doneS <| Sim.cond (o_t rfl) (
 Sim.seqI <| Sim.op (h_bld rfl rfl (.nil _)) fun x5 =>
 Sim.opM (M_stC (o_t rfl) (o_t rfl) rfl rfl (Fld.id _) rfl) fun x6 =>
 Sim.op1 (h_mv o_i) <|
 Sim.doneS <| Sim.ret (.cons (res_c rfl rfl rfl (Fld.id _) rfl rfl) <| .one (res_t rfl))) (
 Sim.seqI <| Sim.op1 (h_mv (o_t rfl)) <|
 Sim.op (h_cmp (I := (IT.int .i64)) rfl (o_t rfl) o_i) fun x7 =>
 Sim.op1 (h_mv (o_t rfl)) <|
 Sim.or 4 rfl rfl rfl (Grp.op1 (h_mv (o_t rfl)) <|
 Grp.opn (h_ldC (t := T_api_Addr) (u := T_api_Addr) (o_t rfl) rfl rfl (Fld.id _) rfl rfl) fun x8 =>
 Grp.op (h_call1 sp_addr_Width (.one (o_t rfl))) fun x9 =>
 Grp.op (h_cmp (I := (IT.int .i64)) rfl (o_t rfl) (o_t rfl)) fun x10 =>
 Grp.nil (o_t rfl)) fun x11 =>
 Sim.op1 (h_mv (o_t rfl)) <|
 Sim.doneS <| Sim.cond (o_t rfl) (
 Sim.seqI <| Sim.op (h_bld rfl rfl (.nil _)) fun x12 =>
 Sim.opM (M_stC (o_t rfl) (o_t rfl) rfl rfl (Fld.id _) rfl) fun x13 =>
 Sim.op1 (h_mv o_i) <|
 Sim.doneS <| Sim.ret (.cons (res_c rfl rfl rfl (Fld.id _) rfl rfl) <| .one (res_t rfl))) (
 Sim.skip <| Sim.doneB <| Sim.doneS <| Sim.seqI <| Sim.opn (h_ldC (t := T_api_Addr) (u := T_api_Addr) (o_t rfl) rfl rfl (Fld.id _) rfl rfl) fun x14 =>
 Sim.op1 (h_mv (o_t rfl)) <|
 Sim.op (h_call1 sp_addr_Mask (.cons (o_t rfl) <| .one (o_t rfl))) fun x15 =>
 Sim.op1 (h_mv (o_t rfl)) <|
 Sim.op (h_bld rfl rfl (.cons F_api_Prefix_A rfl (o_t rfl) <| .cons F_api_Prefix_Bits rfl (o_t rfl) <| .nil _)) fun x16 =>
 Sim.opM (M_stC (o_t rfl) (o_t rfl) rfl rfl (Fld.id _) rfl) fun x17 =>
 Sim.op1 (h_mv o_i) <|
 Sim.doneS <| Sim.ret (.cons (res_c rfl rfl rfl (Fld.id _) rfl rfl) <| .one (res_t rfl))))
theorem sp_cidr_Of : Spec tb fn_cidr_Of [T_api_Addr, (T.int .i64)] [T_api_Prefix, (T.int .i64)] (fun a => cidr_Of a.1 a.2) :=
  Spec.of f_cidr_Of rfl rfl rfl sim_cidr_Of

noncomputable def cidr_Right (a0 : S_api_Prefix) : Option Bool :=
 (cidr_Of a0.A a0.Bits).bind fun x3 =>
 (andO (decide (x3.2 = 0)) (some (cmpB C_api_Prefix x3.1 a0))).bind fun x12 =>
 some x12
noncomputable def sim_cidr_Right (a : Res [T_api_Prefix]) : Sim tb ⟨argsT [T_api_Prefix] 0 a, []⟩ c_cidr_Right.body [] (QRes [T.b] c_cidr_Right.res) :=
 Sim.seqI <| Sim.opM (M_box (t := T_api_Prefix) 1 rfl rfl (o_t rfl)) fun _ =>
 Sim.op1 (h_mv o_b) <|
 Sim.doneS <| Sim.seqI <| Sim.op1 (h_faC (o_t rfl)) <|
 Sim.opn (h_ldC (t := T_api_Prefix) (u := T_api_Addr) (o_t rfl) rfl rfl F_api_Prefix_A rfl rfl) fun x1 =>
 Sim.op1 (h_faC (o_t rfl)) <|
 Sim.opn (h_ldC (t := T_api_Prefix) (u := (T.int .i64)) (o_t rfl) rfl rfl F_api_Prefix_Bits rfl rfl) fun x2 =>
 Sim.op (h_callN sp_cidr_Of (.cons (o_t rfl) <| .one (o_t rfl))) fun x3 =>
 Sim.op1 (h_mv (o_t rfl)) <|
 Sim.opn (h_ext (o_t rfl) rfl) fun x4 =>
 Sim.opn (h_ext (o_t rfl) rfl) fun x5 =>
 Sim.opM (M_alloc (t := T_api_Prefix) 3 rfl rfl) fun x6 =>
 Sim.opM (M_stC (o_t rfl) (o_t rfl) rfl rfl (Fld.id _) rfl) fun x7 =>
 Sim.op1 (h_mv (o_t rfl)) <|
 Sim.doneS <| Sim.seqI <| Sim.op1 (h_mv (o_t rfl)) <|
 Sim.op (h_cmp (I := (IT.int .i64)) rfl (o_t rfl) o_i) fun x8 =>
 Sim.op1 (h_mv (o_t rfl)) <|
 Sim.and 3 rfl rfl rfl (Grp.opn (h_ldC (t := T_api_Prefix) (u := T_api_Prefix) (o_t rfl) rfl rfl (Fld.id _) rfl rfl) fun x9 =>
 Grp.opn (h_ldC (t := T_api_Prefix) (u := T_api_Prefix) (o_t rfl) rfl rfl (Fld.id _) rfl rfl) fun x10 =>
 Grp.op (h_eq C_api_Prefix rfl rfl (o_t rfl) (o_t rfl)) fun x11 =>
 Grp.nil (o_t rfl)) fun x12 =>
 Sim.op1 (h_mv (o_t rfl)) <|
 Sim.doneS <| Sim.ret (.one (res_t rfl))
theorem sp_cidr_Right : Spec tb fn_cidr_Right [T_api_Prefix] [T.b] (fun a => cidr_Right a) :=
  Spec.of f_cidr_Right rfl rfl rfl sim_cidr_Right

noncomputable def bytes_Compare (a0 : (GS UInt8)) (a1 : (GS UInt8)) : Option Int :=
 none
noncomputable def sim_bytes_Compare (a : Res [(T.sl T.u8), (T.sl T.u8)]) : Sim tb ⟨argsT [(T.sl T.u8), (T.sl T.u8)] 0 a, []⟩ c_bytes_Compare.body [] (QRes [(T.int .i64)] c_bytes_Compare.res) :=
 Sim.seqI <| Sim.op1 (h_mv o_i) <|
 Sim.doneS <| Sim.seqI <| Sim.op1 (h_mv (o_t rfl)) <|
 Sim.op1 (h_mv (o_t rfl)) <|
 Sim.stop
theorem sp_bytes_Compare : Spec tb fn_bytes_Compare [(T.sl T.u8), (T.sl T.u8)] [(T.int .i64)] (fun a => bytes_Compare a.1 a.2) :=
  Spec.of f_bytes_Compare rfl rfl rfl sim_bytes_Compare

noncomputable def addr_Less (a0 : S_api_Addr) (a1 : S_api_Addr) : Option Bool :=
 if (!decide (a0.V = a1.V)) = true then
 some (decide (a0.V < a1.V))
 else
 (frzO a0.B.l 0 16 16).bind fun x7 =>
 (frzO a1.B.l 0 16 16).bind fun x8 =>
 (bytes_Compare x7 x8).bind fun x9 =>
 some (decide (x9 < 0))
noncomputable def sim_addr_Less (a : Res [T_api_Addr, T_api_Addr]) : Sim tb ⟨argsT [T_api_Addr, T_api_Addr] 0 a, []⟩ c_addr_Less.body [] (QRes [T.b] c_addr_Less.res) :=
 Sim.seqI <| Sim.opM (M_box (t := T_api_Addr) 2 rfl rfl (o_t rfl)) fun _ =>
 Sim.opM (M_box (t := T_api_Addr) 3 rfl rfl (o_t rfl)) fun _ =>
 Sim.op1 (h_mv o_b) <|
 Sim.doneS <| Sim.seqI <| Sim.seqI <| Sim.op1 (h_faC (o_t rfl)) <|
 Sim.opn (h_ldC (t := T_api_Addr) (u := (T.int .i64)) (o_t rfl) rfl rfl F_api_Addr_V rfl rfl) fun x1 =>
 Sim.op1 (h_faC (o_t rfl)) <|
 Sim.opn (h_ldC (t := T_api_Addr) (u := (T.int .i64)) (o_t rfl) rfl rfl F_api_Addr_V rfl rfl) fun x2 =>
 Sim.op (h_cmp (I := (IT.int .i64)) rfl (o_t rfl) (o_t rfl)) fun x3 =>
 Sim.doneS <| Sim.cond (o_t rfl) (
 Sim.seqI <| Sim.op1 (h_faC (o_t rfl)) <|
 Sim.opn (h_ldC (t := T_api_Addr) (u := (T.int .i64)) (o_t rfl) rfl rfl F_api_Addr_V rfl rfl) fun x4 =>
 Sim.op1 (h_faC (o_t rfl)) <|
 Sim.opn (h_ldC (t := T_api_Addr) (u := (T.int .i64)) (o_t rfl) rfl rfl F_api_Addr_V rfl rfl) fun x5 =>
 Sim.op (h_cmp (I := (IT.int .i64)) rfl (o_t rfl) (o_t rfl)) fun x6 =>
 Sim.op1 (h_mv (o_t rfl)) <|
 Sim.doneS <| Sim.ret (.one (res_t rfl))) (
 Sim.skip <| Sim.doneS <| Sim.seqI <| Sim.op1 (h_faC (o_t rfl)) <|
 Sim.op1 (h_slaL (k := 0) (m := 16) rfl rfl (o_t rfl) .none .none rfl rfl rfl) <|
 Sim.op1 (h_faC (o_t rfl)) <|
 Sim.op1 (h_slaL (k := 0) (m := 16) rfl rfl (o_t rfl) .none .none rfl rfl rfl) <|
 Sim.frzSl (o := 1) (k := 0) (m := 16) (t := T_api_Addr) (u := T.u8) 16 F_api_Addr_B rfl rfl rfl rfl fun x7 =>
 Sim.frzSl (o := 1) (k := 0) (m := 16) (t := T_api_Addr) (u := T.u8) 18 F_api_Addr_B rfl rfl rfl rfl fun x8 =>
 Sim.op (h_call1 sp_bytes_Compare (.cons (o_t rfl) <| .one (o_t rfl))) fun x9 =>
 Sim.op (h_cmp (I := (IT.int .i64)) rfl (o_t rfl) o_i) fun x10 =>
 Sim.op1 (h_mv (o_t rfl)) <|
 Sim.doneS <| Sim.ret (.one (res_t rfl)))
theorem sp_addr_Less : Spec tb fn_addr_Less [T_api_Addr, T_api_Addr] [T.b] (fun a => addr_Less a.1 a.2) :=
  Spec.of f_addr_Less rfl rfl rfl sim_addr_Less

noncomputable def cidr_Less (a0 : S_api_Prefix) (a1 : S_api_Prefix) : Option Bool :=
 if (cmpB C_api_Addr a0.A a1.A) = true then
 some (decide (a0.Bits < a1.Bits))
 else
 (addr_Less a0.A a1.A).bind fun x9 =>
 some x9
noncomputable def sim_cidr_Less (a : Res [T_api_Prefix, T_api_Prefix]) : Sim tb ⟨argsT [T_api_Prefix, T_api_Prefix] 0 a, []⟩ c_cidr_Less.body [] (QRes [T.b] c_cidr_Less.res) :=
 Sim.seqI <| Sim.opM (M_box (t := T_api_Prefix) 2 rfl rfl (o_t rfl)) fun _ =>
 Sim.opM (M_box (t := T_api_Prefix) 3 rfl rfl (o_t rfl)) fun _ =>
 Sim.op1 (h_mv o_b) <|
 Sim.doneS <| Sim.seqI <| Sim.seqI <| Sim.op1 (h_faC (o_t rfl)) <|
 Sim.opn (h_ldC (t := T_api_Prefix) (u := T_api_Addr) (o_t rfl) rfl rfl F_api_Prefix_A rfl rfl) fun x1 =>
 Sim.op1 (h_faC (o_t rfl)) <|
 Sim.opn (h_ldC (t := T_api_Prefix) (u := T_api_Addr) (o_t rfl) rfl rfl F_api_Prefix_A rfl rfl) fun x2 =>
 Sim.op (h_eq C_api_Addr rfl rfl (o_t rfl) (o_t rfl)) fun x3 =>
 Sim.doneS <| Sim.cond (o_t rfl) (
 Sim.seqI <| Sim.op1 (h_faC (o_t rfl)) <|
 Sim.opn (h_ldC (t := T_api_Prefix) (u := (T.int .i64)) (o_t rfl) rfl rfl F_api_Prefix_Bits rfl rfl) fun x4 =>
 Sim.op1 (h_faC (o_t rfl)) <|
 Sim.opn (h_ldC (t := T_api_Prefix) (u := (T.int .i64)) (o_t rfl) rfl rfl F_api_Prefix_Bits rfl rfl) fun x5 =>
 Sim.op (h_cmp (I := (IT.int .i64)) rfl (o_t rfl) (o_t rfl)) fun x6 =>
 Sim.op1 (h_mv (o_t rfl)) <|
 Sim.doneS <| Sim.ret (.one (res_t rfl))) (
 Sim.skip <| Sim.doneS <| Sim.seqI <| Sim.op1 (h_faC (o_t rfl)) <|
 Sim.opn (h_ldC (t := T_api_Prefix) (u := T_api_Addr) (o_t rfl) rfl rfl F_api_Prefix_A rfl rfl) fun x7 =>
 Sim.op1 (h_faC (o_t rfl)) <|
 Sim.opn (h_ldC (t := T_api_Prefix) (u := T_api_Addr) (o_t rfl) rfl rfl F_api_Prefix_A rfl rfl) fun x8 =>
 Sim.op (h_call1 sp_addr_Less (.cons (o_t rfl) <| .one (o_t rfl))) fun x9 =>
 Sim.op1 (h_mv (o_t rfl)) <|
 Sim.doneS <| Sim.ret (.one (res_t rfl)))
theorem sp_cidr_Less : Spec tb fn_cidr_Less [T_api_Prefix, T_api_Prefix] [T.b] (fun a => cidr_Less a.1 a.2) :=
  Spec.of f_cidr_Less rfl rfl rfl sim_cidr_Less

noncomputable def view_rising (a0 : (GS S_api_Prefix)) : Option Bool :=
 (iter (fun (s2 : Int) =>
 if (decide (s2 < (a0.l.length : Int))) = true then
 (idx a0.l s2).bind fun x5 =>
 (cidr_Right x5).bind fun x10 =>
 (orO (!x10) ((andO (decide (0 < s2)) ((idx a0.l (IntKind.i64.wrap (s2 - 1))).bind fun x14 =>
 (cidr_Less x14 x5).bind fun x17 =>
 some (!x17))).bind fun x19 =>
 some x19)).bind fun x20 =>
 if x20 = true then
 (some false).map fun r => .inr (.inr r)
 else
 some (.inl (IntKind.i64.wrap (s2 + 1)))
 else
 some (.inr (.inl ()))) 0).bind (Sum.elim (fun (p3 : Unit) =>
 some true) some)
noncomputable def sim_view_rising (a : Res [(T.sl T_api_Prefix)]) : Sim tb ⟨argsT [(T.sl T_api_Prefix)] 0 a, []⟩ c_view_rising.body [] (QRes [T.b] c_view_rising.res) :=
 Sim.seqI <| Sim.op1 (h_mv o_b) <|
 Sim.doneS <| Sim.seqI <| Sim.seqI <| Sim.op1 (h_mv (o_t rfl)) <|
 Sim.op (h_len (o_t rfl)) fun x1 =>
 Sim.op1 (h_mv o_i) <|
 Sim.doneS <| Sim.blkI <| Sim.loop (id := 0) (σ := Int) (τ := Unit) (fun s2 => ⟨[(0, .val (T.sl T_api_Prefix) a), (5, .val (T.sl T_api_Prefix) a), (6, .val (T.int .i64) x1), (7, .val (T.int .i64) s2)], []⟩) (fun p3 => ⟨[], []⟩) 0 ⟨⟨⟨rfl, trivial⟩, ⟨⟨rfl, trivial⟩, ⟨⟨rfl, trivial⟩, ⟨⟨rfl, trivial⟩, trivial⟩⟩⟩⟩, trivial⟩ (fun _ => rfl) (fun s2 =>
 Sim.seqI <| Sim.op (h_cmp (I := (IT.int .i64)) rfl (o_t rfl) (o_t rfl)) fun x4 =>
 Sim.doneS <| Sim.seqI <| Sim.cond (o_t rfl) (
 Sim.skip <| Sim.doneS <| Sim.seqI <| Sim.blkI <| Sim.seqI <| Sim.op1 (h_mv (o_t rfl)) <|
 Sim.op (h_ias rfl (o_t rfl) (o_t rfl)) fun x5 =>
 Sim.opn (h_ld rfl rfl (o_t rfl)) fun x6 =>
 Sim.opM (M_alloc (t := T_api_Prefix) 4 rfl rfl) fun x7 =>
 Sim.op1 (h_mv (o_t rfl)) <|
 Sim.opM (M_stC (o_t rfl) (o_t rfl) rfl rfl (Fld.id _) rfl) fun x8 =>
 Sim.doneS <| Sim.seqI <| Sim.opn (h_ldC (t := T_api_Prefix) (u := T_api_Prefix) (o_t rfl) rfl rfl (Fld.id _) rfl rfl) fun x9 =>
 Sim.op (h_call1 sp_cidr_Right (.one (o_t rfl))) fun x10 =>
 Sim.op (h_not (o_t rfl)) fun x11 =>
 Sim.op1 (h_mv (o_t rfl)) <|
 Sim.or 12 rfl rfl rfl (Grp.op1 (h_mv (o_t rfl)) <|
 Grp.op (h_cmp (I := (IT.int .i64)) rfl (o_t rfl) o_i) fun x12 =>
 Grp.op1 (h_mv (o_t rfl)) <|
 Grp.and 8 rfl rfl rfl rfl rfl (Grp.op1 (h_mv (o_t rfl)) <|
 Grp.op1 (h_mv (o_t rfl)) <|
 Grp.op (h_sub (I := (IT.int .i64)) (o_t rfl) o_i) fun x13 =>
 Grp.op (h_ias rfl (o_t rfl) (o_t rfl)) fun x14 =>
 Grp.opn (h_ld rfl rfl (o_t rfl)) fun x15 =>
 Grp.opn (h_ldC (t := T_api_Prefix) (u := T_api_Prefix) (o_t rfl) rfl rfl (Fld.id _) rfl rfl) fun x16 =>
 Grp.op (h_call1 sp_cidr_Less (.cons (o_t rfl) <| .one (o_t rfl))) fun x17 =>
 Grp.op (h_not (o_t rfl)) fun x18 =>
 Grp.nil (o_t rfl)) fun x19 =>
 Grp.nil (o_t rfl)) fun x20 =>
 Sim.doneS <| Sim.cond (o_t rfl) (
 Sim.seqI <| Sim.op1 (h_mv o_b) <|
 Sim.doneS <| Sim.outRet <| Sim.ret (.one (res_t rfl))) (
 Sim.skip <| Sim.doneB <| Sim.doneS <| Sim.op (h_add (I := (IT.int .i64)) (o_t rfl) o_i) fun x21 =>
 Sim.op1 (h_mv (o_t rfl)) <|
 Sim.next x21 ⟨⟨⟨rfl, trivial⟩, ⟨⟨rfl, trivial⟩, ⟨⟨rfl, trivial⟩, ⟨⟨rfl, trivial⟩, trivial⟩⟩⟩⟩, trivial⟩)) (
 Sim.exitS <| Sim.out () ⟨trivial, trivial⟩)) (fun p3 =>
 Sim.exitB <| Sim.doneS <| Sim.seqI <| Sim.op1 (h_mv o_b) <|
 Sim.doneS <| Sim.ret (.one (res_t rfl)))
theorem sp_view_rising : Spec tb fn_view_rising [(T.sl T_api_Prefix)] [T.b] (fun a => view_rising a) :=
  Spec.of f_view_rising rfl rfl rfl sim_view_rising

noncomputable def hostport_None (a0 : S_api_Endpoint) : Option Bool :=
 let x3 := (cmpB C_api_Endpoint a0 (⟨T_api_Addr.z, 0⟩ : S_api_Endpoint))
 some x3
noncomputable def sim_hostport_None (a : Res [T_api_Endpoint]) : Sim tb ⟨argsT [T_api_Endpoint] 0 a, []⟩ c_hostport_None.body [] (QRes [T.b] c_hostport_None.res) :=
 Sim.seqI <| Sim.opM (M_box (t := T_api_Endpoint) 1 rfl rfl (o_t rfl)) fun _ =>
 Sim.op1 (h_mv o_b) <|
 Sim.doneS <| Sim.seqI <| Sim.opn (h_ldC (t := T_api_Endpoint) (u := T_api_Endpoint) (o_t rfl) rfl rfl (Fld.id _) rfl rfl) fun x1 =>
 Sim.op (h_bld rfl rfl (.nil _)) fun x2 =>
 Sim.op (h_eq C_api_Endpoint rfl rfl (o_t rfl) (o_t rfl)) fun x3 =>
 Sim.op1 (h_mv (o_t rfl)) <|
 Sim.doneS <| Sim.ret (.one (res_t rfl))
theorem sp_hostport_None : Spec tb fn_hostport_None [T_api_Endpoint] [T.b] (fun a => hostport_None a) :=
  Spec.of f_hostport_None rfl rfl rfl sim_hostport_None

noncomputable def hostport_Right (a0 : S_api_Endpoint) : Option Bool :=
 (addr_Right a0.A).bind fun x2 =>
 (andO x2 (some (decide (1 ≤ a0.Port)))).bind fun x5 =>
 (andO x5 (some (decide (a0.Port ≤ 65535)))).bind fun x8 =>
 some x8
noncomputable def sim_hostport_Right (a : Res [T_api_Endpoint]) : Sim tb ⟨argsT [T_api_Endpoint] 0 a, []⟩ c_hostport_Right.body [] (QRes [T.b] c_hostport_Right.res) :=
 Sim.seqI <| Sim.opM (M_box (t := T_api_Endpoint) 1 rfl rfl (o_t rfl)) fun _ =>
 Sim.op1 (h_mv o_b) <|
 Sim.doneS <| Sim.seqI <| Sim.op1 (h_faC (o_t rfl)) <|
 Sim.opn (h_ldC (t := T_api_Endpoint) (u := T_api_Addr) (o_t rfl) rfl rfl F_api_Endpoint_A rfl rfl) fun x1 =>
 Sim.op (h_call1 sp_addr_Right (.one (o_t rfl))) fun x2 =>
 Sim.op1 (h_mv (o_t rfl)) <|
 Sim.and 3 rfl rfl rfl (Grp.op1 (h_faC (o_t rfl)) <|
 Grp.opn (h_ldC (t := T_api_Endpoint) (u := (T.int .i64)) (o_t rfl) rfl rfl F_api_Endpoint_Port rfl rfl) fun x3 =>
 Grp.op (h_cmp (I := (IT.int .i64)) rfl (o_t rfl) o_i) fun x4 =>
 Grp.nil (o_t rfl)) fun x5 =>
 Sim.op1 (h_mv (o_t rfl)) <|
 Sim.and 3 rfl rfl rfl (Grp.op1 (h_faC (o_t rfl)) <|
 Grp.opn (h_ldC (t := T_api_Endpoint) (u := (T.int .i64)) (o_t rfl) rfl rfl F_api_Endpoint_Port rfl rfl) fun x6 =>
 Grp.op (h_cmp (I := (IT.int .i64)) rfl (o_t rfl) o_i) fun x7 =>
 Grp.nil (o_t rfl)) fun x8 =>
 Sim.op1 (h_mv (o_t rfl)) <|
 Sim.doneS <| Sim.ret (.one (res_t rfl))
theorem sp_hostport_Right : Spec tb fn_hostport_Right [T_api_Endpoint] [T.b] (fun a => hostport_Right a) :=
  Spec.of f_hostport_Right rfl rfl rfl sim_hostport_Right

noncomputable def view_Right (a0 : S_api_Conf) : Option Bool :=
 (view_short a0.Port).bind fun x2 =>
 (orO (!x2) (some (decide (16 < (a0.Peers.l.length : Int))))).bind fun x7 =>
 if x7 = true then
 some false
 else
 let x8 := (⟨[0, 0, 0, 0, 0, 0, 0, 0, 0, 0, 0, 0, 0, 0, 0, 0, 0, 0, 0, 0, 0, 0, 0, 0, 0, 0, 0, 0, 0, 0, 0, 0], rfl⟩ : (Ar UInt8 32))
 let x9 := mset (cmpB (CmpC.arr 32 CmpC.u8)) ([] : List ((Ar UInt8 32) × Bool)) x8 true
 (iter (fun (s12 : (Int × (List ((Ar UInt8 32) × Bool)) × (List (S_api_Prefix × Bool)))) =>
 if (decide (s12.1 < (a0.Peers.l.length : Int))) = true then
 (idx a0.Peers.l s12.1).bind fun x15 =>
 let x20 := (mget (cmpB (CmpC.arr 32 CmpC.u8)) s12.2.1 x15.Key).getD false
 (orO x20 ((view_short x15.Keep).bind fun x22 =>
 some (!x22))).bind fun x24 =>
 (orO x24 ((view_rising x15.Allowed).bind fun x26 =>
 some (!x26))).bind fun x28 =>
 if x28 = true then
 (some false).map fun r => .inr (.inr r)
 else
 (hostport_None x15.End).bind fun x30 =>
 (andO (!x30) ((hostport_Right x15.End).bind fun x33 =>
 some (!x33))).bind fun x35 =>
 if x35 = true then
 (some false).map fun r => .inr (.inr r)
 else
 let x37 := mset (cmpB (CmpC.arr 32 CmpC.u8)) s12.2.1 x15.Key true
 (iter (fun (s40 : (Int × (List (S_api_Prefix × Bool)))) =>
 if (decide (s40.1 < (x15.Allowed.l.length : Int))) = true then
 (idx x15.Allowed.l s40.1).bind fun x43 =>
 if ((mget (cmpB C_api_Prefix) s40.2 x43).getD false) = true then
 ((some false).map fun r => .inr (.inr r)).map fun r => .inr (.inr r)
 else
 let x50 := mset (cmpB C_api_Prefix) s40.2 x43 true
 some (.inl (IntKind.i64.wrap (s40.1 + 1), x50))
 else
 some (.inr (.inl s40.2))) (0, s12.2.2)).bind (Sum.elim (fun (p41 : (List (S_api_Prefix × Bool))) =>
 some (.inl (IntKind.i64.wrap (s12.1 + 1), x37, p41))) some)
 else
 some (.inr (.inl s12.2.2))) (0, x9, ([] : List (S_api_Prefix × Bool)))).bind (Sum.elim (fun (p13 : (List (S_api_Prefix × Bool))) =>
 some (decide ((p13.length : Int) ≤ 64))) some)
noncomputable def sim_view_Right (a : Res [T_api_Conf]) : Sim tb ⟨argsT [T_api_Conf] 0 a, []⟩ c_view_Right.body [] (QRes [T.b] c_view_Right.res) :=
 Sim.seqI <| Sim.opM (M_box (t := T_api_Conf) 1 rfl rfl (o_t rfl)) fun _ =>
 Sim.op1 (h_mv o_b) <|
 Sim.doneS <| Sim.seqI <| Sim.seqI <| Sim.op1 (h_faC (o_t rfl)) <|
 Sim.opn (h_ldC (t := T_api_Conf) (u := (T.int .i64)) (o_t rfl) rfl rfl F_api_Conf_Port rfl rfl) fun x1 =>
 Sim.op (h_call1 sp_view_short (.one (o_t rfl))) fun x2 =>
 Sim.op (h_not (o_t rfl)) fun x3 =>
 Sim.op1 (h_mv (o_t rfl)) <|
 Sim.or 4 rfl rfl rfl (Grp.op1 (h_faC (o_t rfl)) <|
 Grp.opn (h_ldC (t := T_api_Conf) (u := (T.sl T_api_Peer)) (o_t rfl) rfl rfl F_api_Conf_Peers rfl rfl) fun x4 =>
 Grp.op (h_len (o_t rfl)) fun x5 =>
 Grp.op (h_cmp (I := (IT.int .i64)) rfl (o_t rfl) o_i) fun x6 =>
 Grp.nil (o_t rfl)) fun x7 =>
 Sim.doneS <| Sim.cond (o_t rfl) (
 Sim.seqI <| Sim.op1 (h_mv o_b) <|
 Sim.doneS <| Sim.ret (.one (res_t rfl))) (
 Sim.skip <| Sim.doneS <| Sim.seqI <| Sim.opM (M_mkm (K := (T.arr 32 T.u8)) (V := T.b) 1019 rfl) fun _ =>
 Sim.opn (h_bldA (t := T.u8) (⟨[0, 0, 0, 0, 0, 0, 0, 0, 0, 0, 0, 0, 0, 0, 0, 0, 0, 0, 0, 0, 0, 0, 0, 0, 0, 0, 0, 0, 0, 0, 0, 0], rfl⟩ : (Ar UInt8 32)) rfl (.nil _)) fun x8 =>
 Sim.opM (M_mup (K := (T.arr 32 T.u8)) (V := T.b) ⟨_, (CmpC.arr 32 CmpC.u8), .inl ⟨rfl, rfl⟩⟩ (o_t rfl) rfl (o_t rfl) o_b) fun x9 =>
 Sim.op1 (h_mv (o_t rfl)) <|
 Sim.opM (M_mkm (K := T_api_Prefix) (V := T.b) 1022 rfl) fun _ =>
 Sim.op1 (h_mv (o_t rfl)) <|
 Sim.op1 (h_mv (o_t rfl)) <|
 Sim.doneS <| Sim.seqI <| Sim.seqI <| Sim.op1 (h_faC (o_t rfl)) <|
 Sim.opn (h_ldC (t := T_api_Conf) (u := (T.sl T_api_Peer)) (o_t rfl) rfl rfl F_api_Conf_Peers rfl rfl) fun x10 =>
 Sim.op (h_len (o_t rfl)) fun x11 =>
 Sim.op1 (h_mv o_i) <|
 Sim.doneS <| Sim.blkI <| Sim.loop (id := 0) (σ := (Int × (List ((Ar UInt8 32) × Bool)) × (List (S_api_Prefix × Bool)))) (τ := (List (S_api_Prefix × Bool))) (fun s12 => ⟨[(3, .own 1019), (4, .own 1022), (24, .val (T.sl T_api_Peer) x10), (25, .val (T.int .i64) x11), (26, .val (T.int .i64) s12.1)], [(1019, .dom (DMap (T.arr 32 T.u8) T.b) s12.2.1), (1022, .dom (DMap T_api_Prefix T.b) s12.2.2)]⟩) (fun p13 => ⟨[(4, .own 1022)], [(1022, .dom (DMap T_api_Prefix T.b) p13)]⟩) (0, x9, ([] : List (S_api_Prefix × Bool))) ⟨⟨⟨rfl, trivial⟩, ⟨⟨rfl, trivial⟩, ⟨⟨rfl, trivial⟩, ⟨⟨rfl, trivial⟩, ⟨⟨rfl, trivial⟩, trivial⟩⟩⟩⟩⟩, ⟨⟨rfl, trivial⟩, ⟨⟨rfl, trivial⟩, trivial⟩⟩⟩ (fun _ => rfl) (fun s12 =>
 Sim.seqI <| Sim.op (h_cmp (I := (IT.int .i64)) rfl (o_t rfl) (o_t rfl)) fun x14 =>
 Sim.doneS <| Sim.seqI <| Sim.cond (o_t rfl) (
 Sim.skip <| Sim.doneS <| Sim.seqI <| Sim.blkI <| Sim.seqI <| Sim.op (h_ias rfl (o_t rfl) (o_t rfl)) fun x15 =>
 Sim.opn (h_ld rfl rfl (o_t rfl)) fun x16 =>
 Sim.opM (M_alloc (t := T_api_Peer) 6 rfl rfl) fun x17 =>
 Sim.opM (M_stC (o_t rfl) (o_t rfl) rfl rfl (Fld.id _) rfl) fun x18 =>
 Sim.doneS <| Sim.seqI <| Sim.seqI <| Sim.op1 (h_mv (o_t rfl)) <|
 Sim.op1 (h_faC (o_t rfl)) <|
 Sim.opn (h_ldC (t := T_api_Peer) (u := (T.arr 32 T.u8)) (o_t rfl) rfl rfl F_api_Peer_Key rfl rfl) fun x19 =>
 Sim.op (h_lkp (K := (T.arr 32 T.u8)) (V := T.b) ⟨_, (CmpC.arr 32 CmpC.u8), .inl ⟨rfl, rfl⟩⟩ (.inr ⟨rfl, rfl⟩) (o_t rfl) rfl (o_t rfl)) fun x20 =>
 Sim.op1 (h_mv (o_t rfl)) <|
 Sim.or 4 rfl rfl rfl (Grp.op1 (h_faC (o_t rfl)) <|
 Grp.opn (h_ldC (t := T_api_Peer) (u := (T.int .i64)) (o_t rfl) rfl rfl F_api_Peer_Keep rfl rfl) fun x21 =>
 Grp.op (h_call1 sp_view_short (.one (o_t rfl))) fun x22 =>
 Grp.op (h_not (o_t rfl)) fun x23 =>
 Grp.nil (o_t rfl)) fun x24 =>
 Sim.op1 (h_mv (o_t rfl)) <|
 Sim.or 4 rfl rfl rfl (Grp.op1 (h_faC (o_t rfl)) <|
 Grp.opn (h_ldC (t := T_api_Peer) (u := (T.sl T_api_Prefix)) (o_t rfl) rfl rfl F_api_Peer_Allowed rfl rfl) fun x25 =>
 Grp.op (h_call1 sp_view_rising (.one (o_t rfl))) fun x26 =>
 Grp.op (h_not (o_t rfl)) fun x27 =>
 Grp.nil (o_t rfl)) fun x28 =>
 Sim.doneS <| Sim.cond (o_t rfl) (
 Sim.seqI <| Sim.op1 (h_mv o_b) <|
 Sim.doneS <| Sim.outRet <| Sim.ret (.one (res_t rfl))) (
 Sim.skip <| Sim.doneS <| Sim.seqI <| Sim.seqI <| Sim.op1 (h_faC (o_t rfl)) <|
 Sim.opn (h_ldC (t := T_api_Peer) (u := T_api_Endpoint) (o_t rfl) rfl rfl F_api_Peer_End rfl rfl) fun x29 =>
 Sim.op (h_call1 sp_hostport_None (.one (o_t rfl))) fun x30 =>
 Sim.op (h_not (o_t rfl)) fun x31 =>
 Sim.op1 (h_mv (o_t rfl)) <|
 Sim.and 4 rfl rfl rfl (Grp.op1 (h_faC (o_t rfl)) <|
 Grp.opn (h_ldC (t := T_api_Peer) (u := T_api_Endpoint) (o_t rfl) rfl rfl F_api_Peer_End rfl rfl) fun x32 =>
 Grp.op (h_call1 sp_hostport_Right (.one (o_t rfl))) fun x33 =>
 Grp.op (h_not (o_t rfl)) fun x34 =>
 Grp.nil (o_t rfl)) fun x35 =>
 Sim.doneS <| Sim.cond (o_t rfl) (
 Sim.seqI <| Sim.op1 (h_mv o_b) <|
 Sim.doneS <| Sim.outRet <| Sim.ret (.one (res_t rfl))) (
 Sim.skip <| Sim.doneS <| Sim.seqI <| Sim.op1 (h_mv (o_t rfl)) <|
 Sim.op1 (h_faC (o_t rfl)) <|
 Sim.opn (h_ldC (t := T_api_Peer) (u := (T.arr 32 T.u8)) (o_t rfl) rfl rfl F_api_Peer_Key rfl rfl) fun x36 =>
 Sim.opM (M_mup (K := (T.arr 32 T.u8)) (V := T.b) ⟨_, (CmpC.arr 32 CmpC.u8), .inl ⟨rfl, rfl⟩⟩ (o_t rfl) rfl (o_t rfl) o_b) fun x37 =>
 Sim.doneS <| Sim.seqI <| Sim.op1 (h_faC (o_t rfl)) <|
 Sim.opn (h_ldC (t := T_api_Peer) (u := (T.sl T_api_Prefix)) (o_t rfl) rfl rfl F_api_Peer_Allowed rfl rfl) fun x38 =>
 Sim.op (h_len (o_t rfl)) fun x39 =>
 Sim.op1 (h_mv o_i) <|
 Sim.doneS <| Sim.blkI <| Sim.loop (id := 2) (σ := (Int × (List (S_api_Prefix × Bool)))) (τ := (List (S_api_Prefix × Bool))) (fun s40 => ⟨[(3, .own 1019), (4, .own 1022), (24, .val (T.sl T_api_Peer) x10), (25, .val (T.int .i64) x11), (26, .val (T.int .i64) s12.1), (60, .val (T.sl T_api_Prefix) x38), (61, .val (T.int .i64) x39), (62, .val (T.int .i64) s40.1)], [(1019, .dom (DMap (T.arr 32 T.u8) T.b) x37), (1022, .dom (DMap T_api_Prefix T.b) s40.2)]⟩) (fun p41 => ⟨[(3, .own 1019), (4, .own 1022), (24, .val (T.sl T_api_Peer) x10), (25, .val (T.int .i64) x11), (26, .val (T.int .i64) s12.1)], [(1019, .dom (DMap (T.arr 32 T.u8) T.b) x37), (1022, .dom (DMap T_api_Prefix T.b) p41)]⟩) (0, s12.2.2) ⟨⟨⟨rfl, trivial⟩, ⟨⟨rfl, trivial⟩, ⟨⟨rfl, trivial⟩, ⟨⟨rfl, trivial⟩, ⟨⟨rfl, trivial⟩, ⟨⟨rfl, trivial⟩, ⟨⟨rfl, trivial⟩, ⟨⟨rfl, trivial⟩, trivial⟩⟩⟩⟩⟩⟩⟩⟩, ⟨⟨rfl, trivial⟩, ⟨⟨rfl, trivial⟩, trivial⟩⟩⟩ (fun _ => rfl) (fun s40 =>
 Sim.seqI <| Sim.op (h_cmp (I := (IT.int .i64)) rfl (o_t rfl) (o_t rfl)) fun x42 =>
 Sim.doneS <| Sim.seqI <| Sim.cond (o_t rfl) (
 Sim.skip <| Sim.doneS <| Sim.seqI <| Sim.blkI <| Sim.seqI <| Sim.op (h_ias rfl (o_t rfl) (o_t rfl)) fun x43 =>
 Sim.opn (h_ld rfl rfl (o_t rfl)) fun x44 =>
 Sim.opM (M_alloc (t := T_api_Prefix) 8 rfl rfl) fun x45 =>
 Sim.opM (M_stC (o_t rfl) (o_t rfl) rfl rfl (Fld.id _) rfl) fun x46 =>
 Sim.doneS <| Sim.seqI <| Sim.seqI <| Sim.op1 (h_mv (o_t rfl)) <|
 Sim.opn (h_ldC (t := T_api_Prefix) (u := T_api_Prefix) (o_t rfl) rfl rfl (Fld.id _) rfl rfl) fun x47 =>
 Sim.op (h_lkp (K := T_api_Prefix) (V := T.b) ⟨_, C_api_Prefix, .inl ⟨rfl, rfl⟩⟩ (.inr ⟨rfl, rfl⟩) (o_t rfl) rfl (o_t rfl)) fun x48 =>
 Sim.doneS <| Sim.cond (o_t rfl) (
 Sim.seqI <| Sim.op1 (h_mv o_b) <|
 Sim.doneS <| Sim.outRet <| Sim.outRet <| Sim.ret (.one (res_t rfl))) (
 Sim.skip <| Sim.doneS <| Sim.op1 (h_mv (o_t rfl)) <|
 Sim.opn (h_ldC (t := T_api_Prefix) (u := T_api_Prefix) (o_t rfl) rfl rfl (Fld.id _) rfl rfl) fun x49 =>
 Sim.opM (M_mup (K := T_api_Prefix) (V := T.b) ⟨_, C_api_Prefix, .inl ⟨rfl, rfl⟩⟩ (o_t rfl) rfl (o_t rfl) o_b) fun x50 =>
 Sim.doneB <| Sim.doneS <| Sim.op (h_add (I := (IT.int .i64)) (o_t rfl) o_i) fun x51 =>
 Sim.op1 (h_mv (o_t rfl)) <|
 Sim.next (x51, x50) ⟨⟨⟨rfl, trivial⟩, ⟨⟨rfl, trivial⟩, ⟨⟨rfl, trivial⟩, ⟨⟨rfl, trivial⟩, ⟨⟨rfl, trivial⟩, ⟨⟨rfl, trivial⟩, ⟨⟨rfl, trivial⟩, ⟨⟨rfl, trivial⟩, trivial⟩⟩⟩⟩⟩⟩⟩⟩, ⟨⟨rfl, trivial⟩, ⟨⟨rfl, trivial⟩, trivial⟩⟩⟩)) (
 Sim.exitS <| Sim.out s40.2 ⟨⟨⟨rfl, trivial⟩, ⟨⟨rfl, trivial⟩, ⟨⟨rfl, trivial⟩, ⟨⟨rfl, trivial⟩, ⟨⟨rfl, trivial⟩, trivial⟩⟩⟩⟩⟩, ⟨⟨rfl, trivial⟩, ⟨⟨rfl, trivial⟩, trivial⟩⟩⟩)) (fun p41 =>
 Sim.exitB <| Sim.doneB <| Sim.doneS <| Sim.op (h_add (I := (IT.int .i64)) (o_t rfl) o_i) fun x52 =>
 Sim.op1 (h_mv (o_t rfl)) <|
 Sim.next (x52, x37, p41) ⟨⟨⟨rfl, trivial⟩, ⟨⟨rfl, trivial⟩, ⟨⟨rfl, trivial⟩, ⟨⟨rfl, trivial⟩, ⟨⟨rfl, trivial⟩, trivial⟩⟩⟩⟩⟩, ⟨⟨rfl, trivial⟩, ⟨⟨rfl, trivial⟩, trivial⟩⟩⟩)))) (
 Sim.exitS <| Sim.out s12.2.2 ⟨⟨⟨rfl, trivial⟩, trivial⟩, ⟨⟨rfl, trivial⟩, trivial⟩⟩)) (fun p13 =>
 Sim.exitB <| Sim.doneS <| Sim.seqI <| Sim.op1 (h_mv (o_t rfl)) <|
 Sim.op (h_lenm (K := T_api_Prefix) (V := T.b) (o_t rfl) rfl) fun x53 =>
 Sim.op (h_cmp (I := (IT.int .i64)) rfl (o_t rfl) o_i) fun x54 =>
 Sim.op1 (h_mv (o_t rfl)) <|
 Sim.doneS <| Sim.ret (.one (res_t rfl))))
theorem sp_view_Right : Spec tb fn_view_Right [T_api_Conf] [T.b] (fun a => view_Right a) :=
  Spec.of f_view_Right rfl rfl rfl sim_view_Right

noncomputable def getres_peer (a0 : S_api_Peer) : Option (GS S_api_Field) :=
 let x2 := (⟨5, a0.Key, 0, T_api_Endpoint.z, T_api_Prefix.z⟩ : S_api_Field)
 let x4 := (⟨8, a0.Psk, 0, T_api_Endpoint.z, T_api_Prefix.z⟩ : S_api_Field)
 let x5 := (⟨13, (T.arr 32 T.u8).z, (1 : UInt64), T_api_Endpoint.z, T_api_Prefix.z⟩ : S_api_Field)
 (hostport_None a0.End).bind fun x8 =>
 (if (!x8) = true then
 let x36 := (⟨9, (T.arr 32 T.u8).z, 0, a0.End, T_api_Prefix.z⟩ : S_api_Field)
 (apG 112 (GS.mk [x2, x4, x5]) [x36]).bind fun x38 =>
 some (.inl x38)
 else
 some (.inl (GS.mk [x2, x4, x5])) : Option ((GS S_api_Field) ⊕ _)).bind (Sum.elim (fun (p10 : (GS S_api_Field)) =>
 let x13 := (⟨14, (T.arr 32 T.u8).z, a0.Sent, T_api_Endpoint.z, T_api_Prefix.z⟩ : S_api_Field)
 let x15 := (⟨15, (T.arr 32 T.u8).z, a0.Got, T_api_Endpoint.z, T_api_Prefix.z⟩ : S_api_Field)
 let x18 := (⟨10, (T.arr 32 T.u8).z, IT.u64.ofI a0.Keep, T_api_Endpoint.z, T_api_Prefix.z⟩ : S_api_Field)
 (apG 112 p10 [x13, x15, x18]).bind fun x20 =>
 (iter (fun (s23 : (Int × (GS S_api_Field))) =>
 if (decide (s23.1 < (a0.Allowed.l.length : Int))) = true then
 (idx a0.Allowed.l s23.1).bind fun x26 =>
 let x31 := (⟨12, (T.arr 32 T.u8).z, 0, T_api_Endpoint.z, x26⟩ : S_api_Field)
 (apG 112 s23.2 [x31]).bind fun x33 =>
 some (.inl (IntKind.i64.wrap (s23.1 + 1), x33))
 else
 some (.inr (.inl s23.2))) (0, x20)).bind (Sum.elim (fun (p24 : (GS S_api_Field)) =>
 some p24) some)) some)
noncomputable def sim_getres_peer (a : Res [T_api_Peer]) : Sim tb ⟨argsT [T_api_Peer] 0 a, []⟩ c_getres_peer.body [] (QRes [(T.sl T_api_Field)] c_getres_peer.res) :=
 Sim.seqI <| Sim.opM (M_box (t := T_api_Peer) 1 rfl rfl (o_t rfl)) fun _ =>
 Sim.op1 (h_mv (o_nils (t := T_api_Field))) <| Sim.turn (born (n := 2) (j := 1002) rfl rfl) <|
 Sim.doneS <| Sim.seqI <| Sim.op1 (h_faC (o_t rfl)) <|
 Sim.opn (h_ldC (t := T_api_Peer) (u := (T.arr 32 T.u8)) (o_t rfl) rfl rfl F_api_Peer_Key rfl rfl) fun x1 =>
 Sim.op (h_bld rfl rfl (.cons F_api_Field_Word rfl o_i <| .cons F_api_Field_Key rfl (o_t rfl) <| .nil _)) fun x2 =>
 Sim.op1 (h_faC (o_t rfl)) <|
 Sim.opn (h_ldC (t := T_api_Peer) (u := (T.arr 32 T.u8)) (o_t rfl) rfl rfl F_api_Peer_Psk rfl rfl) fun x3 =>
 Sim.op (h_bld rfl rfl (.cons F_api_Field_Word rfl o_i <| .cons F_api_Field_Key rfl (o_t rfl) <| .nil _)) fun x4 =>
 Sim.op (h_bld rfl rfl (.cons F_api_Field_Word rfl o_i <| .cons F_api_Field_N rfl (o_u64 1 rfl) <| .nil _)) fun x5 =>
 Sim.opM (M_bls (t := T_api_Field) (n := 3) 1013 rfl rfl (.cons rfl (o_t rfl) <| .cons rfl (o_t rfl) <| .cons rfl (o_t rfl) <| .nil _) rfl) fun x6 =>
 Sim.op1 (h_mv (o_t rfl)) <|
 Sim.doneS <| Sim.seqI <| Sim.seqI <| Sim.op1 (h_faC (o_t rfl)) <|
 Sim.opn (h_ldC (t := T_api_Peer) (u := T_api_Endpoint) (o_t rfl) rfl rfl F_api_Peer_End rfl rfl) fun x7 =>
 Sim.op (h_call1 sp_hostport_None (.one (o_t rfl))) fun x8 =>
 Sim.op (h_not (o_t rfl)) fun x9 =>
 Sim.doneS <| Sim.joinS (τ := (GS S_api_Field)) (fun p10 => ⟨[(1, .cp 1 0), (3, .own 1013)], [(1, .cells [(86, .val T_api_Peer a)]), (1013, .row T_api_Field p10)]⟩) (fun p10 =>
 Sim.doneS <| Sim.seqI <| Sim.op1 (h_mv (o_t rfl)) <|
 Sim.op1 (h_faC (o_t rfl)) <|
 Sim.opn (h_ldC (t := T_api_Peer) (u := T.u64) (o_t rfl) rfl rfl F_api_Peer_Sent rfl rfl) fun x12 =>
 Sim.op (h_bld rfl rfl (.cons F_api_Field_Word rfl o_i <| .cons F_api_Field_N rfl (o_t rfl) <| .nil _)) fun x13 =>
 Sim.op1 (h_faC (o_t rfl)) <|
 Sim.opn (h_ldC (t := T_api_Peer) (u := T.u64) (o_t rfl) rfl rfl F_api_Peer_Got rfl rfl) fun x14 =>
 Sim.op (h_bld rfl rfl (.cons F_api_Field_Word rfl o_i <| .cons F_api_Field_N rfl (o_t rfl) <| .nil _)) fun x15 =>
 Sim.op1 (h_faC (o_t rfl)) <|
 Sim.opn (h_ldC (t := T_api_Peer) (u := (T.int .i64)) (o_t rfl) rfl rfl F_api_Peer_Keep rfl rfl) fun x16 =>
 Sim.op (h_cvi (I := (IT.int .i64)) (J := IT.u64) rfl (o_t rfl)) fun x17 =>
 Sim.op (h_bld rfl rfl (.cons F_api_Field_Word rfl o_i <| .cons F_api_Field_N rfl (o_t rfl) <| .nil _)) fun x18 =>
 Sim.op (h_bll (t := T_api_Field) (n := 3) rfl rfl (.cons rfl (o_t rfl) <| .cons rfl (o_t rfl) <| .cons rfl (o_t rfl) <| .nil _)) fun x19 =>
 Sim.opM (M_app rfl (o_t rfl) rfl (n_sl (o_t rfl))) fun x20 =>
 Sim.op1 (h_mv (o_t rfl)) <|
 Sim.doneS <| Sim.seqI <| Sim.seqI <| Sim.op1 (h_faC (o_t rfl)) <|
 Sim.opn (h_ldC (t := T_api_Peer) (u := (T.sl T_api_Prefix)) (o_t rfl) rfl rfl F_api_Peer_Allowed rfl rfl) fun x21 =>
 Sim.op (h_len (o_t rfl)) fun x22 =>
 Sim.op1 (h_mv o_i) <|
 Sim.doneS <| Sim.blkI <| Sim.loop (id := 0) (σ := (Int × (GS S_api_Field))) (τ := (GS S_api_Field)) (fun s23 => ⟨[(3, .own 1013), (38, .val (T.sl T_api_Prefix) x21), (39, .val (T.int .i64) x22), (40, .val (T.int .i64) s23.1)], [(1013, .row T_api_Field s23.2)]⟩) (fun p24 => ⟨[(3, .own 1013)], [(1013, .row T_api_Field p24)]⟩) (0, x20) ⟨⟨⟨rfl, trivial⟩, ⟨⟨rfl, trivial⟩, ⟨⟨rfl, trivial⟩, ⟨⟨rfl, trivial⟩, trivial⟩⟩⟩⟩, ⟨⟨rfl, trivial⟩, trivial⟩⟩ (fun _ => rfl) (fun s23 =>
 Sim.seqI <| Sim.op (h_cmp (I := (IT.int .i64)) rfl (o_t rfl) (o_t rfl)) fun x25 =>
 Sim.doneS <| Sim.seqI <| Sim.cond (o_t rfl) (
 Sim.skip <| Sim.doneS <| Sim.seqI <| Sim.blkI <| Sim.seqI <| Sim.op (h_ias rfl (o_t rfl) (o_t rfl)) fun x26 =>
 Sim.opn (h_ld rfl rfl (o_t rfl)) fun x27 =>
 Sim.opM (M_alloc (t := T_api_Prefix) 5 rfl rfl) fun x28 =>
 Sim.opM (M_stC (o_t rfl) (o_t rfl) rfl rfl (Fld.id _) rfl) fun x29 =>
 Sim.doneS <| Sim.op1 (h_mv (o_t rfl)) <|
 Sim.opn (h_ldC (t := T_api_Prefix) (u := T_api_Prefix) (o_t rfl) rfl rfl (Fld.id _) rfl rfl) fun x30 =>
 Sim.op (h_bld rfl rfl (.cons F_api_Field_Word rfl o_i <| .cons F_api_Field_P rfl (o_t rfl) <| .nil _)) fun x31 =>
 Sim.op (h_bll (t := T_api_Field) (n := 1) rfl rfl (.cons rfl (o_t rfl) <| .nil _)) fun x32 =>
 Sim.opM (M_app rfl (o_t rfl) rfl (n_sl (o_t rfl))) fun x33 =>
 Sim.op1 (h_mv (o_t rfl)) <|
 Sim.doneB <| Sim.doneS <| Sim.op (h_add (I := (IT.int .i64)) (o_t rfl) o_i) fun x34 =>
 Sim.op1 (h_mv (o_t rfl)) <|
 Sim.next (x34, x33) ⟨⟨⟨rfl, trivial⟩, ⟨⟨rfl, trivial⟩, ⟨⟨rfl, trivial⟩, ⟨⟨rfl, trivial⟩, trivial⟩⟩⟩⟩, ⟨⟨rfl, trivial⟩, trivial⟩⟩) (
 Sim.exitS <| Sim.out s23.2 ⟨⟨⟨rfl, trivial⟩, trivial⟩, ⟨⟨rfl, trivial⟩, trivial⟩⟩)) (fun p24 =>
 Sim.exitB <| Sim.doneS <| Sim.seqI <| Sim.op1 (h_mv (o_t rfl)) <|
 Sim.op1 (h_mv (o_t rfl)) <|
 Sim.doneS <| Sim.frzRow 1013 rfl rfl <| Sim.ret (.one (res_t rfl)))) <| Sim.cond (o_t rfl) (
 Sim.op1 (h_mv (o_t rfl)) <|
 Sim.op1 (h_faC (o_t rfl)) <|
 Sim.opn (h_ldC (t := T_api_Peer) (u := T_api_Endpoint) (o_t rfl) rfl rfl F_api_Peer_End rfl rfl) fun x35 =>
 Sim.op (h_bld rfl rfl (.cons F_api_Field_Word rfl o_i <| .cons F_api_Field_End rfl (o_t rfl) <| .nil _)) fun x36 =>
 Sim.op (h_bll (t := T_api_Field) (n := 1) rfl rfl (.cons rfl (o_t rfl) <| .nil _)) fun x37 =>
 Sim.opM (M_app rfl (o_t rfl) rfl (n_sl (o_t rfl))) fun x38 =>
 Sim.op1 (h_mv (o_t rfl)) <|
 Sim.jn x38 ⟨⟨⟨rfl, trivial⟩, ⟨⟨rfl, trivial⟩, trivial⟩⟩, ⟨⟨rfl, ⟨trivial, trivial⟩⟩, ⟨⟨rfl, trivial⟩, trivial⟩⟩⟩) (
 Sim.skip <| Sim.jn (.mk x6) ⟨⟨⟨rfl, trivial⟩, ⟨⟨rfl, trivial⟩, trivial⟩⟩, ⟨⟨rfl, ⟨trivial, trivial⟩⟩, ⟨⟨rfl, trivial⟩, trivial⟩⟩⟩)
theorem sp_getres_peer : Spec tb fn_getres_peer [T_api_Peer] [(T.sl T_api_Field)] (fun a => getres_peer a) :=
  Spec.of f_getres_peer rfl rfl rfl sim_getres_peer

noncomputable def getres_Text (a0 : S_api_Conf) : Option (Str × Int) :=
 (view_Right a0).bind fun x2 =>
 if (!x2) = true then
 some ([], 1)
 else
 let x5 := (⟨1, a0.Private, 0, T_api_Endpoint.z, T_api_Prefix.z⟩ : S_api_Field)
 let x8 := (⟨2, (T.arr 32 T.u8).z, IT.u64.ofI a0.Port, T_api_Endpoint.z, T_api_Prefix.z⟩ : S_api_Field)
 let x11 := (⟨3, (T.arr 32 T.u8).z, IT.u64.ofI (a0.Mark.toNat : Int), T_api_Endpoint.z, T_api_Prefix.z⟩ : S_api_Field)
 (iter (fun (s15 : (Int × (GS S_api_Field))) =>
 if (decide (s15.1 < (a0.Peers.l.length : Int))) = true then
 (idx a0.Peers.l s15.1).bind fun x18 =>
 (getres_peer x18).bind fun x23 =>
 (apG 112 s15.2 x23.l).bind fun x24 =>
 some (.inl (IntKind.i64.wrap (s15.1 + 1), x24))
 else
 some (.inr (.inl s15.2))) (0, (GS.mk [x5, x8, x11]))).bind (Sum.elim (fun (p16 : (GS S_api_Field)) =>
 let x26 := (⟨16, (T.arr 32 T.u8).z, 0, T_api_Endpoint.z, T_api_Prefix.z⟩ : S_api_Field)
 (apG 112 p16 [x26]).bind fun x28 =>
 (getres_pairs x28).bind fun x29 =>
 (pairline_Block x29).bind fun x30 =>
 some (x30.1, x30.2)) some)
noncomputable def sim_getres_Text (a : Res [T_api_Conf]) : Sim tb ⟨argsT [T_api_Conf] 0 a, []⟩ c_getres_Text.body [] (QRes [T.str, (T.int .i64)] c_getres_Text.res) :=
 Sim.seqI <| Sim.opM (M_box (t := T_api_Conf) 1 rfl rfl (o_t rfl)) fun _ =>
 Sim.op1 (h_mv o_s) <|
 Sim.op1 (h_mv o_i) <|
 Sim.doneS <| Sim.seqI <| Sim.seqI <| Sim.opn (h_ldC (t := T_api_Conf) (u := T_api_Conf) (o_t rfl) rfl rfl (Fld.id _) rfl rfl) fun x1 =>
 Sim.op (h_call1 sp_view_Right (.one (o_t rfl))) fun x2 =>
 Sim.op (h_not (o_t rfl)) fun x3 =>
 Sim.doneS <| Sim.cond (o_t rfl) (
 Sim.seqI <| Sim.op1 (h_mv o_s) <|
 Sim.op1 (h_mv o_i) <|
 Sim.doneS <| Sim.ret (.cons (res_t rfl) <| .one (res_t rfl))) (
 Sim.skip <| Sim.doneS <| Sim.seqI <| Sim.op1 (h_faC (o_t rfl)) <|
 Sim.opn (h_ldC (t := T_api_Conf) (u := (T.arr 32 T.u8)) (o_t rfl) rfl rfl F_api_Conf_Private rfl rfl) fun x4 =>
 Sim.op (h_bld rfl rfl (.cons F_api_Field_Word rfl o_i <| .cons F_api_Field_Key rfl (o_t rfl) <| .nil _)) fun x5 =>
 Sim.op1 (h_faC (o_t rfl)) <|
 Sim.opn (h_ldC (t := T_api_Conf) (u := (T.int .i64)) (o_t rfl) rfl rfl F_api_Conf_Port rfl rfl) fun x6 =>
 Sim.op (h_cvi (I := (IT.int .i64)) (J := IT.u64) rfl (o_t rfl)) fun x7 =>
 Sim.op (h_bld rfl rfl (.cons F_api_Field_Word rfl o_i <| .cons F_api_Field_N rfl (o_t rfl) <| .nil _)) fun x8 =>
 Sim.op1 (h_faC (o_t rfl)) <|
 Sim.opn (h_ldC (t := T_api_Conf) (u := T.u32) (o_t rfl) rfl rfl F_api_Conf_Mark rfl rfl) fun x9 =>
 Sim.op (h_cvi (I := IT.u32) (J := IT.u64) rfl (o_t rfl)) fun x10 =>
 Sim.op (h_bld rfl rfl (.cons F_api_Field_Word rfl o_i <| .cons F_api_Field_N rfl (o_t rfl) <| .nil _)) fun x11 =>
 Sim.opM (M_bls (t := T_api_Field) (n := 3) 1021 rfl rfl (.cons rfl (o_t rfl) <| .cons rfl (o_t rfl) <| .cons rfl (o_t rfl) <| .nil _) rfl) fun x12 =>
 Sim.op1 (h_mv (o_t rfl)) <|
 Sim.doneS <| Sim.seqI <| Sim.seqI <| Sim.op1 (h_faC (o_t rfl)) <|
 Sim.opn (h_ldC (t := T_api_Conf) (u := (T.sl T_api_Peer)) (o_t rfl) rfl rfl F_api_Conf_Peers rfl rfl) fun x13 =>
 Sim.op (h_len (o_t rfl)) fun x14 =>
 Sim.op1 (h_mv o_i) <|
 Sim.doneS <| Sim.blkI <| Sim.loop (id := 0) (σ := (Int × (GS S_api_Field))) (τ := (GS S_api_Field)) (fun s15 => ⟨[(4, .own 1021), (23, .val (T.sl T_api_Peer) x13), (24, .val (T.int .i64) x14), (25, .val (T.int .i64) s15.1)], [(1021, .row T_api_Field s15.2)]⟩) (fun p16 => ⟨[(4, .own 1021)], [(1021, .row T_api_Field p16)]⟩) (0, (.mk x12)) ⟨⟨⟨rfl, trivial⟩, ⟨⟨rfl, trivial⟩, ⟨⟨rfl, trivial⟩, ⟨⟨rfl, trivial⟩, trivial⟩⟩⟩⟩, ⟨⟨rfl, trivial⟩, trivial⟩⟩ (fun _ => rfl) (fun s15 =>
 Sim.seqI <| Sim.op (h_cmp (I := (IT.int .i64)) rfl (o_t rfl) (o_t rfl)) fun x17 =>
 Sim.doneS <| Sim.seqI <| Sim.cond (o_t rfl) (
 Sim.skip <| Sim.doneS <| Sim.seqI <| Sim.blkI <| Sim.seqI <| Sim.op (h_ias rfl (o_t rfl) (o_t rfl)) fun x18 =>
 Sim.opn (h_ld rfl rfl (o_t rfl)) fun x19 =>
 Sim.opM (M_alloc (t := T_api_Peer) 6 rfl rfl) fun x20 =>
 Sim.opM (M_stC (o_t rfl) (o_t rfl) rfl rfl (Fld.id _) rfl) fun x21 =>
 Sim.doneS <| Sim.op1 (h_mv (o_t rfl)) <|
 Sim.opn (h_ldC (t := T_api_Peer) (u := T_api_Peer) (o_t rfl) rfl rfl (Fld.id _) rfl rfl) fun x22 =>
 Sim.op (h_call1 sp_getres_peer (.one (o_t rfl))) fun x23 =>
 Sim.opM (M_app rfl (o_t rfl) rfl (n_sl (o_t rfl))) fun x24 =>
 Sim.op1 (h_mv (o_t rfl)) <|
 Sim.doneB <| Sim.doneS <| Sim.op (h_add (I := (IT.int .i64)) (o_t rfl) o_i) fun x25 =>
 Sim.op1 (h_mv (o_t rfl)) <|
 Sim.next (x25, x24) ⟨⟨⟨rfl, trivial⟩, ⟨⟨rfl, trivial⟩, ⟨⟨rfl, trivial⟩, ⟨⟨rfl, trivial⟩, trivial⟩⟩⟩⟩, ⟨⟨rfl, trivial⟩, trivial⟩⟩) (
 Sim.exitS <| Sim.out s15.2 ⟨⟨⟨rfl, trivial⟩, trivial⟩, ⟨⟨rfl, trivial⟩, trivial⟩⟩)) (fun p16 =>
 Sim.exitB <| Sim.doneS <| Sim.seqI <| Sim.op1 (h_mv (o_t rfl)) <|
 Sim.op (h_bld rfl rfl (.cons F_api_Field_Word rfl o_i <| .nil _)) fun x26 =>
 Sim.op (h_bll (t := T_api_Field) (n := 1) rfl rfl (.cons rfl (o_t rfl) <| .nil _)) fun x27 =>
 Sim.opM (M_app rfl (o_t rfl) rfl (n_sl (o_t rfl))) fun x28 =>
 Sim.frzRow 1021 rfl rfl <| Sim.op (h_call1 sp_getres_pairs (.one (o_t rfl))) fun x29 =>
 Sim.op (h_callN sp_pairline_Block (.one (o_t rfl))) fun x30 =>
 Sim.opn (h_ext (o_t rfl) rfl) fun x31 =>
 Sim.opn (h_ext (o_t rfl) rfl) fun x32 =>
 Sim.op1 (h_mv (o_t rfl)) <|
 Sim.op1 (h_mv (o_t rfl)) <|
 Sim.doneS <| Sim.ret (.cons (res_t rfl) <| .one (res_t rfl))))
theorem sp_getres_Text : Spec tb fn_getres_Text [T_api_Conf] [T.str, (T.int .i64)] (fun a => getres_Text a) :=
  Spec.of f_getres_Text rfl rfl rfl sim_getres_Text

noncomputable def r06_Parts (a0 : Str) (a1 : UInt8) : Option (GS Str) :=
 (iter (fun (s1 : (Int × Int × (GS Str))) =>
 if (decide (s1.2.1 < (a0.length : Int))) = true then
 (idx a0 s1.2.1).bind fun x5 =>
 if (decide ((x5.toNat : Int) = (a1.toNat : Int))) = true then
 (subL a0 (some s1.1) (some s1.2.1)).bind fun x7 =>
 (apG 16 s1.2.2 [x7]).bind fun x9 =>
 some (.inl (IntKind.i64.wrap (s1.2.1 + 1), IntKind.i64.wrap (s1.2.1 + 1), x9))
 else
 some (.inl (s1.1, IntKind.i64.wrap (s1.2.1 + 1), s1.2.2))
 else
 some (.inr (.inl (s1.1, s1.2.2)))) (0, 0, .nil)).bind (Sum.elim (fun (p2 : (Int × (GS Str))) =>
 (subL a0 (some p2.1) none).bind fun x13 =>
 (apG 16 p2.2 [x13]).bind fun x15 =>
 some x15) some)
noncomputable def sim_r06_Parts (a : Res [T.str, T.u8]) : Sim tb ⟨argsT [T.str, T.u8] 0 a, []⟩ c_r06_Parts.body [] (QRes [(T.sl T.str)] c_r06_Parts.res) :=
 Sim.seqI <| Sim.op1 (h_mv (o_nils (t := T.str))) <| Sim.turn (born (n := 4) (j := 1004) rfl rfl) <|
 Sim.doneS <| Sim.seqI <| Sim.op1 (h_mv o_i) <|
 Sim.doneS <| Sim.seqI <| Sim.op1 (h_mv (o_nils (t := T.str))) <| Sim.turn (born (n := 6) (j := 1006) rfl rfl) <|
 Sim.doneS <| Sim.seqI <| Sim.seqI <| Sim.op1 (h_mv o_i) <|
 Sim.doneS <| Sim.blkI <| Sim.loop (id := 0) (σ := (Int × Int × (GS Str))) (τ := (Int × (GS Str))) (fun s1 => ⟨[(0, .val T.str a.1), (1, .val T.u8 a.2), (5, .val (T.int .i64) s1.1), (6, .own 1006), (7, .val (T.int .i64) s1.2.1)], [(1006, .row T.str s1.2.2)]⟩) (fun p2 => ⟨[(0, .val T.str a.1), (5, .val (T.int .i64) p2.1), (6, .own 1006)], [(1006, .row T.str p2.2)]⟩) (0, 0, .nil) ⟨⟨⟨rfl, trivial⟩, ⟨⟨rfl, trivial⟩, ⟨⟨rfl, trivial⟩, ⟨⟨rfl, trivial⟩, ⟨⟨rfl, trivial⟩, trivial⟩⟩⟩⟩⟩, ⟨⟨rfl, trivial⟩, trivial⟩⟩ (fun _ => rfl) (fun s1 =>
 Sim.seqI <| Sim.seqI <| Sim.op1 (h_mv (o_t rfl)) <|
 Sim.op1 (h_mv (o_t rfl)) <|
 Sim.op (h_lens (o_t rfl)) fun x3 =>
 Sim.op (h_cmp (I := (IT.int .i64)) rfl (o_t rfl) (o_t rfl)) fun x4 =>
 Sim.doneS <| Sim.cond (o_t rfl) (
 Sim.skip <| Sim.doneS <| Sim.seqI <| Sim.blkI <| Sim.seqI <| Sim.op1 (h_mv (o_t rfl)) <|
 Sim.op1 (h_mv (o_t rfl)) <|
 Sim.op (h_ixs (o_t rfl) (o_t rfl)) fun x5 =>
 Sim.op1 (h_mv (o_t rfl)) <|
 Sim.op (h_cmp (I := IT.u8) rfl (o_t rfl) (o_t rfl)) fun x6 =>
 Sim.doneS <| Sim.cond (o_t rfl) (
 Sim.seqI <| Sim.op1 (h_mv (o_t rfl)) <|
 Sim.op1 (h_mv (o_t rfl)) <|
 Sim.op1 (h_mv (o_t rfl)) <|
 Sim.op1 (h_mv (o_t rfl)) <|
 Sim.op (h_sls (o_t rfl) (.some (o_t rfl)) (.some (o_t rfl))) fun x7 =>
 Sim.op (h_bll (t := T.str) (n := 1) rfl rfl (.cons rfl (o_t rfl) <| .nil _)) fun x8 =>
 Sim.opM (M_app rfl (o_t rfl) rfl (n_sl (o_t rfl))) fun x9 =>
 Sim.op1 (h_mv (o_t rfl)) <|
 Sim.doneS <| Sim.op1 (h_mv (o_t rfl)) <|
 Sim.op (h_add (I := (IT.int .i64)) (o_t rfl) o_i) fun x10 =>
 Sim.op1 (h_mv (o_t rfl)) <|
 Sim.doneB <| Sim.doneS <| Sim.op1 (h_mv (o_t rfl)) <|
 Sim.op (h_add (I := (IT.int .i64)) (o_t rfl) o_i) fun x11 =>
 Sim.op1 (h_mv (o_t rfl)) <|
 Sim.next (x10, x11, x9) ⟨⟨⟨rfl, trivial⟩, ⟨⟨rfl, trivial⟩, ⟨⟨rfl, trivial⟩, ⟨⟨rfl, trivial⟩, ⟨⟨rfl, trivial⟩, trivial⟩⟩⟩⟩⟩, ⟨⟨rfl, trivial⟩, trivial⟩⟩) (
 Sim.skip <| Sim.doneB <| Sim.doneS <| Sim.op1 (h_mv (o_t rfl)) <|
 Sim.op (h_add (I := (IT.int .i64)) (o_t rfl) o_i) fun x12 =>
 Sim.op1 (h_mv (o_t rfl)) <|
 Sim.next (s1.1, x12, s1.2.2) ⟨⟨⟨rfl, trivial⟩, ⟨⟨rfl, trivial⟩, ⟨⟨rfl, trivial⟩, ⟨⟨rfl, trivial⟩, ⟨⟨rfl, trivial⟩, trivial⟩⟩⟩⟩⟩, ⟨⟨rfl, trivial⟩, trivial⟩⟩)) (
 Sim.exitS <| Sim.out (s1.1, s1.2.2) ⟨⟨⟨rfl, trivial⟩, ⟨⟨rfl, trivial⟩, ⟨⟨rfl, trivial⟩, trivial⟩⟩⟩, ⟨⟨rfl, trivial⟩, trivial⟩⟩)) (fun p2 =>
 Sim.exitB <| Sim.doneS <| Sim.seqI <| Sim.op1 (h_mv (o_t rfl)) <|
 Sim.op1 (h_mv (o_t rfl)) <|
 Sim.op1 (h_mv (o_t rfl)) <|
 Sim.op (h_sls (o_t rfl) (.some (o_t rfl)) .none) fun x13 =>
 Sim.op (h_bll (t := T.str) (n := 1) rfl rfl (.cons rfl (o_t rfl) <| .nil _)) fun x14 =>
 Sim.opM (M_app rfl (o_t rfl) rfl (n_sl (o_t rfl))) fun x15 =>
 Sim.op1 (h_mv (o_t rfl)) <|
 Sim.doneS <| Sim.frzRow 1006 rfl rfl <| Sim.ret (.one (res_t rfl)))
theorem sp_r06_Parts : Spec tb fn_r06_Parts [T.str, T.u8] [(T.sl T.str)] (fun a => r06_Parts a.1 a.2) :=
  Spec.of f_r06_Parts rfl rfl rfl sim_r06_Parts

noncomputable def r06_Loose (a0 : Str) : Option (GS Str) :=
 (r06_Parts a0 (10 : UInt8)).bind fun x1 =>
 (idx x1.l (IntKind.i64.wrap ((x1.l.length : Int) - 1))).bind fun x4 =>
 if (decide (x4 = [])) = true then
 (slG x1 none (some (IntKind.i64.wrap ((x1.l.length : Int) - 1)))).bind fun x9 =>
 some x9
 else
 some x1
noncomputable def sim_r06_Loose (a : Res [T.str]) : Sim tb ⟨argsT [T.str] 0 a, []⟩ c_r06_Loose.body [] (QRes [(T.sl T.str)] c_r06_Loose.res) :=
 Sim.seqI <| Sim.op1 (h_mv (o_nils (t := T.str))) <|
 Sim.doneS <| Sim.seqI <| Sim.op1 (h_mv (o_t rfl)) <|
 Sim.op (h_call1 sp_r06_Parts (.cons (o_t rfl) <| .one (o_u8 10 rfl))) fun x1 =>
 Sim.op1 (h_mv (o_t rfl)) <|
 Sim.doneS <| Sim.seqI <| Sim.seqI <| Sim.op1 (h_mv (o_t rfl)) <|
 Sim.op1 (h_mv (o_t rfl)) <|
 Sim.op (h_len (o_t rfl)) fun x2 =>
 Sim.op (h_sub (I := (IT.int .i64)) (o_t rfl) o_i) fun x3 =>
 Sim.op (h_ias rfl (o_t rfl) (o_t rfl)) fun x4 =>
 Sim.opn (h_ld rfl rfl (o_t rfl)) fun x5 =>
 Sim.op (h_seql (o_t rfl) o_s) fun x6 =>
 Sim.doneS <| Sim.cond (o_t rfl) (
 Sim.seqI <| Sim.op1 (h_mv (o_t rfl)) <|
 Sim.op1 (h_mv (o_t rfl)) <|
 Sim.op (h_len (o_t rfl)) fun x7 =>
 Sim.op (h_sub (I := (IT.int .i64)) (o_t rfl) o_i) fun x8 =>
 Sim.op (h_sll rfl (o_t rfl) .none (.some (o_t rfl))) fun x9 =>
 Sim.op1 (h_mv (o_t rfl)) <|
 Sim.doneS <| Sim.ret (.one (res_t rfl))) (
 Sim.skip <| Sim.doneS <| Sim.seqI <| Sim.op1 (h_mv (o_t rfl)) <|
 Sim.op1 (h_mv (o_t rfl)) <|
 Sim.doneS <| Sim.ret (.one (res_t rfl)))
theorem sp_r06_Loose : Spec tb fn_r06_Loose [T.str] [(T.sl T.str)] (fun a => r06_Loose a) :=
  Spec.of f_r06_Loose rfl rfl rfl sim_r06_Loose

noncomputable def l39_alive (_ : Unit) : Option Bool :=
 (getres_Text (⟨(T.arr 32 T.u8).z, 0, 0, .nil⟩ : S_api_Conf)).bind fun x2 =>
 (andO (decide (x2.2 = 0)) ((r06_Loose x2.1).bind fun x6 =>
 some (decide ((x6.l.length : Int) = 5)))).bind fun x9 =>
 (andO x9 ((getres_Refusal 7).bind fun x10 =>
 let x11 := decide (x10 = [101, 114, 114, 110, 111, 61, 55, 10, 10])
 some x11)).bind fun x12 =>
 some x12
noncomputable def sim_l39_alive (a : Res []) : Sim tb ⟨argsT [] 0 a, []⟩ c_l39_alive.body [] (QRes [T.b] c_l39_alive.res) :=
 Sim.seqI <| Sim.op1 (h_mv o_b) <|
 Sim.doneS <| Sim.seqI <| Sim.op (h_bld rfl rfl (.nil _)) fun x1 =>
 Sim.op (h_callN sp_getres_Text (.one (o_t rfl))) fun x2 =>
 Sim.op1 (h_mv (o_t rfl)) <|
 Sim.opn (h_ext (o_t rfl) rfl) fun x3 =>
 Sim.opn (h_ext (o_t rfl) rfl) fun x4 =>
 Sim.op1 (h_mv (o_t rfl)) <|
 Sim.op1 (h_mv (o_t rfl)) <|
 Sim.doneS <| Sim.seqI <| Sim.op1 (h_mv (o_t rfl)) <|
 Sim.op (h_cmp (I := (IT.int .i64)) rfl (o_t rfl) o_i) fun x5 =>
 Sim.op1 (h_mv (o_t rfl)) <|
 Sim.and 4 rfl rfl rfl (Grp.op1 (h_mv (o_t rfl)) <|
 Grp.op (h_call1 sp_r06_Loose (.one (o_t rfl))) fun x6 =>
 Grp.op (h_len (o_t rfl)) fun x7 =>
 Grp.op (h_cmp (I := (IT.int .i64)) rfl (o_t rfl) o_i) fun x8 =>
 Grp.nil (o_t rfl)) fun x9 =>
 Sim.op1 (h_mv (o_t rfl)) <|
 Sim.and 2 rfl rfl rfl (Grp.op (h_call1 sp_getres_Refusal (.one o_i)) fun x10 =>
 Grp.op (h_seql (o_t rfl) o_s) fun x11 =>
 Grp.nil (o_t rfl)) fun x12 =>
 Sim.op1 (h_mv (o_t rfl)) <|
 Sim.doneS <| Sim.ret (.one (res_t rfl))
theorem sp_l39_alive : Spec tb fn_l39_alive [] [T.b] (fun a => l39_alive ()) :=
  Spec.of f_l39_alive rfl rfl rfl sim_l39_alive

noncomputable def l39_GetresRefuses (a0 : Int) : Option Bool :=
 (getres_Refusal a0).bind fun x1 =>
 (r39_Refusal a0).bind fun x2 =>
 (andO (decide (x1 = x2)) ((l39_alive ()).bind fun x4 =>
 some x4)).bind fun x5 =>
 some x5
noncomputable def sim_l39_GetresRefuses (a : Res [(T.int .i64)]) : Sim tb ⟨argsT [(T.int .i64)] 0 a, []⟩ c_l39_GetresRefuses.body [] (QRes [T.b] c_l39_GetresRefuses.res) :=
 Sim.seqI <| Sim.op1 (h_mv o_b) <|
 Sim.doneS <| Sim.seqI <| Sim.op1 (h_mv (o_t rfl)) <|
 Sim.op (h_call1 sp_getres_Refusal (.one (o_t rfl))) fun x1 =>
 Sim.op1 (h_mv (o_t rfl)) <|
 Sim.op (h_call1 sp_r39_Refusal (.one (o_t rfl))) fun x2 =>
 Sim.op (h_seql (o_t rfl) (o_t rfl)) fun x3 =>
 Sim.op1 (h_mv (o_t rfl)) <|
 Sim.and 1 rfl rfl rfl (Grp.op (h_call1 sp_l39_alive (.nil)) fun x4 =>
 Grp.nil (o_t rfl)) fun x5 =>
 Sim.op1 (h_mv (o_t rfl)) <|
 Sim.doneS <| Sim.ret (.one (res_t rfl))
theorem sp_l39_GetresRefuses : Spec tb fn_l39_GetresRefuses [(T.int .i64)] [T.b] (fun a => l39_GetresRefuses a) :=
  Spec.of f_l39_GetresRefuses rfl rfl rfl sim_l39_GetresRefuses

end Go.Proofs.YtobejhpigbllpaaGreatDoor.Am
