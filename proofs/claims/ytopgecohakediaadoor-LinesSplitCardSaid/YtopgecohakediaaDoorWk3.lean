/-
  What functions compute, and that they do. Printed by mkwalk.py.
-/
import Derived.Test.YtopgecohakediaaDoorWk2
set_option linter.unusedVariables false
set_option maxRecDepth 100000
namespace Go.Proofs.YtopgecohakediaaDoor.Am

noncomputable def strings_ContainsAny (a0 : Str) (a1 : Str) : Option Bool :=
 (strings_IndexAny a0 a1).bind fun x1 =>
 some (decide (0 ≤ x1))
noncomputable def sim_strings_ContainsAny (a : Res [T.str, T.str]) : Sim tb ⟨argsT [T.str, T.str] 0 a, []⟩ c_strings_ContainsAny.body [] (QRes [T.b] c_strings_ContainsAny.res) :=
 Sim.seqI <| Sim.op1 (h_mv o_b) <|
 Sim.doneS <| Sim.seqI <| Sim.op1 (h_mv (o_t rfl)) <|
 Sim.op1 (h_mv (o_t rfl)) <|
 Sim.op (h_call1 sp_strings_IndexAny (.cons (o_t rfl) <| .one (o_t rfl))) fun x1 =>
 Sim.op (h_cmp (I := (IT.int .i64)) rfl (o_t rfl) o_i) fun x2 =>
 Sim.op1 (h_mv (o_t rfl)) <|
 Sim.doneS <| Sim.ret (.one (res_t rfl))
theorem sp_strings_ContainsAny : Spec tb fn_strings_ContainsAny [T.str, T.str] [T.b] (fun a => strings_ContainsAny a.1 a.2) :=
  Spec.of f_strings_ContainsAny rfl rfl rfl sim_strings_ContainsAny

noncomputable def pairline_Text (a0 : S_pairline_Pair) : Option (Str × Int) :=
 (orO (decide (a0.Key = [])) ((strings_ContainsAny a0.Key [61, 10]).bind fun x4 =>
 some x4)).bind fun x5 =>
 (orO x5 ((strings_Contains a0.Value [10]).bind fun x7 =>
 some x7)).bind fun x8 =>
 if x8 = true then
 some ([], 5)
 else
 (if a0.Key.length + [61].length ≤ 2 * most then some (a0.Key ++ [61]) else none).bind fun x10 =>
 (if x10.length + a0.Value.length ≤ 2 * most then some (x10 ++ a0.Value) else none).bind fun x12 =>
 if (decide (512 < (x12.length : Int))) = true then
 some ([], 4)
 else
 some (x12, 0)
noncomputable def sim_pairline_Text (a : Res [T_pairline_Pair]) : Sim tb ⟨argsT [T_pairline_Pair] 0 a, []⟩ c_pairline_Text.body [] (QRes [T.str, (T.int .i64)] c_pairline_Text.res) :=
 Sim.seqI <| Sim.opM (M_box (t := T_pairline_Pair) 1 rfl rfl (o_t rfl)) fun _ =>
 Sim.op1 (h_mv o_s) <|
 Sim.op1 (h_mv o_i) <|
 Sim.doneS <| Sim.seqI <| Sim.seqI <| Sim.op1 (h_faC (o_t rfl)) <|
 Sim.opn (h_ldC (t := T_pairline_Pair) (u := T.str) (o_t rfl) rfl rfl F_pairline_Pair_Key rfl rfl) fun x1 =>
 Sim.op (h_seql (o_t rfl) o_s) fun x2 =>
 Sim.op1 (h_mv (o_t rfl)) <|
 Sim.or 3 rfl rfl rfl (Grp.op1 (h_faC (o_t rfl)) <|
 Grp.opn (h_ldC (t := T_pairline_Pair) (u := T.str) (o_t rfl) rfl rfl F_pairline_Pair_Key rfl rfl) fun x3 =>
 Grp.op (h_call1 sp_strings_ContainsAny (.cons (o_t rfl) <| .one o_s)) fun x4 =>
 Grp.nil (o_t rfl)) fun x5 =>
 Sim.op1 (h_mv (o_t rfl)) <|
 Sim.or 3 rfl rfl rfl (Grp.op1 (h_faC (o_t rfl)) <|
 Grp.opn (h_ldC (t := T_pairline_Pair) (u := T.str) (o_t rfl) rfl rfl F_pairline_Pair_Value rfl rfl) fun x6 =>
 Grp.op (h_call1 sp_strings_Contains (.cons (o_t rfl) <| .one o_s)) fun x7 =>
 Grp.nil (o_t rfl)) fun x8 =>
 Sim.doneS <| Sim.cond (o_t rfl) (
 Sim.seqI <| Sim.op1 (h_mv o_s) <|
 Sim.op1 (h_mv o_i) <|
 Sim.doneS <| Sim.ret (.cons (res_t rfl) <| .one (res_t rfl))) (
 Sim.skip <| Sim.doneS <| Sim.seqI <| Sim.op1 (h_faC (o_t rfl)) <|
 Sim.opn (h_ldC (t := T_pairline_Pair) (u := T.str) (o_t rfl) rfl rfl F_pairline_Pair_Key rfl rfl) fun x9 =>
 Sim.op (h_sadd (o_t rfl) o_s) fun x10 =>
 Sim.op1 (h_faC (o_t rfl)) <|
 Sim.opn (h_ldC (t := T_pairline_Pair) (u := T.str) (o_t rfl) rfl rfl F_pairline_Pair_Value rfl rfl) fun x11 =>
 Sim.op (h_sadd (o_t rfl) (o_t rfl)) fun x12 =>
 Sim.op1 (h_mv (o_t rfl)) <|
 Sim.doneS <| Sim.seqI <| Sim.seqI <| Sim.op1 (h_mv (o_t rfl)) <|
 Sim.op (h_lens (o_t rfl)) fun x13 =>
 Sim.op (h_cmp (I := (IT.int .i64)) rfl (o_t rfl) o_i) fun x14 =>
 Sim.doneS <| Sim.cond (o_t rfl) (
 Sim.seqI <| Sim.op1 (h_mv o_s) <|
 Sim.op1 (h_mv o_i) <|
 Sim.doneS <| Sim.ret (.cons (res_t rfl) <| .one (res_t rfl))) (
 Sim.skip <| Sim.doneS <| Sim.seqI <| Sim.op1 (h_mv (o_t rfl)) <|
 Sim.op1 (h_mv (o_t rfl)) <|
 Sim.op1 (h_mv o_i) <|
 Sim.doneS <| Sim.ret (.cons (res_t rfl) <| .one (res_t rfl))))
theorem sp_pairline_Text : Spec tb fn_pairline_Text [T_pairline_Pair] [T.str, (T.int .i64)] (fun a => pairline_Text a) :=
  Spec.of f_pairline_Text rfl rfl rfl sim_pairline_Text

noncomputable def pairline_Block (a0 : (GS S_pairline_Pair)) : Option (Str × Int) :=
 if (decide (400 < (a0.l.length : Int))) = true then
 some ([], 4)
 else
 (iter (fun (s4 : (Int × (GS Str))) =>
 if (decide (s4.1 < (a0.l.length : Int))) = true then
 (idx a0.l s4.1).bind fun x7 =>
 (pairline_Text x7).bind fun x12 =>
 if (!decide (x12.2 = 0)) = true then
 (some ([], x12.2)).map fun r => .inr (.inr r)
 else
 (apG 16 s4.2 [x12.1]).bind fun x17 =>
 some (.inl (IntKind.i64.wrap (s4.1 + 1), x17))
 else
 some (.inr (.inl s4.2))) (0, .nil)).bind (Sum.elim (fun (p5 : (GS Str)) =>
 (apG 16 p5 [[]]).bind fun x20 =>
 (lines_Join x20).bind fun x21 =>
 some (x21, 0)) some)
noncomputable def sim_pairline_Block (a : Res [(T.sl T_pairline_Pair)]) : Sim tb ⟨argsT [(T.sl T_pairline_Pair)] 0 a, []⟩ c_pairline_Block.body [] (QRes [T.str, (T.int .i64)] c_pairline_Block.res) :=
 Sim.seqI <| Sim.op1 (h_mv o_s) <|
 Sim.op1 (h_mv o_i) <|
 Sim.doneS <| Sim.seqI <| Sim.seqI <| Sim.op1 (h_mv (o_t rfl)) <|
 Sim.op (h_len (o_t rfl)) fun x1 =>
 Sim.op (h_cmp (I := (IT.int .i64)) rfl (o_t rfl) o_i) fun x2 =>
 Sim.doneS <| Sim.cond (o_t rfl) (
 Sim.seqI <| Sim.op1 (h_mv o_s) <|
 Sim.op1 (h_mv o_i) <|
 Sim.doneS <| Sim.ret (.cons (res_t rfl) <| .one (res_t rfl))) (
 Sim.skip <| Sim.doneS <| Sim.seqI <| Sim.op1 (h_mv (o_nils (t := T.str))) <| Sim.turn (born (n := 4) (j := 1004) rfl rfl) <|
 Sim.doneS <| Sim.seqI <| Sim.seqI <| Sim.op1 (h_mv (o_t rfl)) <|
 Sim.op (h_len (o_t rfl)) fun x3 =>
 Sim.op1 (h_mv o_i) <|
 Sim.doneS <| Sim.blkI <| Sim.loop (id := 0) (σ := (Int × (GS Str))) (τ := (GS Str)) (fun s4 => ⟨[(4, .own 1004), (12, .val (T.sl T_pairline_Pair) a), (13, .val (T.int .i64) x3), (14, .val (T.int .i64) s4.1)], [(1004, .row T.str s4.2)]⟩) (fun p5 => ⟨[(4, .own 1004)], [(1004, .row T.str p5)]⟩) (0, .nil) ⟨⟨⟨rfl, trivial⟩, ⟨⟨rfl, trivial⟩, ⟨⟨rfl, trivial⟩, ⟨⟨rfl, trivial⟩, trivial⟩⟩⟩⟩, ⟨⟨rfl, trivial⟩, trivial⟩⟩ (fun _ => rfl) (fun s4 =>
 Sim.seqI <| Sim.op (h_cmp (I := (IT.int .i64)) rfl (o_t rfl) (o_t rfl)) fun x6 =>
 Sim.doneS <| Sim.seqI <| Sim.cond (o_t rfl) (
 Sim.skip <| Sim.doneS <| Sim.seqI <| Sim.blkI <| Sim.seqI <| Sim.op (h_ias rfl (o_t rfl) (o_t rfl)) fun x7 =>
 Sim.opn (h_ld rfl rfl (o_t rfl)) fun x8 =>
 Sim.opM (M_alloc (t := T_pairline_Pair) 6 rfl rfl) fun x9 =>
 Sim.opM (M_stC (o_t rfl) (o_t rfl) rfl rfl (Fld.id _) rfl) fun x10 =>
 Sim.doneS <| Sim.seqI <| Sim.opn (h_ldC (t := T_pairline_Pair) (u := T_pairline_Pair) (o_t rfl) rfl rfl (Fld.id _) rfl rfl) fun x11 =>
 Sim.op (h_callN sp_pairline_Text (.one (o_t rfl))) fun x12 =>
 Sim.op1 (h_mv (o_t rfl)) <|
 Sim.opn (h_ext (o_t rfl) rfl) fun x13 =>
 Sim.opn (h_ext (o_t rfl) rfl) fun x14 =>
 Sim.op1 (h_mv (o_t rfl)) <|
 Sim.op1 (h_mv (o_t rfl)) <|
 Sim.doneS <| Sim.seqI <| Sim.seqI <| Sim.op1 (h_mv (o_t rfl)) <|
 Sim.op (h_cmp (I := (IT.int .i64)) rfl (o_t rfl) o_i) fun x15 =>
 Sim.doneS <| Sim.cond (o_t rfl) (
 Sim.seqI <| Sim.op1 (h_mv (o_t rfl)) <|
 Sim.op1 (h_mv o_s) <|
 Sim.op1 (h_mv (o_t rfl)) <|
 Sim.doneS <| Sim.outRet <| Sim.ret (.cons (res_t rfl) <| .one (res_t rfl))) (
 Sim.skip <| Sim.doneS <| Sim.op1 (h_mv (o_t rfl)) <|
 Sim.op1 (h_mv (o_t rfl)) <|
 Sim.op (h_bll (t := T.str) (n := 1) rfl rfl (.cons rfl (o_t rfl) <| .nil _)) fun x16 =>
 Sim.opM (M_app rfl (o_t rfl) rfl (n_sl (o_t rfl))) fun x17 =>
 Sim.op1 (h_mv (o_t rfl)) <|
 Sim.doneB <| Sim.doneS <| Sim.op (h_add (I := (IT.int .i64)) (o_t rfl) o_i) fun x18 =>
 Sim.op1 (h_mv (o_t rfl)) <|
 Sim.next (x18, x17) ⟨⟨⟨rfl, trivial⟩, ⟨⟨rfl, trivial⟩, ⟨⟨rfl, trivial⟩, ⟨⟨rfl, trivial⟩, trivial⟩⟩⟩⟩, ⟨⟨rfl, trivial⟩, trivial⟩⟩)) (
 Sim.exitS <| Sim.out s4.2 ⟨⟨⟨rfl, trivial⟩, trivial⟩, ⟨⟨rfl, trivial⟩, trivial⟩⟩)) (fun p5 =>
 Sim.exitB <| Sim.doneS <| Sim.seqI <| Sim.op1 (h_mv (o_t rfl)) <|
 Sim.op (h_bll (t := T.str) (n := 1) rfl rfl (.cons rfl o_s <| .nil _)) fun x19 =>
 Sim.opM (M_app rfl (o_t rfl) rfl (n_sl (o_t rfl))) fun x20 =>
 Sim.frzRow 1004 rfl rfl <| Sim.op (h_call1 sp_lines_Join (.one (o_t rfl))) fun x21 =>
 Sim.op1 (h_mv (o_t rfl)) <|
 Sim.op1 (h_mv o_i) <|
 Sim.doneS <| Sim.ret (.cons (res_t rfl) <| .one (res_t rfl))))
theorem sp_pairline_Block : Spec tb fn_pairline_Block [(T.sl T_pairline_Pair)] [T.str, (T.int .i64)] (fun a => pairline_Block a) :=
  Spec.of f_pairline_Block rfl rfl rfl sim_pairline_Block

noncomputable def r36_has (a0 : Str) (a1 : UInt8) : Option Bool :=
 (r06_Parts a0 a1).bind fun x1 =>
 some (decide (1 < (x1.l.length : Int)))
noncomputable def sim_r36_has (a : Res [T.str, T.u8]) : Sim tb ⟨argsT [T.str, T.u8] 0 a, []⟩ c_r36_has.body [] (QRes [T.b] c_r36_has.res) :=
 Sim.seqI <| Sim.op1 (h_mv o_b) <|
 Sim.doneS <| Sim.seqI <| Sim.op1 (h_mv (o_t rfl)) <|
 Sim.op1 (h_mv (o_t rfl)) <|
 Sim.op (h_call1 sp_r06_Parts (.cons (o_t rfl) <| .one (o_t rfl))) fun x1 =>
 Sim.op (h_len (o_t rfl)) fun x2 =>
 Sim.op (h_cmp (I := (IT.int .i64)) rfl (o_t rfl) o_i) fun x3 =>
 Sim.op1 (h_mv (o_t rfl)) <|
 Sim.doneS <| Sim.ret (.one (res_t rfl))
theorem sp_r36_has : Spec tb fn_r36_has [T.str, T.u8] [T.b] (fun a => r36_has a.1 a.2) :=
  Spec.of f_r36_has rfl rfl rfl sim_r36_has

noncomputable def r36_Text (a0 : S_r36_Pair) : Option (Str × Int) :=
 (orO (decide (a0.Key = [])) ((r36_has a0.Key (61 : UInt8)).bind fun x4 =>
 some x4)).bind fun x5 =>
 (orO x5 ((r36_has a0.Key (10 : UInt8)).bind fun x7 =>
 some x7)).bind fun x8 =>
 (orO x8 ((r36_has a0.Value (10 : UInt8)).bind fun x10 =>
 some x10)).bind fun x11 =>
 if x11 = true then
 some ([], 5)
 else
 (if a0.Key.length + [61].length ≤ 2 * most then some (a0.Key ++ [61]) else none).bind fun x13 =>
 (if x13.length + a0.Value.length ≤ 2 * most then some (x13 ++ a0.Value) else none).bind fun x15 =>
 if (decide (512 < (x15.length : Int))) = true then
 some ([], 4)
 else
 some (x15, 0)
noncomputable def sim_r36_Text (a : Res [T_r36_Pair]) : Sim tb ⟨argsT [T_r36_Pair] 0 a, []⟩ c_r36_Text.body [] (QRes [T.str, (T.int .i64)] c_r36_Text.res) :=
 Sim.seqI <| Sim.opM (M_box (t := T_r36_Pair) 1 rfl rfl (o_t rfl)) fun _ =>
 Sim.op1 (h_mv o_s) <|
 Sim.op1 (h_mv o_i) <|
 Sim.doneS <| Sim.seqI <| Sim.seqI <| Sim.op1 (h_faC (o_t rfl)) <|
 Sim.opn (h_ldC (t := T_r36_Pair) (u := T.str) (o_t rfl) rfl rfl F_r36_Pair_Key rfl rfl) fun x1 =>
 Sim.op (h_seql (o_t rfl) o_s) fun x2 =>
 Sim.op1 (h_mv (o_t rfl)) <|
 Sim.or 3 rfl rfl rfl (Grp.op1 (h_faC (o_t rfl)) <|
 Grp.opn (h_ldC (t := T_r36_Pair) (u := T.str) (o_t rfl) rfl rfl F_r36_Pair_Key rfl rfl) fun x3 =>
 Grp.op (h_call1 sp_r36_has (.cons (o_t rfl) <| .one (o_u8 61 rfl))) fun x4 =>
 Grp.nil (o_t rfl)) fun x5 =>
 Sim.op1 (h_mv (o_t rfl)) <|
 Sim.or 3 rfl rfl rfl (Grp.op1 (h_faC (o_t rfl)) <|
 Grp.opn (h_ldC (t := T_r36_Pair) (u := T.str) (o_t rfl) rfl rfl F_r36_Pair_Key rfl rfl) fun x6 =>
 Grp.op (h_call1 sp_r36_has (.cons (o_t rfl) <| .one (o_u8 10 rfl))) fun x7 =>
 Grp.nil (o_t rfl)) fun x8 =>
 Sim.op1 (h_mv (o_t rfl)) <|
 Sim.or 3 rfl rfl rfl (Grp.op1 (h_faC (o_t rfl)) <|
 Grp.opn (h_ldC (t := T_r36_Pair) (u := T.str) (o_t rfl) rfl rfl F_r36_Pair_Value rfl rfl) fun x9 =>
 Grp.op (h_call1 sp_r36_has (.cons (o_t rfl) <| .one (o_u8 10 rfl))) fun x10 =>
 Grp.nil (o_t rfl)) fun x11 =>
 Sim.doneS <| Sim.cond (o_t rfl) (
 Sim.seqI <| Sim.op1 (h_mv o_s) <|
 Sim.op1 (h_mv o_i) <|
 Sim.doneS <| Sim.ret (.cons (res_t rfl) <| .one (res_t rfl))) (
 Sim.skip <| Sim.doneS <| Sim.seqI <| Sim.op1 (h_faC (o_t rfl)) <|
 Sim.opn (h_ldC (t := T_r36_Pair) (u := T.str) (o_t rfl) rfl rfl F_r36_Pair_Key rfl rfl) fun x12 =>
 Sim.op (h_sadd (o_t rfl) o_s) fun x13 =>
 Sim.op1 (h_faC (o_t rfl)) <|
 Sim.opn (h_ldC (t := T_r36_Pair) (u := T.str) (o_t rfl) rfl rfl F_r36_Pair_Value rfl rfl) fun x14 =>
 Sim.op (h_sadd (o_t rfl) (o_t rfl)) fun x15 =>
 Sim.op1 (h_mv (o_t rfl)) <|
 Sim.doneS <| Sim.seqI <| Sim.seqI <| Sim.op1 (h_mv (o_t rfl)) <|
 Sim.op (h_lens (o_t rfl)) fun x16 =>
 Sim.op (h_cmp (I := (IT.int .i64)) rfl (o_t rfl) o_i) fun x17 =>
 Sim.doneS <| Sim.cond (o_t rfl) (
 Sim.seqI <| Sim.op1 (h_mv o_s) <|
 Sim.op1 (h_mv o_i) <|
 Sim.doneS <| Sim.ret (.cons (res_t rfl) <| .one (res_t rfl))) (
 Sim.skip <| Sim.doneS <| Sim.seqI <| Sim.op1 (h_mv (o_t rfl)) <|
 Sim.op1 (h_mv (o_t rfl)) <|
 Sim.op1 (h_mv o_i) <|
 Sim.doneS <| Sim.ret (.cons (res_t rfl) <| .one (res_t rfl))))
theorem sp_r36_Text : Spec tb fn_r36_Text [T_r36_Pair] [T.str, (T.int .i64)] (fun a => r36_Text a) :=
  Spec.of f_r36_Text rfl rfl rfl sim_r36_Text

noncomputable def r36_Block (a0 : (GS S_r36_Pair)) : Option (Str × Int) :=
 if (decide (400 < (a0.l.length : Int))) = true then
 some ([], 4)
 else
 (iter (fun (s3 : (Str × Int)) =>
 if (decide (s3.2 < (a0.l.length : Int))) = true then
 (idx a0.l s3.2).bind fun x7 =>
 (r36_Text x7).bind fun x9 =>
 if (!decide (x9.2 = 0)) = true then
 (some ([], x9.2)).map fun r => .inr (.inr r)
 else
 (if s3.1.length + x9.1.length ≤ 2 * most then some (s3.1 ++ x9.1) else none).bind fun x13 =>
 (if x13.length + [10].length ≤ 2 * most then some (x13 ++ [10]) else none).bind fun x14 =>
 some (.inl (x14, IntKind.i64.wrap (s3.2 + 1)))
 else
 some (.inr (.inl s3.1))) ([], 0)).bind (Sum.elim (fun (p4 : Str) =>
 (if p4.length + [10].length ≤ 2 * most then some (p4 ++ [10]) else none).bind fun x16 =>
 some (x16, 0)) some)
noncomputable def sim_r36_Block (a : Res [(T.sl T_r36_Pair)]) : Sim tb ⟨argsT [(T.sl T_r36_Pair)] 0 a, []⟩ c_r36_Block.body [] (QRes [T.str, (T.int .i64)] c_r36_Block.res) :=
 Sim.seqI <| Sim.op1 (h_mv o_s) <|
 Sim.op1 (h_mv o_i) <|
 Sim.doneS <| Sim.seqI <| Sim.seqI <| Sim.op1 (h_mv (o_t rfl)) <|
 Sim.op (h_len (o_t rfl)) fun x1 =>
 Sim.op (h_cmp (I := (IT.int .i64)) rfl (o_t rfl) o_i) fun x2 =>
 Sim.doneS <| Sim.cond (o_t rfl) (
 Sim.seqI <| Sim.op1 (h_mv o_s) <|
 Sim.op1 (h_mv o_i) <|
 Sim.doneS <| Sim.ret (.cons (res_t rfl) <| .one (res_t rfl))) (
 Sim.skip <| Sim.doneS <| Sim.seqI <| Sim.op1 (h_mv o_s) <|
 Sim.doneS <| Sim.seqI <| Sim.seqI <| Sim.op1 (h_mv o_i) <|
 Sim.doneS <| Sim.blkI <| Sim.loop (id := 0) (σ := (Str × Int)) (τ := Str) (fun s3 => ⟨[(0, .val (T.sl T_r36_Pair) a), (4, .val T.str s3.1), (5, .val (T.int .i64) s3.2)], []⟩) (fun p4 => ⟨[(4, .val T.str p4)], []⟩) ([], 0) ⟨⟨⟨rfl, trivial⟩, ⟨⟨rfl, trivial⟩, ⟨⟨rfl, trivial⟩, trivial⟩⟩⟩, trivial⟩ (fun _ => rfl) (fun s3 =>
 Sim.seqI <| Sim.seqI <| Sim.op1 (h_mv (o_t rfl)) <|
 Sim.op1 (h_mv (o_t rfl)) <|
 Sim.op (h_len (o_t rfl)) fun x5 =>
 Sim.op (h_cmp (I := (IT.int .i64)) rfl (o_t rfl) (o_t rfl)) fun x6 =>
 Sim.doneS <| Sim.cond (o_t rfl) (
 Sim.skip <| Sim.doneS <| Sim.seqI <| Sim.blkI <| Sim.seqI <| Sim.op1 (h_mv (o_t rfl)) <|
 Sim.op1 (h_mv (o_t rfl)) <|
 Sim.op (h_ias rfl (o_t rfl) (o_t rfl)) fun x7 =>
 Sim.opn (h_ld rfl rfl (o_t rfl)) fun x8 =>
 Sim.op (h_callN sp_r36_Text (.one (o_t rfl))) fun x9 =>
 Sim.op1 (h_mv (o_t rfl)) <|
 Sim.opn (h_ext (o_t rfl) rfl) fun x10 =>
 Sim.opn (h_ext (o_t rfl) rfl) fun x11 =>
 Sim.op1 (h_mv (o_t rfl)) <|
 Sim.op1 (h_mv (o_t rfl)) <|
 Sim.doneS <| Sim.seqI <| Sim.seqI <| Sim.op1 (h_mv (o_t rfl)) <|
 Sim.op (h_cmp (I := (IT.int .i64)) rfl (o_t rfl) o_i) fun x12 =>
 Sim.doneS <| Sim.cond (o_t rfl) (
 Sim.seqI <| Sim.op1 (h_mv (o_t rfl)) <|
 Sim.op1 (h_mv o_s) <|
 Sim.op1 (h_mv (o_t rfl)) <|
 Sim.doneS <| Sim.outRet <| Sim.ret (.cons (res_t rfl) <| .one (res_t rfl))) (
 Sim.skip <| Sim.doneS <| Sim.op1 (h_mv (o_t rfl)) <|
 Sim.op1 (h_mv (o_t rfl)) <|
 Sim.op (h_sadd (o_t rfl) (o_t rfl)) fun x13 =>
 Sim.op (h_sadd (o_t rfl) o_s) fun x14 =>
 Sim.op1 (h_mv (o_t rfl)) <|
 Sim.doneB <| Sim.doneS <| Sim.op1 (h_mv (o_t rfl)) <|
 Sim.op (h_add (I := (IT.int .i64)) (o_t rfl) o_i) fun x15 =>
 Sim.op1 (h_mv (o_t rfl)) <|
 Sim.next (x14, x15) ⟨⟨⟨rfl, trivial⟩, ⟨⟨rfl, trivial⟩, ⟨⟨rfl, trivial⟩, trivial⟩⟩⟩, trivial⟩)) (
 Sim.exitS <| Sim.out s3.1 ⟨⟨⟨rfl, trivial⟩, trivial⟩, trivial⟩)) (fun p4 =>
 Sim.exitB <| Sim.doneS <| Sim.seqI <| Sim.op1 (h_mv (o_t rfl)) <|
 Sim.op (h_sadd (o_t rfl) o_s) fun x16 =>
 Sim.op1 (h_mv (o_t rfl)) <|
 Sim.op1 (h_mv o_i) <|
 Sim.doneS <| Sim.ret (.cons (res_t rfl) <| .one (res_t rfl))))
theorem sp_r36_Block : Spec tb fn_r36_Block [(T.sl T_r36_Pair)] [T.str, (T.int .i64)] (fun a => r36_Block a) :=
  Spec.of f_r36_Block rfl rfl rfl sim_r36_Block

noncomputable def l36_alike (a0 : (GS S_pairline_Pair)) (a1 : (GS S_r36_Pair)) : Option Bool :=
 let x3 := !decide ((a0.l.length : Int) = (a1.l.length : Int))
 if x3 = true then
 some false
 else
 (iter (fun (s4 : Int) =>
 if (decide (s4 < (a0.l.length : Int))) = true then
 (idx a0.l s4).bind fun x8 =>
 (idx a1.l s4).bind fun x11 =>
 (orO (!decide (x8.Key = x11.Key)) ((idx a0.l s4).bind fun x15 =>
 (idx a1.l s4).bind fun x18 =>
 some (!decide (x15.Value = x18.Value)))).bind fun x22 =>
 if x22 = true then
 (some false).map fun r => .inr (.inr r)
 else
 some (.inl (IntKind.i64.wrap (s4 + 1)))
 else
 some (.inr (.inl ()))) 0).bind (Sum.elim (fun (p5 : Unit) =>
 some true) some)
noncomputable def sim_l36_alike (a : Res [(T.sl T_pairline_Pair), (T.sl T_r36_Pair)]) : Sim tb ⟨argsT [(T.sl T_pairline_Pair), (T.sl T_r36_Pair)] 0 a, []⟩ c_l36_alike.body [] (QRes [T.b] c_l36_alike.res) :=
 Sim.seqI <| Sim.op1 (h_mv o_b) <|
 Sim.doneS <| Sim.seqI <| Sim.seqI <| Sim.op1 (h_mv (o_t rfl)) <|
 Sim.op (h_len (o_t rfl)) fun x1 =>
 Sim.op1 (h_mv (o_t rfl)) <|
 Sim.op (h_len (o_t rfl)) fun x2 =>
 Sim.op (h_cmp (I := (IT.int .i64)) rfl (o_t rfl) (o_t rfl)) fun x3 =>
 Sim.doneS <| Sim.cond (o_t rfl) (
 Sim.seqI <| Sim.op1 (h_mv o_b) <|
 Sim.doneS <| Sim.ret (.one (res_t rfl))) (
 Sim.skip <| Sim.doneS <| Sim.seqI <| Sim.seqI <| Sim.op1 (h_mv o_i) <|
 Sim.doneS <| Sim.blkI <| Sim.loop (id := 0) (σ := Int) (τ := Unit) (fun s4 => ⟨[(0, .val (T.sl T_pairline_Pair) a.1), (1, .val (T.sl T_r36_Pair) a.2), (5, .val (T.int .i64) s4)], []⟩) (fun p5 => ⟨[], []⟩) 0 ⟨⟨⟨rfl, trivial⟩, ⟨⟨rfl, trivial⟩, ⟨⟨rfl, trivial⟩, trivial⟩⟩⟩, trivial⟩ (fun _ => rfl) (fun s4 =>
 Sim.seqI <| Sim.seqI <| Sim.op1 (h_mv (o_t rfl)) <|
 Sim.op1 (h_mv (o_t rfl)) <|
 Sim.op (h_len (o_t rfl)) fun x6 =>
 Sim.op (h_cmp (I := (IT.int .i64)) rfl (o_t rfl) (o_t rfl)) fun x7 =>
 Sim.doneS <| Sim.cond (o_t rfl) (
 Sim.skip <| Sim.doneS <| Sim.seqI <| Sim.blkI <| Sim.seqI <| Sim.op1 (h_mv (o_t rfl)) <|
 Sim.op1 (h_mv (o_t rfl)) <|
 Sim.op (h_ias rfl (o_t rfl) (o_t rfl)) fun x8 =>
 Sim.opr (h_fa F_pairline_Pair_Key (o_t rfl)) fun x9 =>
 Sim.opn (h_ld rfl rfl (o_t rfl)) fun x10 =>
 Sim.op1 (h_mv (o_t rfl)) <|
 Sim.op1 (h_mv (o_t rfl)) <|
 Sim.op (h_ias rfl (o_t rfl) (o_t rfl)) fun x11 =>
 Sim.opr (h_fa F_r36_Pair_Key (o_t rfl)) fun x12 =>
 Sim.opn (h_ld rfl rfl (o_t rfl)) fun x13 =>
 Sim.op (h_sneq (o_t rfl) (o_t rfl)) fun x14 =>
 Sim.op1 (h_mv (o_t rfl)) <|
 Sim.or 11 rfl rfl rfl (Grp.op1 (h_mv (o_t rfl)) <|
 Grp.op1 (h_mv (o_t rfl)) <|
 Grp.op (h_ias rfl (o_t rfl) (o_t rfl)) fun x15 =>
 Grp.opr (h_fa F_pairline_Pair_Value (o_t rfl)) fun x16 =>
 Grp.opn (h_ld rfl rfl (o_t rfl)) fun x17 =>
 Grp.op1 (h_mv (o_t rfl)) <|
 Grp.op1 (h_mv (o_t rfl)) <|
 Grp.op (h_ias rfl (o_t rfl) (o_t rfl)) fun x18 =>
 Grp.opr (h_fa F_r36_Pair_Value (o_t rfl)) fun x19 =>
 Grp.opn (h_ld rfl rfl (o_t rfl)) fun x20 =>
 Grp.op (h_sneq (o_t rfl) (o_t rfl)) fun x21 =>
 Grp.nil (o_t rfl)) fun x22 =>
 Sim.doneS <| Sim.cond (o_t rfl) (
 Sim.seqI <| Sim.op1 (h_mv o_b) <|
 Sim.doneS <| Sim.outRet <| Sim.ret (.one (res_t rfl))) (
 Sim.skip <| Sim.doneB <| Sim.doneS <| Sim.op1 (h_mv (o_t rfl)) <|
 Sim.op (h_add (I := (IT.int .i64)) (o_t rfl) o_i) fun x23 =>
 Sim.op1 (h_mv (o_t rfl)) <|
 Sim.next x23 ⟨⟨⟨rfl, trivial⟩, ⟨⟨rfl, trivial⟩, ⟨⟨rfl, trivial⟩, trivial⟩⟩⟩, trivial⟩)) (
 Sim.exitS <| Sim.out () ⟨trivial, trivial⟩)) (fun p5 =>
 Sim.exitB <| Sim.doneS <| Sim.seqI <| Sim.op1 (h_mv o_b) <|
 Sim.doneS <| Sim.ret (.one (res_t rfl))))
theorem sp_l36_alike : Spec tb fn_l36_alike [(T.sl T_pairline_Pair), (T.sl T_r36_Pair)] [T.b] (fun a => l36_alike a.1 a.2) :=
  Spec.of f_l36_alike rfl rfl rfl sim_l36_alike

noncomputable def l36_PairlineBlocks (a0 : (GS S_pairline_Pair)) : Option Bool :=
 if (decide (30 < (a0.l.length : Int))) = true then
 (l36_alive ()).bind fun x3 =>
 some x3
 else
 (iter (fun (s5 : (Int × (GS S_r36_Pair))) =>
 if (decide (s5.1 < (a0.l.length : Int))) = true then
 (idx a0.l s5.1).bind fun x8 =>
 (orO (decide (600 < (x8.Key.length : Int))) (some (decide (600 < (x8.Value.length : Int))))).bind fun x18 =>
 if x18 = true then
 (l36_alive ()).bind fun x19 =>
 (some x19).map fun r => .inr (.inr r)
 else
 (apG 32 s5.2 [(⟨x8.Key, x8.Value⟩ : S_r36_Pair)]).bind fun x24 =>
 some (.inl (IntKind.i64.wrap (s5.1 + 1), x24))
 else
 some (.inr (.inl s5.2))) (0, .nil)).bind (Sum.elim (fun (p6 : (GS S_r36_Pair)) =>
 (pairline_Block a0).bind fun x26 =>
 (r36_Block p6).bind fun x29 =>
 (orO (!decide (x26.1 = x29.1)) (some (!decide (x26.2 = x29.2)))).bind fun x34 =>
 if x34 = true then
 some false
 else
 if (!decide (x29.2 = 0)) = true then
 (l36_alive ()).bind fun x36 =>
 some x36
 else
 (pairline_Read x26.1).bind fun x37 =>
 (l36_alike x37.1 p6).bind fun x40 =>
 (andO x40 (some (decide (x37.2 = 0)))).bind fun x42 =>
 (andO x42 ((l36_alive ()).bind fun x43 =>
 some x43)).bind fun x44 =>
 some x44) some)
noncomputable def sim_l36_PairlineBlocks (a : Res [(T.sl T_pairline_Pair)]) : Sim tb ⟨argsT [(T.sl T_pairline_Pair)] 0 a, []⟩ c_l36_PairlineBlocks.body [] (QRes [T.b] c_l36_PairlineBlocks.res) :=
 Sim.seqI <| Sim.op1 (h_mv o_b) <|
 Sim.doneS <| Sim.seqI <| Sim.seqI <| Sim.op1 (h_mv (o_t rfl)) <|
 Sim.op (h_len (o_t rfl)) fun x1 =>
 Sim.op (h_cmp (I := (IT.int .i64)) rfl (o_t rfl) o_i) fun x2 =>
 Sim.doneS <| Sim.cond (o_t rfl) (
 Sim.seqI <| Sim.op (h_call1 sp_l36_alive (.nil)) fun x3 =>
 Sim.op1 (h_mv (o_t rfl)) <|
 Sim.doneS <| Sim.ret (.one (res_t rfl))) (
 Sim.skip <| Sim.doneS <| Sim.seqI <| Sim.op1 (h_mv (o_nils (t := T_r36_Pair))) <| Sim.turn (born (n := 3) (j := 1003) rfl rfl) <|
 Sim.doneS <| Sim.seqI <| Sim.seqI <| Sim.op1 (h_mv (o_t rfl)) <|
 Sim.op (h_len (o_t rfl)) fun x4 =>
 Sim.op1 (h_mv o_i) <|
 Sim.doneS <| Sim.blkI <| Sim.loop (id := 0) (σ := (Int × (GS S_r36_Pair))) (τ := (GS S_r36_Pair)) (fun s5 => ⟨[(0, .val (T.sl T_pairline_Pair) a), (3, .own 1003), (16, .val (T.sl T_pairline_Pair) a), (17, .val (T.int .i64) x4), (18, .val (T.int .i64) s5.1)], [(1003, .row T_r36_Pair s5.2)]⟩) (fun p6 => ⟨[(0, .val (T.sl T_pairline_Pair) a), (3, .own 1003)], [(1003, .row T_r36_Pair p6)]⟩) (0, .nil) ⟨⟨⟨rfl, trivial⟩, ⟨⟨rfl, trivial⟩, ⟨⟨rfl, trivial⟩, ⟨⟨rfl, trivial⟩, ⟨⟨rfl, trivial⟩, trivial⟩⟩⟩⟩⟩, ⟨⟨rfl, trivial⟩, trivial⟩⟩ (fun _ => rfl) (fun s5 =>
 Sim.seqI <| Sim.op (h_cmp (I := (IT.int .i64)) rfl (o_t rfl) (o_t rfl)) fun x7 =>
 Sim.doneS <| Sim.seqI <| Sim.cond (o_t rfl) (
 Sim.skip <| Sim.doneS <| Sim.seqI <| Sim.blkI <| Sim.seqI <| Sim.op (h_ias rfl (o_t rfl) (o_t rfl)) fun x8 =>
 Sim.opn (h_ld rfl rfl (o_t rfl)) fun x9 =>
 Sim.opM (M_alloc (t := T_pairline_Pair) 5 rfl rfl) fun x10 =>
 Sim.opM (M_stC (o_t rfl) (o_t rfl) rfl rfl (Fld.id _) rfl) fun x11 =>
 Sim.doneS <| Sim.seqI <| Sim.seqI <| Sim.op1 (h_faC (o_t rfl)) <|
 Sim.opn (h_ldC (t := T_pairline_Pair) (u := T.str) (o_t rfl) rfl rfl F_pairline_Pair_Key rfl rfl) fun x12 =>
 Sim.op (h_lens (o_t rfl)) fun x13 =>
 Sim.op (h_cmp (I := (IT.int .i64)) rfl (o_t rfl) o_i) fun x14 =>
 Sim.op1 (h_mv (o_t rfl)) <|
 Sim.or 4 rfl rfl rfl (Grp.op1 (h_faC (o_t rfl)) <|
 Grp.opn (h_ldC (t := T_pairline_Pair) (u := T.str) (o_t rfl) rfl rfl F_pairline_Pair_Value rfl rfl) fun x15 =>
 Grp.op (h_lens (o_t rfl)) fun x16 =>
 Grp.op (h_cmp (I := (IT.int .i64)) rfl (o_t rfl) o_i) fun x17 =>
 Grp.nil (o_t rfl)) fun x18 =>
 Sim.doneS <| Sim.cond (o_t rfl) (
 Sim.seqI <| Sim.op (h_call1 sp_l36_alive (.nil)) fun x19 =>
 Sim.op1 (h_mv (o_t rfl)) <|
 Sim.doneS <| Sim.outRet <| Sim.ret (.one (res_t rfl))) (
 Sim.skip <| Sim.doneS <| Sim.op1 (h_mv (o_t rfl)) <|
 Sim.op1 (h_faC (o_t rfl)) <|
 Sim.opn (h_ldC (t := T_pairline_Pair) (u := T.str) (o_t rfl) rfl rfl F_pairline_Pair_Key rfl rfl) fun x20 =>
 Sim.op1 (h_faC (o_t rfl)) <|
 Sim.opn (h_ldC (t := T_pairline_Pair) (u := T.str) (o_t rfl) rfl rfl F_pairline_Pair_Value rfl rfl) fun x21 =>
 Sim.op (h_bld rfl rfl (.cons F_r36_Pair_Key rfl (o_t rfl) <| .cons F_r36_Pair_Value rfl (o_t rfl) <| .nil _)) fun x22 =>
 Sim.op (h_bll (t := T_r36_Pair) (n := 1) rfl rfl (.cons rfl (o_t rfl) <| .nil _)) fun x23 =>
 Sim.opM (M_app rfl (o_t rfl) rfl (n_sl (o_t rfl))) fun x24 =>
 Sim.op1 (h_mv (o_t rfl)) <|
 Sim.doneB <| Sim.doneS <| Sim.op (h_add (I := (IT.int .i64)) (o_t rfl) o_i) fun x25 =>
 Sim.op1 (h_mv (o_t rfl)) <|
 Sim.next (x25, x24) ⟨⟨⟨rfl, trivial⟩, ⟨⟨rfl, trivial⟩, ⟨⟨rfl, trivial⟩, ⟨⟨rfl, trivial⟩, ⟨⟨rfl, trivial⟩, trivial⟩⟩⟩⟩⟩, ⟨⟨rfl, trivial⟩, trivial⟩⟩)) (
 Sim.exitS <| Sim.out s5.2 ⟨⟨⟨rfl, trivial⟩, ⟨⟨rfl, trivial⟩, trivial⟩⟩, ⟨⟨rfl, trivial⟩, trivial⟩⟩)) (fun p6 =>
 Sim.exitB <| Sim.doneS <| Sim.seqI <| Sim.op1 (h_mv (o_t rfl)) <|
 Sim.op (h_callN sp_pairline_Block (.one (o_t rfl))) fun x26 =>
 Sim.op1 (h_mv (o_t rfl)) <|
 Sim.opn (h_ext (o_t rfl) rfl) fun x27 =>
 Sim.opn (h_ext (o_t rfl) rfl) fun x28 =>
 Sim.op1 (h_mv (o_t rfl)) <|
 Sim.op1 (h_mv (o_t rfl)) <|
 Sim.doneS <| Sim.seqI <| Sim.op1 (h_mv (o_t rfl)) <|
 Sim.frzRow 1003 rfl rfl <| Sim.op (h_callN sp_r36_Block (.one (o_t rfl))) fun x29 =>
 Sim.op1 (h_mv (o_t rfl)) <|
 Sim.opn (h_ext (o_t rfl) rfl) fun x30 =>
 Sim.opn (h_ext (o_t rfl) rfl) fun x31 =>
 Sim.op1 (h_mv (o_t rfl)) <|
 Sim.op1 (h_mv (o_t rfl)) <|
 Sim.doneS <| Sim.seqI <| Sim.seqI <| Sim.op1 (h_mv (o_t rfl)) <|
 Sim.op1 (h_mv (o_t rfl)) <|
 Sim.op (h_sneq (o_t rfl) (o_t rfl)) fun x32 =>
 Sim.op1 (h_mv (o_t rfl)) <|
 Sim.or 3 rfl rfl rfl (Grp.op1 (h_mv (o_t rfl)) <|
 Grp.op1 (h_mv (o_t rfl)) <|
 Grp.op (h_cmp (I := (IT.int .i64)) rfl (o_t rfl) (o_t rfl)) fun x33 =>
 Grp.nil (o_t rfl)) fun x34 =>
 Sim.doneS <| Sim.cond (o_t rfl) (
 Sim.seqI <| Sim.op1 (h_mv o_b) <|
 Sim.doneS <| Sim.ret (.one (res_t rfl))) (
 Sim.skip <| Sim.doneS <| Sim.seqI <| Sim.seqI <| Sim.op1 (h_mv (o_t rfl)) <|
 Sim.op (h_cmp (I := (IT.int .i64)) rfl (o_t rfl) o_i) fun x35 =>
 Sim.doneS <| Sim.cond (o_t rfl) (
 Sim.seqI <| Sim.op (h_call1 sp_l36_alive (.nil)) fun x36 =>
 Sim.op1 (h_mv (o_t rfl)) <|
 Sim.doneS <| Sim.ret (.one (res_t rfl))) (
 Sim.skip <| Sim.doneS <| Sim.seqI <| Sim.op1 (h_mv (o_t rfl)) <|
 Sim.op (h_callN sp_pairline_Read (.one (o_t rfl))) fun x37 =>
 Sim.op1 (h_mv (o_t rfl)) <|
 Sim.opn (h_ext (o_t rfl) rfl) fun x38 =>
 Sim.opn (h_ext (o_t rfl) rfl) fun x39 =>
 Sim.op1 (h_mv (o_t rfl)) <|
 Sim.op1 (h_mv (o_t rfl)) <|
 Sim.doneS <| Sim.seqI <| Sim.op1 (h_mv (o_t rfl)) <|
 Sim.op1 (h_mv (o_t rfl)) <|
 Sim.op (h_call1 sp_l36_alike (.cons (o_t rfl) <| .one (o_t rfl))) fun x40 =>
 Sim.op1 (h_mv (o_t rfl)) <|
 Sim.and 2 rfl rfl rfl (Grp.op1 (h_mv (o_t rfl)) <|
 Grp.op (h_cmp (I := (IT.int .i64)) rfl (o_t rfl) o_i) fun x41 =>
 Grp.nil (o_t rfl)) fun x42 =>
 Sim.op1 (h_mv (o_t rfl)) <|
 Sim.and 1 rfl rfl rfl (Grp.op (h_call1 sp_l36_alive (.nil)) fun x43 =>
 Grp.nil (o_t rfl)) fun x44 =>
 Sim.op1 (h_mv (o_t rfl)) <|
 Sim.doneS <| Sim.ret (.one (res_t rfl))))))
theorem sp_l36_PairlineBlocks : Spec tb fn_l36_PairlineBlocks [(T.sl T_pairline_Pair)] [T.b] (fun a => l36_PairlineBlocks a) :=
  Spec.of f_l36_PairlineBlocks rfl rfl rfl sim_l36_PairlineBlocks

noncomputable def r36_Parse (a0 : Str) : Option (S_r36_Pair × Int) :=
 if (decide (512 < (a0.length : Int))) = true then
 some ((⟨[], []⟩ : S_r36_Pair), 4)
 else
 (r06_Parts a0 (61 : UInt8)).bind fun x6 =>
 (idx x6.l 0).bind fun x7 =>
 (orO (decide (x7 = [])) ((r36_has a0 (61 : UInt8)).bind fun x10 =>
 some (!x10))).bind fun x12 =>
 (orO x12 ((r36_has a0 (10 : UInt8)).bind fun x13 =>
 some x13)).bind fun x14 =>
 if x14 = true then
 some ((⟨[], []⟩ : S_r36_Pair), 5)
 else
 (subL a0 (some (IntKind.i64.wrap ((x7.length : Int) + 1))) none).bind fun x19 =>
 some ((⟨x7, x19⟩ : S_r36_Pair), 0)
noncomputable def sim_r36_Parse (a : Res [T.str]) : Sim tb ⟨argsT [T.str] 0 a, []⟩ c_r36_Parse.body [] (QRes [T_r36_Pair, (T.int .i64)] c_r36_Parse.res) :=
 Sim.seqI <| Sim.opM (M_alloc (t := T_r36_Pair) 2 rfl rfl) fun x1 =>
 Sim.op1 (h_mv o_i) <|
 Sim.doneS <| Sim.seqI <| Sim.seqI <| Sim.op1 (h_mv (o_t rfl)) <|
 Sim.op (h_lens (o_t rfl)) fun x2 =>
 Sim.op (h_cmp (I := (IT.int .i64)) rfl (o_t rfl) o_i) fun x3 =>
 Sim.doneS <| Sim.cond (o_t rfl) (
 Sim.seqI <| Sim.op (h_bld rfl rfl (.nil _)) fun x4 =>
 Sim.opM (M_stC (o_t rfl) (o_t rfl) rfl rfl (Fld.id _) rfl) fun x5 =>
 Sim.op1 (h_mv o_i) <|
 Sim.doneS <| Sim.ret (.cons (res_c rfl rfl rfl (Fld.id _) rfl rfl) <| .one (res_t rfl))) (
 Sim.skip <| Sim.doneS <| Sim.seqI <| Sim.op1 (h_mv (o_t rfl)) <|
 Sim.op (h_call1 sp_r06_Parts (.cons (o_t rfl) <| .one (o_u8 61 rfl))) fun x6 =>
 Sim.op (h_ias rfl (o_t rfl) o_i) fun x7 =>
 Sim.opn (h_ld rfl rfl (o_t rfl)) fun x8 =>
 Sim.op1 (h_mv (o_t rfl)) <|
 Sim.doneS <| Sim.seqI <| Sim.seqI <| Sim.op1 (h_mv (o_t rfl)) <|
 Sim.op (h_seql (o_t rfl) o_s) fun x9 =>
 Sim.op1 (h_mv (o_t rfl)) <|
 Sim.or 3 rfl rfl rfl (Grp.op1 (h_mv (o_t rfl)) <|
 Grp.op (h_call1 sp_r36_has (.cons (o_t rfl) <| .one (o_u8 61 rfl))) fun x10 =>
 Grp.op (h_not (o_t rfl)) fun x11 =>
 Grp.nil (o_t rfl)) fun x12 =>
 Sim.op1 (h_mv (o_t rfl)) <|
 Sim.or 2 rfl rfl rfl (Grp.op1 (h_mv (o_t rfl)) <|
 Grp.op (h_call1 sp_r36_has (.cons (o_t rfl) <| .one (o_u8 10 rfl))) fun x13 =>
 Grp.nil (o_t rfl)) fun x14 =>
 Sim.doneS <| Sim.cond (o_t rfl) (
 Sim.seqI <| Sim.op (h_bld rfl rfl (.nil _)) fun x15 =>
 Sim.opM (M_stC (o_t rfl) (o_t rfl) rfl rfl (Fld.id _) rfl) fun x16 =>
 Sim.op1 (h_mv o_i) <|
 Sim.doneS <| Sim.ret (.cons (res_c rfl rfl rfl (Fld.id _) rfl rfl) <| .one (res_t rfl))) (
 Sim.skip <| Sim.doneS <| Sim.seqI <| Sim.op1 (h_mv (o_t rfl)) <|
 Sim.op1 (h_mv (o_t rfl)) <|
 Sim.op1 (h_mv (o_t rfl)) <|
 Sim.op (h_lens (o_t rfl)) fun x17 =>
 Sim.op (h_add (I := (IT.int .i64)) (o_t rfl) o_i) fun x18 =>
 Sim.op (h_sls (o_t rfl) (.some (o_t rfl)) .none) fun x19 =>
 Sim.op (h_bld rfl rfl (.cons F_r36_Pair_Key rfl (o_t rfl) <| .cons F_r36_Pair_Value rfl (o_t rfl) <| .nil _)) fun x20 =>
 Sim.opM (M_stC (o_t rfl) (o_t rfl) rfl rfl (Fld.id _) rfl) fun x21 =>
 Sim.op1 (h_mv o_i) <|
 Sim.doneS <| Sim.ret (.cons (res_c rfl rfl rfl (Fld.id _) rfl rfl) <| .one (res_t rfl))))
theorem sp_r36_Parse : Spec tb fn_r36_Parse [T.str] [T_r36_Pair, (T.int .i64)] (fun a => r36_Parse a) :=
  Spec.of f_r36_Parse rfl rfl rfl sim_r36_Parse

noncomputable def r36_Read (a0 : Str) : Option ((GS S_r36_Pair) × Int) :=
 (r06_Parts a0 (10 : UInt8)).bind fun x1 =>
 (orO (decide ((x1.l.length : Int) < 2)) ((idx x1.l (IntKind.i64.wrap ((x1.l.length : Int) - 1))).bind fun x5 =>
 some (!decide (x5 = [])))).bind fun x8 =>
 (orO x8 ((idx x1.l (IntKind.i64.wrap ((x1.l.length : Int) - 2))).bind fun x10 =>
 some (!decide (x10 = [])))).bind fun x13 =>
 if x13 = true then
 some (.nil, 5)
 else
 (slG x1 none (some (IntKind.i64.wrap ((x1.l.length : Int) - 2)))).bind fun x15 =>
 (iter (fun (s16 : Int) =>
 if (decide (s16 < (x15.l.length : Int))) = true then
 (idx x15.l s16).bind fun x20 =>
 if (decide (x20 = [])) = true then
 (some (.nil, 5)).map fun r => .inr (.inr r)
 else
 some (.inl (IntKind.i64.wrap (s16 + 1)))
 else
 some (.inr (.inl ()))) 0).bind (Sum.elim (fun (p17 : Unit) =>
 if (decide (400 < (x15.l.length : Int))) = true then
 some (.nil, 4)
 else
 (iter (fun (s26 : (Int × (GS S_r36_Pair))) =>
 if (decide (s26.1 < (x15.l.length : Int))) = true then
 (idx x15.l s26.1).bind fun x30 =>
 (r36_Parse x30).bind fun x32 =>
 if (!decide (x32.2 = 0)) = true then
 (some (.nil, x32.2)).map fun r => .inr (.inr r)
 else
 (apG 32 s26.2 [x32.1]).bind fun x40 =>
 some (.inl (IntKind.i64.wrap (s26.1 + 1), x40))
 else
 some (.inr (.inl s26.2))) (0, .nil)).bind (Sum.elim (fun (p27 : (GS S_r36_Pair)) =>
 some (p27, 0)) some)) some)
noncomputable def sim_r36_Read (a : Res [T.str]) : Sim tb ⟨argsT [T.str] 0 a, []⟩ c_r36_Read.body [] (QRes [(T.sl T_r36_Pair), (T.int .i64)] c_r36_Read.res) :=
 Sim.seqI <| Sim.op1 (h_mv (o_nils (t := T_r36_Pair))) <| Sim.turn (born (n := 2) (j := 1002) rfl rfl) <|
 Sim.op1 (h_mv o_i) <|
 Sim.doneS <| Sim.seqI <| Sim.op1 (h_mv (o_t rfl)) <|
 Sim.op (h_call1 sp_r06_Parts (.cons (o_t rfl) <| .one (o_u8 10 rfl))) fun x1 =>
 Sim.op1 (h_mv (o_t rfl)) <|
 Sim.doneS <| Sim.seqI <| Sim.op1 (h_mv (o_t rfl)) <|
 Sim.op (h_len (o_t rfl)) fun x2 =>
 Sim.op1 (h_mv (o_t rfl)) <|
 Sim.doneS <| Sim.seqI <| Sim.seqI <| Sim.op1 (h_mv (o_t rfl)) <|
 Sim.op (h_cmp (I := (IT.int .i64)) rfl (o_t rfl) o_i) fun x3 =>
 Sim.op1 (h_mv (o_t rfl)) <|
 Sim.or 6 rfl rfl rfl (Grp.op1 (h_mv (o_t rfl)) <|
 Grp.op1 (h_mv (o_t rfl)) <|
 Grp.op (h_sub (I := (IT.int .i64)) (o_t rfl) o_i) fun x4 =>
 Grp.op (h_ias rfl (o_t rfl) (o_t rfl)) fun x5 =>
 Grp.opn (h_ld rfl rfl (o_t rfl)) fun x6 =>
 Grp.op (h_sneq (o_t rfl) o_s) fun x7 =>
 Grp.nil (o_t rfl)) fun x8 =>
 Sim.op1 (h_mv (o_t rfl)) <|
 Sim.or 6 rfl rfl rfl (Grp.op1 (h_mv (o_t rfl)) <|
 Grp.op1 (h_mv (o_t rfl)) <|
 Grp.op (h_sub (I := (IT.int .i64)) (o_t rfl) o_i) fun x9 =>
 Grp.op (h_ias rfl (o_t rfl) (o_t rfl)) fun x10 =>
 Grp.opn (h_ld rfl rfl (o_t rfl)) fun x11 =>
 Grp.op (h_sneq (o_t rfl) o_s) fun x12 =>
 Grp.nil (o_t rfl)) fun x13 =>
 Sim.doneS <| Sim.cond (o_t rfl) (
 Sim.seqI <| Sim.op1 (h_mv (o_nils (t := T_r36_Pair))) <| Sim.turn (born (n := 2) (j := 2002) rfl rfl) <|
 Sim.op1 (h_mv o_i) <|
 Sim.doneS <| Sim.frzRow 2002 rfl rfl <| Sim.ret (.cons (res_t rfl) <| .one (res_t rfl))) (
 Sim.skip <| Sim.doneS <| Sim.seqI <| Sim.op1 (h_mv (o_t rfl)) <|
 Sim.op1 (h_mv (o_t rfl)) <|
 Sim.op (h_sub (I := (IT.int .i64)) (o_t rfl) o_i) fun x14 =>
 Sim.op (h_sll rfl (o_t rfl) .none (.some (o_t rfl))) fun x15 =>
 Sim.op1 (h_mv (o_t rfl)) <|
 Sim.doneS <| Sim.seqI <| Sim.seqI <| Sim.op1 (h_mv o_i) <|
 Sim.doneS <| Sim.blkI <| Sim.loop (id := 0) (σ := Int) (τ := Unit) (fun s16 => ⟨[(4, .val (T.sl T.str) x15), (6, .val (T.int .i64) s16)], []⟩) (fun p17 => ⟨[(4, .val (T.sl T.str) x15)], []⟩) 0 ⟨⟨⟨rfl, trivial⟩, ⟨⟨rfl, trivial⟩, trivial⟩⟩, trivial⟩ (fun _ => rfl) (fun s16 =>
 Sim.seqI <| Sim.seqI <| Sim.op1 (h_mv (o_t rfl)) <|
 Sim.op1 (h_mv (o_t rfl)) <|
 Sim.op (h_len (o_t rfl)) fun x18 =>
 Sim.op (h_cmp (I := (IT.int .i64)) rfl (o_t rfl) (o_t rfl)) fun x19 =>
 Sim.doneS <| Sim.cond (o_t rfl) (
 Sim.skip <| Sim.doneS <| Sim.seqI <| Sim.blkI <| Sim.seqI <| Sim.op1 (h_mv (o_t rfl)) <|
 Sim.op1 (h_mv (o_t rfl)) <|
 Sim.op (h_ias rfl (o_t rfl) (o_t rfl)) fun x20 =>
 Sim.opn (h_ld rfl rfl (o_t rfl)) fun x21 =>
 Sim.op (h_seql (o_t rfl) o_s) fun x22 =>
 Sim.doneS <| Sim.cond (o_t rfl) (
 Sim.seqI <| Sim.op1 (h_mv (o_nils (t := T_r36_Pair))) <| Sim.turn (born (n := 2) (j := 1002) rfl rfl) <|
 Sim.op1 (h_mv o_i) <|
 Sim.doneS <| Sim.outRet <| Sim.frzRow 1002 rfl rfl <| Sim.ret (.cons (res_t rfl) <| .one (res_t rfl))) (
 Sim.skip <| Sim.doneB <| Sim.doneS <| Sim.op1 (h_mv (o_t rfl)) <|
 Sim.op (h_add (I := (IT.int .i64)) (o_t rfl) o_i) fun x23 =>
 Sim.op1 (h_mv (o_t rfl)) <|
 Sim.next x23 ⟨⟨⟨rfl, trivial⟩, ⟨⟨rfl, trivial⟩, trivial⟩⟩, trivial⟩)) (
 Sim.exitS <| Sim.out () ⟨⟨⟨rfl, trivial⟩, trivial⟩, trivial⟩)) (fun p17 =>
 Sim.exitB <| Sim.doneS <| Sim.seqI <| Sim.seqI <| Sim.op1 (h_mv (o_t rfl)) <|
 Sim.op (h_len (o_t rfl)) fun x24 =>
 Sim.op (h_cmp (I := (IT.int .i64)) rfl (o_t rfl) o_i) fun x25 =>
 Sim.doneS <| Sim.cond (o_t rfl) (
 Sim.seqI <| Sim.op1 (h_mv (o_nils (t := T_r36_Pair))) <| Sim.turn (born (n := 2) (j := 1002) rfl rfl) <|
 Sim.op1 (h_mv o_i) <|
 Sim.doneS <| Sim.frzRow 1002 rfl rfl <| Sim.ret (.cons (res_t rfl) <| .one (res_t rfl))) (
 Sim.skip <| Sim.doneS <| Sim.seqI <| Sim.op1 (h_mv (o_nils (t := T_r36_Pair))) <| Sim.turn (born (n := 7) (j := 1007) rfl rfl) <|
 Sim.doneS <| Sim.seqI <| Sim.seqI <| Sim.op1 (h_mv o_i) <|
 Sim.doneS <| Sim.blkI <| Sim.loop (id := 2) (σ := (Int × (GS S_r36_Pair))) (τ := (GS S_r36_Pair)) (fun s26 => ⟨[(4, .val (T.sl T.str) x15), (7, .own 1007), (8, .val (T.int .i64) s26.1)], [(1007, .row T_r36_Pair s26.2)]⟩) (fun p27 => ⟨[(7, .own 1007)], [(1007, .row T_r36_Pair p27)]⟩) (0, .nil) ⟨⟨⟨rfl, trivial⟩, ⟨⟨rfl, trivial⟩, ⟨⟨rfl, trivial⟩, trivial⟩⟩⟩, ⟨⟨rfl, trivial⟩, trivial⟩⟩ (fun _ => rfl) (fun s26 =>
 Sim.seqI <| Sim.seqI <| Sim.op1 (h_mv (o_t rfl)) <|
 Sim.op1 (h_mv (o_t rfl)) <|
 Sim.op (h_len (o_t rfl)) fun x28 =>
 Sim.op (h_cmp (I := (IT.int .i64)) rfl (o_t rfl) (o_t rfl)) fun x29 =>
 Sim.doneS <| Sim.cond (o_t rfl) (
 Sim.skip <| Sim.doneS <| Sim.seqI <| Sim.blkI <| Sim.seqI <| Sim.op1 (h_mv (o_t rfl)) <|
 Sim.op1 (h_mv (o_t rfl)) <|
 Sim.op (h_ias rfl (o_t rfl) (o_t rfl)) fun x30 =>
 Sim.opn (h_ld rfl rfl (o_t rfl)) fun x31 =>
 Sim.op (h_callN sp_r36_Parse (.one (o_t rfl))) fun x32 =>
 Sim.op1 (h_mv (o_t rfl)) <|
 Sim.opn (h_ext (o_t rfl) rfl) fun x33 =>
 Sim.opn (h_ext (o_t rfl) rfl) fun x34 =>
 Sim.opM (M_alloc (t := T_r36_Pair) 9 rfl rfl) fun x35 =>
 Sim.opM (M_stC (o_t rfl) (o_t rfl) rfl rfl (Fld.id _) rfl) fun x36 =>
 Sim.op1 (h_mv (o_t rfl)) <|
 Sim.doneS <| Sim.seqI <| Sim.seqI <| Sim.op1 (h_mv (o_t rfl)) <|
 Sim.op (h_cmp (I := (IT.int .i64)) rfl (o_t rfl) o_i) fun x37 =>
 Sim.doneS <| Sim.cond (o_t rfl) (
 Sim.seqI <| Sim.op1 (h_mv (o_t rfl)) <|
 Sim.op1 (h_mv (o_nils (t := T_r36_Pair))) <| Sim.turn (born (n := 2) (j := 1002) rfl rfl) <|
 Sim.op1 (h_mv (o_t rfl)) <|
 Sim.doneS <| Sim.outRet <| Sim.frzRow 1002 rfl rfl <| Sim.ret (.cons (res_t rfl) <| .one (res_t rfl))) (
 Sim.skip <| Sim.doneS <| Sim.op1 (h_mv (o_t rfl)) <|
 Sim.opn (h_ldC (t := T_r36_Pair) (u := T_r36_Pair) (o_t rfl) rfl rfl (Fld.id _) rfl rfl) fun x38 =>
 Sim.op (h_bll (t := T_r36_Pair) (n := 1) rfl rfl (.cons rfl (o_t rfl) <| .nil _)) fun x39 =>
 Sim.opM (M_app rfl (o_t rfl) rfl (n_sl (o_t rfl))) fun x40 =>
 Sim.op1 (h_mv (o_t rfl)) <|
 Sim.doneB <| Sim.doneS <| Sim.op1 (h_mv (o_t rfl)) <|
 Sim.op (h_add (I := (IT.int .i64)) (o_t rfl) o_i) fun x41 =>
 Sim.op1 (h_mv (o_t rfl)) <|
 Sim.next (x41, x40) ⟨⟨⟨rfl, trivial⟩, ⟨⟨rfl, trivial⟩, ⟨⟨rfl, trivial⟩, trivial⟩⟩⟩, ⟨⟨rfl, trivial⟩, trivial⟩⟩)) (
 Sim.exitS <| Sim.out s26.2 ⟨⟨⟨rfl, trivial⟩, trivial⟩, ⟨⟨rfl, trivial⟩, trivial⟩⟩)) (fun p27 =>
 Sim.exitB <| Sim.doneS <| Sim.seqI <| Sim.op1 (h_mv (o_t rfl)) <|
 Sim.op1 (h_mv (o_t rfl)) <|
 Sim.op1 (h_mv o_i) <|
 Sim.doneS <| Sim.frzRow 1007 rfl rfl <| Sim.ret (.cons (res_t rfl) <| .one (res_t rfl))))))
theorem sp_r36_Read : Spec tb fn_r36_Read [T.str] [(T.sl T_r36_Pair), (T.int .i64)] (fun a => r36_Read a) :=
  Spec.of f_r36_Read rfl rfl rfl sim_r36_Read

noncomputable def l36_PairlineReads (a0 : Str) : Option Bool :=
 if (decide (2000 < (a0.length : Int))) = true then
 (l36_alive ()).bind fun x3 =>
 some x3
 else
 (pairline_Read a0).bind fun x4 =>
 (r36_Read a0).bind fun x7 =>
 (l36_alike x4.1 x7.1).bind fun x10 =>
 (orO (!x10) (some (!decide (x4.2 = x7.2)))).bind fun x13 =>
 if x13 = true then
 some false
 else
 (pairline_Block x4.1).bind fun x14 =>
 (orO (!decide (x7.2 = 0)) ((andO (decide (x14.1 = a0)) (some (decide (x14.2 = 0)))).bind fun x20 =>
 some x20)).bind fun x21 =>
 (andO x21 ((l36_alive ()).bind fun x22 =>
 some x22)).bind fun x23 =>
 some x23
noncomputable def sim_l36_PairlineReads (a : Res [T.str]) : Sim tb ⟨argsT [T.str] 0 a, []⟩ c_l36_PairlineReads.body [] (QRes [T.b] c_l36_PairlineReads.res) :=
 Sim.seqI <| Sim.op1 (h_mv o_b) <|
 Sim.doneS <| Sim.seqI <| Sim.seqI <| Sim.op1 (h_mv (o_t rfl)) <|
 Sim.op (h_lens (o_t rfl)) fun x1 =>
 Sim.op (h_cmp (I := (IT.int .i64)) rfl (o_t rfl) o_i) fun x2 =>
 Sim.doneS <| Sim.cond (o_t rfl) (
 Sim.seqI <| Sim.op (h_call1 sp_l36_alive (.nil)) fun x3 =>
 Sim.op1 (h_mv (o_t rfl)) <|
 Sim.doneS <| Sim.ret (.one (res_t rfl))) (
 Sim.skip <| Sim.doneS <| Sim.seqI <| Sim.op1 (h_mv (o_t rfl)) <|
 Sim.op (h_callN sp_pairline_Read (.one (o_t rfl))) fun x4 =>
 Sim.op1 (h_mv (o_t rfl)) <|
 Sim.opn (h_ext (o_t rfl) rfl) fun x5 =>
 Sim.opn (h_ext (o_t rfl) rfl) fun x6 =>
 Sim.op1 (h_mv (o_t rfl)) <|
 Sim.op1 (h_mv (o_t rfl)) <|
 Sim.doneS <| Sim.seqI <| Sim.op1 (h_mv (o_t rfl)) <|
 Sim.op (h_callN sp_r36_Read (.one (o_t rfl))) fun x7 =>
 Sim.op1 (h_mv (o_t rfl)) <|
 Sim.opn (h_ext (o_t rfl) rfl) fun x8 =>
 Sim.opn (h_ext (o_t rfl) rfl) fun x9 =>
 Sim.op1 (h_mv (o_t rfl)) <|
 Sim.op1 (h_mv (o_t rfl)) <|
 Sim.doneS <| Sim.seqI <| Sim.seqI <| Sim.op1 (h_mv (o_t rfl)) <|
 Sim.op1 (h_mv (o_t rfl)) <|
 Sim.op (h_call1 sp_l36_alike (.cons (o_t rfl) <| .one (o_t rfl))) fun x10 =>
 Sim.op (h_not (o_t rfl)) fun x11 =>
 Sim.op1 (h_mv (o_t rfl)) <|
 Sim.or 3 rfl rfl rfl (Grp.op1 (h_mv (o_t rfl)) <|
 Grp.op1 (h_mv (o_t rfl)) <|
 Grp.op (h_cmp (I := (IT.int .i64)) rfl (o_t rfl) (o_t rfl)) fun x12 =>
 Grp.nil (o_t rfl)) fun x13 =>
 Sim.doneS <| Sim.cond (o_t rfl) (
 Sim.seqI <| Sim.op1 (h_mv o_b) <|
 Sim.doneS <| Sim.ret (.one (res_t rfl))) (
 Sim.skip <| Sim.doneS <| Sim.seqI <| Sim.op1 (h_mv (o_t rfl)) <|
 Sim.op (h_callN sp_pairline_Block (.one (o_t rfl))) fun x14 =>
 Sim.op1 (h_mv (o_t rfl)) <|
 Sim.opn (h_ext (o_t rfl) rfl) fun x15 =>
 Sim.opn (h_ext (o_t rfl) rfl) fun x16 =>
 Sim.op1 (h_mv (o_t rfl)) <|
 Sim.op1 (h_mv (o_t rfl)) <|
 Sim.doneS <| Sim.seqI <| Sim.op1 (h_mv (o_t rfl)) <|
 Sim.op (h_cmp (I := (IT.int .i64)) rfl (o_t rfl) o_i) fun x17 =>
 Sim.op1 (h_mv (o_t rfl)) <|
 Sim.or 7 rfl rfl rfl (Grp.op1 (h_mv (o_t rfl)) <|
 Grp.op1 (h_mv (o_t rfl)) <|
 Grp.op (h_seql (o_t rfl) (o_t rfl)) fun x18 =>
 Grp.op1 (h_mv (o_t rfl)) <|
 Grp.and 2 rfl rfl rfl rfl rfl (Grp.op1 (h_mv (o_t rfl)) <|
 Grp.op (h_cmp (I := (IT.int .i64)) rfl (o_t rfl) o_i) fun x19 =>
 Grp.nil (o_t rfl)) fun x20 =>
 Grp.nil (o_t rfl)) fun x21 =>
 Sim.op1 (h_mv (o_t rfl)) <|
 Sim.and 1 rfl rfl rfl (Grp.op (h_call1 sp_l36_alive (.nil)) fun x22 =>
 Grp.nil (o_t rfl)) fun x23 =>
 Sim.op1 (h_mv (o_t rfl)) <|
 Sim.doneS <| Sim.ret (.one (res_t rfl))))
theorem sp_l36_PairlineReads : Spec tb fn_l36_PairlineReads [T.str] [T.b] (fun a => l36_PairlineReads a) :=
  Spec.of f_l36_PairlineReads rfl rfl rfl sim_l36_PairlineReads

noncomputable def l36_PairlineMany (a0 : Int) : Option Bool :=
 (orO (decide (a0 < 0)) (some (decide (410 < a0)))).bind fun x3 =>
 if x3 = true then
 (l36_alive ()).bind fun x4 =>
 some x4
 else
 (iter (fun (s5 : (Str × Int × (GS S_pairline_Pair))) =>
 if (decide (s5.2.1 < a0)) = true then
 (if s5.1.length + [107, 61, 10].length ≤ 2 * most then some (s5.1 ++ [107, 61, 10]) else none).bind fun x8 =>
 (apG 32 s5.2.2 [(⟨[107], []⟩ : S_pairline_Pair)]).bind fun x11 =>
 some (.inl (x8, IntKind.i64.wrap (s5.2.1 + 1), x11))
 else
 some (.inr (.inl (s5.1, s5.2.2)))) ([], 0, .nil)).bind (Sum.elim (fun (p6 : (Str × (GS S_pairline_Pair))) =>
 (pairline_Block p6.2).bind fun x13 =>
 (if p6.1.length + [10].length ≤ 2 * most then some (p6.1 ++ [10]) else none).bind fun x16 =>
 (pairline_Read x16).bind fun x17 =>
 if (decide (400 < a0)) = true then
 (andO (decide (x13.1 = [])) (some (decide (x13.2 = 4)))).bind fun x23 =>
 (andO x23 (some (decide ((x17.1.l.length : Int) = 0)))).bind fun x26 =>
 (andO x26 (some (decide (x17.2 = 4)))).bind fun x28 =>
 (andO x28 ((l36_alive ()).bind fun x29 =>
 some x29)).bind fun x30 =>
 some x30
 else
 (if p6.1.length + [10].length ≤ 2 * most then some (p6.1 ++ [10]) else none).bind fun x31 =>
 (andO (decide (x13.1 = x31)) (some (decide (x13.2 = 0)))).bind fun x34 =>
 (andO x34 (some (decide ((x17.1.l.length : Int) = a0)))).bind fun x37 =>
 (andO x37 (some (decide (x17.2 = 0)))).bind fun x39 =>
 (andO x39 ((l36_alive ()).bind fun x40 =>
 some x40)).bind fun x41 =>
 some x41) some)
noncomputable def sim_l36_PairlineMany (a : Res [(T.int .i64)]) : Sim tb ⟨argsT [(T.int .i64)] 0 a, []⟩ c_l36_PairlineMany.body [] (QRes [T.b] c_l36_PairlineMany.res) :=
 Sim.seqI <| Sim.op1 (h_mv o_b) <|
 Sim.doneS <| Sim.seqI <| Sim.seqI <| Sim.op1 (h_mv (o_t rfl)) <|
 Sim.op (h_cmp (I := (IT.int .i64)) rfl (o_t rfl) o_i) fun x1 =>
 Sim.op1 (h_mv (o_t rfl)) <|
 Sim.or 2 rfl rfl rfl (Grp.op1 (h_mv (o_t rfl)) <|
 Grp.op (h_cmp (I := (IT.int .i64)) rfl (o_t rfl) o_i) fun x2 =>
 Grp.nil (o_t rfl)) fun x3 =>
 Sim.doneS <| Sim.cond (o_t rfl) (
 Sim.seqI <| Sim.op (h_call1 sp_l36_alive (.nil)) fun x4 =>
 Sim.op1 (h_mv (o_t rfl)) <|
 Sim.doneS <| Sim.ret (.one (res_t rfl))) (
 Sim.skip <| Sim.doneS <| Sim.seqI <| Sim.op1 (h_mv o_s) <|
 Sim.doneS <| Sim.seqI <| Sim.op1 (h_mv (o_nils (t := T_pairline_Pair))) <| Sim.turn (born (n := 4) (j := 1004) rfl rfl) <|
 Sim.doneS <| Sim.seqI <| Sim.seqI <| Sim.op1 (h_mv o_i) <|
 Sim.doneS <| Sim.blkI <| Sim.loop (id := 0) (σ := (Str × Int × (GS S_pairline_Pair))) (τ := (Str × (GS S_pairline_Pair))) (fun s5 => ⟨[(0, .val (T.int .i64) a), (3, .val T.str s5.1), (4, .own 1004), (5, .val (T.int .i64) s5.2.1)], [(1004, .row T_pairline_Pair s5.2.2)]⟩) (fun p6 => ⟨[(0, .val (T.int .i64) a), (3, .val T.str p6.1), (4, .own 1004)], [(1004, .row T_pairline_Pair p6.2)]⟩) ([], 0, .nil) ⟨⟨⟨rfl, trivial⟩, ⟨⟨rfl, trivial⟩, ⟨⟨rfl, trivial⟩, ⟨⟨rfl, trivial⟩, trivial⟩⟩⟩⟩, ⟨⟨rfl, trivial⟩, trivial⟩⟩ (fun _ => rfl) (fun s5 =>
 Sim.seqI <| Sim.seqI <| Sim.op1 (h_mv (o_t rfl)) <|
 Sim.op1 (h_mv (o_t rfl)) <|
 Sim.op (h_cmp (I := (IT.int .i64)) rfl (o_t rfl) (o_t rfl)) fun x7 =>
 Sim.doneS <| Sim.cond (o_t rfl) (
 Sim.skip <| Sim.doneS <| Sim.seqI <| Sim.blkI <| Sim.seqI <| Sim.op1 (h_mv (o_t rfl)) <|
 Sim.op (h_sadd (o_t rfl) o_s) fun x8 =>
 Sim.op1 (h_mv (o_t rfl)) <|
 Sim.doneS <| Sim.op1 (h_mv (o_t rfl)) <|
 Sim.op (h_bld rfl rfl (.cons F_pairline_Pair_Key rfl o_s <| .nil _)) fun x9 =>
 Sim.op (h_bll (t := T_pairline_Pair) (n := 1) rfl rfl (.cons rfl (o_t rfl) <| .nil _)) fun x10 =>
 Sim.opM (M_app rfl (o_t rfl) rfl (n_sl (o_t rfl))) fun x11 =>
 Sim.op1 (h_mv (o_t rfl)) <|
 Sim.doneB <| Sim.doneS <| Sim.op1 (h_mv (o_t rfl)) <|
 Sim.op (h_add (I := (IT.int .i64)) (o_t rfl) o_i) fun x12 =>
 Sim.op1 (h_mv (o_t rfl)) <|
 Sim.next (x8, x12, x11) ⟨⟨⟨rfl, trivial⟩, ⟨⟨rfl, trivial⟩, ⟨⟨rfl, trivial⟩, ⟨⟨rfl, trivial⟩, trivial⟩⟩⟩⟩, ⟨⟨rfl, trivial⟩, trivial⟩⟩) (
 Sim.exitS <| Sim.out (s5.1, s5.2.2) ⟨⟨⟨rfl, trivial⟩, ⟨⟨rfl, trivial⟩, ⟨⟨rfl, trivial⟩, trivial⟩⟩⟩, ⟨⟨rfl, trivial⟩, trivial⟩⟩)) (fun p6 =>
 Sim.exitB <| Sim.doneS <| Sim.seqI <| Sim.op1 (h_mv (o_t rfl)) <|
 Sim.frzRow 1004 rfl rfl <| Sim.op (h_callN sp_pairline_Block (.one (o_t rfl))) fun x13 =>
 Sim.op1 (h_mv (o_t rfl)) <|
 Sim.opn (h_ext (o_t rfl) rfl) fun x14 =>
 Sim.opn (h_ext (o_t rfl) rfl) fun x15 =>
 Sim.op1 (h_mv (o_t rfl)) <|
 Sim.op1 (h_mv (o_t rfl)) <|
 Sim.doneS <| Sim.seqI <| Sim.op1 (h_mv (o_t rfl)) <|
 Sim.op (h_sadd (o_t rfl) o_s) fun x16 =>
 Sim.op (h_callN sp_pairline_Read (.one (o_t rfl))) fun x17 =>
 Sim.op1 (h_mv (o_t rfl)) <|
 Sim.opn (h_ext (o_t rfl) rfl) fun x18 =>
 Sim.opn (h_ext (o_t rfl) rfl) fun x19 =>
 Sim.op1 (h_mv (o_t rfl)) <|
 Sim.op1 (h_mv (o_t rfl)) <|
 Sim.doneS <| Sim.seqI <| Sim.seqI <| Sim.op1 (h_mv (o_t rfl)) <|
 Sim.op (h_cmp (I := (IT.int .i64)) rfl (o_t rfl) o_i) fun x20 =>
 Sim.doneS <| Sim.cond (o_t rfl) (
 Sim.seqI <| Sim.op1 (h_mv (o_t rfl)) <|
 Sim.op (h_seql (o_t rfl) o_s) fun x21 =>
 Sim.op1 (h_mv (o_t rfl)) <|
 Sim.and 2 rfl rfl rfl (Grp.op1 (h_mv (o_t rfl)) <|
 Grp.op (h_cmp (I := (IT.int .i64)) rfl (o_t rfl) o_i) fun x22 =>
 Grp.nil (o_t rfl)) fun x23 =>
 Sim.op1 (h_mv (o_t rfl)) <|
 Sim.and 3 rfl rfl rfl (Grp.op1 (h_mv (o_t rfl)) <|
 Grp.op (h_len (o_t rfl)) fun x24 =>
 Grp.op (h_cmp (I := (IT.int .i64)) rfl (o_t rfl) o_i) fun x25 =>
 Grp.nil (o_t rfl)) fun x26 =>
 Sim.op1 (h_mv (o_t rfl)) <|
 Sim.and 2 rfl rfl rfl (Grp.op1 (h_mv (o_t rfl)) <|
 Grp.op (h_cmp (I := (IT.int .i64)) rfl (o_t rfl) o_i) fun x27 =>
 Grp.nil (o_t rfl)) fun x28 =>
 Sim.op1 (h_mv (o_t rfl)) <|
 Sim.and 1 rfl rfl rfl (Grp.op (h_call1 sp_l36_alive (.nil)) fun x29 =>
 Grp.nil (o_t rfl)) fun x30 =>
 Sim.op1 (h_mv (o_t rfl)) <|
 Sim.doneS <| Sim.ret (.one (res_t rfl))) (
 Sim.skip <| Sim.doneS <| Sim.seqI <| Sim.op1 (h_mv (o_t rfl)) <|
 Sim.op1 (h_mv (o_t rfl)) <|
 Sim.op (h_sadd (o_t rfl) o_s) fun x31 =>
 Sim.op (h_seql (o_t rfl) (o_t rfl)) fun x32 =>
 Sim.op1 (h_mv (o_t rfl)) <|
 Sim.and 2 rfl rfl rfl (Grp.op1 (h_mv (o_t rfl)) <|
 Grp.op (h_cmp (I := (IT.int .i64)) rfl (o_t rfl) o_i) fun x33 =>
 Grp.nil (o_t rfl)) fun x34 =>
 Sim.op1 (h_mv (o_t rfl)) <|
 Sim.and 4 rfl rfl rfl (Grp.op1 (h_mv (o_t rfl)) <|
 Grp.op (h_len (o_t rfl)) fun x35 =>
 Grp.op1 (h_mv (o_t rfl)) <|
 Grp.op (h_cmp (I := (IT.int .i64)) rfl (o_t rfl) (o_t rfl)) fun x36 =>
 Grp.nil (o_t rfl)) fun x37 =>
 Sim.op1 (h_mv (o_t rfl)) <|
 Sim.and 2 rfl rfl rfl (Grp.op1 (h_mv (o_t rfl)) <|
 Grp.op (h_cmp (I := (IT.int .i64)) rfl (o_t rfl) o_i) fun x38 =>
 Grp.nil (o_t rfl)) fun x39 =>
 Sim.op1 (h_mv (o_t rfl)) <|
 Sim.and 1 rfl rfl rfl (Grp.op (h_call1 sp_l36_alive (.nil)) fun x40 =>
 Grp.nil (o_t rfl)) fun x41 =>
 Sim.op1 (h_mv (o_t rfl)) <|
 Sim.doneS <| Sim.ret (.one (res_t rfl)))))
theorem sp_l36_PairlineMany : Spec tb fn_l36_PairlineMany [(T.int .i64)] [T.b] (fun a => l36_PairlineMany a) :=
  Spec.of f_l36_PairlineMany rfl rfl rfl sim_l36_PairlineMany

end Go.Proofs.YtopgecohakediaaDoor.Am
