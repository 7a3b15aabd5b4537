/-
  What functions compute, and that they do. Printed by mkwalk.py.
-/
import Derived.Test.YtggdinpopddhnaaDoorWk3
set_option linter.unusedVariables false
set_option maxRecDepth 100000
namespace Go.Proofs.YtggdinpopddhnaaDoor.Am

noncomputable def r36_Text (a0 : S_r36_Pair) : Option (Str × Int) :=
 (orO (decide (a0.Key = [])) ((r36_has a0.Key (61 : UInt8)).bind fun x4 =>
 some x4)).bind fun x5 =>
 (orO x5 ((r36_has a0.Key (10 : UInt8)).bind fun x7 =>
 some x7)).bind fun x8 =>
 (orO x8 ((r36_has a0.Value (10 : UInt8)).bind fun x10 =>
 some x10)).bind fun x11 =>
 if x11 = true then
 some ([], 5)
 else
 (if a0.Key.length + [61].length ≤ 2 * most then some (a0.Key ++ [61]) else none).bind fun x13 =>
 (if x13.length + a0.Value.length ≤ 2 * most then some (x13 ++ a0.Value) else none).bind fun x15 =>
 if (decide (512 < (x15.length : Int))) = true then
 some ([], 4)
 else
 some (x15, 0)
noncomputable def sim_r36_Text (a : Res [T_r36_Pair]) : Sim tb ⟨argsT [T_r36_Pair] 0 a, []⟩ c_r36_Text.body [] (QRes [T.str, (T.int .i64)] c_r36_Text.res) :=
 Sim.seqI <| Sim.opM (M_box (t := T_r36_Pair) 1 rfl rfl (o_t rfl)) fun _ =>
 Sim.op1 (h_mv o_s) <|
 Sim.op1 (h_mv o_i) <|
 Sim.doneS <| Sim.seqI <| Sim.seqI <| Sim.op1 (h_faC (o_t rfl)) <|
 Sim.opn (h_ldC (t := T_r36_Pair) (u := T.str) (o_t rfl) rfl rfl F_r36_Pair_Key rfl rfl) fun x1 =>
 Sim.op (h_seql (o_t rfl) o_s) fun x2 =>
 Sim.op1 (h_mv (o_t rfl)) <|
 Sim.or 3 rfl rfl rfl (Grp.op1 (h_faC (o_t rfl)) <|
 Grp.opn (h_ldC (t := T_r36_Pair) (u := T.str) (o_t rfl) rfl rfl F_r36_Pair_Key rfl rfl) fun x3 =>
 Grp.op (h_call1 sp_r36_has (.cons (o_t rfl) <| .one (o_u8 61 rfl))) fun x4 =>
 Grp.nil (o_t rfl)) fun x5 =>
 Sim.op1 (h_mv (o_t rfl)) <|
 Sim.or 3 rfl rfl rfl (Grp.op1 (h_faC (o_t rfl)) <|
 Grp.opn (h_ldC (t := T_r36_Pair) (u := T.str) (o_t rfl) rfl rfl F_r36_Pair_Key rfl rfl) fun x6 =>
 Grp.op (h_call1 sp_r36_has (.cons (o_t rfl) <| .one (o_u8 10 rfl))) fun x7 =>
 Grp.nil (o_t rfl)) fun x8 =>
 Sim.op1 (h_mv (o_t rfl)) <|
 Sim.or 3 rfl rfl rfl (Grp.op1 (h_faC (o_t rfl)) <|
 Grp.opn (h_ldC (t := T_r36_Pair) (u := T.str) (o_t rfl) rfl rfl F_r36_Pair_Value rfl rfl) fun x9 =>
 Grp.op (h_call1 sp_r36_has (.cons (o_t rfl) <| .one (o_u8 10 rfl))) fun x10 =>
 Grp.nil (o_t rfl)) fun x11 =>
 Sim.doneS <| Sim.cond (o_t rfl) (
 Sim.seqI <| Sim.op1 (h_mv o_s) <|
 Sim.op1 (h_mv o_i) <|
 Sim.doneS <| Sim.ret (.cons (res_t rfl) <| .one (res_t rfl))) (
 Sim.skip <| Sim.doneS <| Sim.seqI <| Sim.op1 (h_faC (o_t rfl)) <|
 Sim.opn (h_ldC (t := T_r36_Pair) (u := T.str) (o_t rfl) rfl rfl F_r36_Pair_Key rfl rfl) fun x12 =>
 Sim.op (h_sadd (o_t rfl) o_s) fun x13 =>
 Sim.op1 (h_faC (o_t rfl)) <|
 Sim.opn (h_ldC (t := T_r36_Pair) (u := T.str) (o_t rfl) rfl rfl F_r36_Pair_Value rfl rfl) fun x14 =>
 Sim.op (h_sadd (o_t rfl) (o_t rfl)) fun x15 =>
 Sim.op1 (h_mv (o_t rfl)) <|
 Sim.doneS <| Sim.seqI <| Sim.seqI <| Sim.op1 (h_mv (o_t rfl)) <|
 Sim.op (h_lens (o_t rfl)) fun x16 =>
 Sim.op (h_cmp (I := (IT.int .i64)) rfl (o_t rfl) o_i) fun x17 =>
 Sim.doneS <| Sim.cond (o_t rfl) (
 Sim.seqI <| Sim.op1 (h_mv o_s) <|
 Sim.op1 (h_mv o_i) <|
 Sim.doneS <| Sim.ret (.cons (res_t rfl) <| .one (res_t rfl))) (
 Sim.skip <| Sim.doneS <| Sim.seqI <| Sim.op1 (h_mv (o_t rfl)) <|
 Sim.op1 (h_mv (o_t rfl)) <|
 Sim.op1 (h_mv o_i) <|
 Sim.doneS <| Sim.ret (.cons (res_t rfl) <| .one (res_t rfl))))
theorem sp_r36_Text : Spec tb fn_r36_Text [T_r36_Pair] [T.str, (T.int .i64)] (fun a => r36_Text a) :=
  Spec.of f_r36_Text rfl rfl rfl sim_r36_Text

noncomputable def r36_Parse (a0 : Str) : Option (S_r36_Pair × Int) :=
 if (decide (512 < (a0.length : Int))) = true then
 some ((⟨[], []⟩ : S_r36_Pair), 4)
 else
 (r06_Parts a0 (61 : UInt8)).bind fun x6 =>
 (idx x6.l 0).bind fun x7 =>
 (orO (decide (x7 = [])) ((r36_has a0 (61 : UInt8)).bind fun x10 =>
 some (!x10))).bind fun x12 =>
 (orO x12 ((r36_has a0 (10 : UInt8)).bind fun x13 =>
 some x13)).bind fun x14 =>
 if x14 = true then
 some ((⟨[], []⟩ : S_r36_Pair), 5)
 else
 (subL a0 (some (IntKind.i64.wrap ((x7.length : Int) + 1))) none).bind fun x19 =>
 some ((⟨x7, x19⟩ : S_r36_Pair), 0)
noncomputable def sim_r36_Parse (a : Res [T.str]) : Sim tb ⟨argsT [T.str] 0 a, []⟩ c_r36_Parse.body [] (QRes [T_r36_Pair, (T.int .i64)] c_r36_Parse.res) :=
 Sim.seqI <| Sim.opM (M_alloc (t := T_r36_Pair) 2 rfl rfl) fun x1 =>
 Sim.op1 (h_mv o_i) <|
 Sim.doneS <| Sim.seqI <| Sim.seqI <| Sim.op1 (h_mv (o_t rfl)) <|
 Sim.op (h_lens (o_t rfl)) fun x2 =>
 Sim.op (h_cmp (I := (IT.int .i64)) rfl (o_t rfl) o_i) fun x3 =>
 Sim.doneS <| Sim.cond (o_t rfl) (
 Sim.seqI <| Sim.op (h_bld rfl rfl (.nil _)) fun x4 =>
 Sim.opM (M_stC (o_t rfl) (o_t rfl) rfl rfl (Fld.id _) rfl) fun x5 =>
 Sim.op1 (h_mv o_i) <|
 Sim.doneS <| Sim.ret (.cons (res_c rfl rfl rfl (Fld.id _) rfl rfl) <| .one (res_t rfl))) (
 Sim.skip <| Sim.doneS <| Sim.seqI <| Sim.op1 (h_mv (o_t rfl)) <|
 Sim.op (h_call1 sp_r06_Parts (.cons (o_t rfl) <| .one (o_u8 61 rfl))) fun x6 =>
 Sim.op (h_ias rfl (o_t rfl) o_i) fun x7 =>
 Sim.opn (h_ld rfl rfl (o_t rfl)) fun x8 =>
 Sim.op1 (h_mv (o_t rfl)) <|
 Sim.doneS <| Sim.seqI <| Sim.seqI <| Sim.op1 (h_mv (o_t rfl)) <|
 Sim.op (h_seql (o_t rfl) o_s) fun x9 =>
 Sim.op1 (h_mv (o_t rfl)) <|
 Sim.or 3 rfl rfl rfl (Grp.op1 (h_mv (o_t rfl)) <|
 Grp.op (h_call1 sp_r36_has (.cons (o_t rfl) <| .one (o_u8 61 rfl))) fun x10 =>
 Grp.op (h_not (o_t rfl)) fun x11 =>
 Grp.nil (o_t rfl)) fun x12 =>
 Sim.op1 (h_mv (o_t rfl)) <|
 Sim.or 2 rfl rfl rfl (Grp.op1 (h_mv (o_t rfl)) <|
 Grp.op (h_call1 sp_r36_has (.cons (o_t rfl) <| .one (o_u8 10 rfl))) fun x13 =>
 Grp.nil (o_t rfl)) fun x14 =>
 Sim.doneS <| Sim.cond (o_t rfl) (
 Sim.seqI <| Sim.op (h_bld rfl rfl (.nil _)) fun x15 =>
 Sim.opM (M_stC (o_t rfl) (o_t rfl) rfl rfl (Fld.id _) rfl) fun x16 =>
 Sim.op1 (h_mv o_i) <|
 Sim.doneS <| Sim.ret (.cons (res_c rfl rfl rfl (Fld.id _) rfl rfl) <| .one (res_t rfl))) (
 Sim.skip <| Sim.doneS <| Sim.seqI <| Sim.op1 (h_mv (o_t rfl)) <|
 Sim.op1 (h_mv (o_t rfl)) <|
 Sim.op1 (h_mv (o_t rfl)) <|
 Sim.op (h_lens (o_t rfl)) fun x17 =>
 Sim.op (h_add (I := (IT.int .i64)) (o_t rfl) o_i) fun x18 =>
 Sim.op (h_sls (o_t rfl) (.some (o_t rfl)) .none) fun x19 =>
 Sim.op (h_bld rfl rfl (.cons F_r36_Pair_Key rfl (o_t rfl) <| .cons F_r36_Pair_Value rfl (o_t rfl) <| .nil _)) fun x20 =>
 Sim.opM (M_stC (o_t rfl) (o_t rfl) rfl rfl (Fld.id _) rfl) fun x21 =>
 Sim.op1 (h_mv o_i) <|
 Sim.doneS <| Sim.ret (.cons (res_c rfl rfl rfl (Fld.id _) rfl rfl) <| .one (res_t rfl))))
theorem sp_r36_Parse : Spec tb fn_r36_Parse [T.str] [T_r36_Pair, (T.int .i64)] (fun a => r36_Parse a) :=
  Spec.of f_r36_Parse rfl rfl rfl sim_r36_Parse

noncomputable def l36_PairlineLines (a0 : Str) (a1 : Str) (a2 : Str) : Option Bool :=
 (orO (decide (700 < (a0.length : Int))) (some (decide (700 < (a1.length : Int))))).bind fun x5 =>
 (orO x5 (some (decide (700 < (a2.length : Int))))).bind fun x8 =>
 if x8 = true then
 (l36_alive ()).bind fun x9 =>
 some x9
 else
 (pairline_Text (⟨a0, a1⟩ : S_pairline_Pair)).bind fun x11 =>
 (r36_Text (⟨a0, a1⟩ : S_r36_Pair)).bind fun x15 =>
 (orO (!decide (x11.1 = x15.1)) (some (!decide (x11.2 = x15.2)))).bind fun x20 =>
 if x20 = true then
 some false
 else
 (fun (k23 : Unit → Option _) => if (decide (x15.2 = 0)) = true then
 (pairline_Parse x11.1).bind fun x54 =>
 (orO (!decide (x54.1.Key = a0)) (some (!decide (x54.1.Value = a1)))).bind fun x63 =>
 (orO x63 (some (!decide (x54.2 = 0)))).bind fun x65 =>
 if x65 = true then
 some false
 else
 k23 ()
 else
 k23 ()) fun p22 =>
 (pairline_Parse a2).bind fun x24 =>
 (r36_Parse a2).bind fun x29 =>
 (orO (!decide (x24.1.Key = x29.1.Key)) (some (!decide (x24.1.Value = x29.1.Value)))).bind fun x40 =>
 (orO x40 (some (!decide (x24.2 = x29.2)))).bind fun x42 =>
 if x42 = true then
 some false
 else
 (pairline_Text x24.1).bind fun x44 =>
 (orO (!decide (x29.2 = 0)) ((andO (decide (x44.1 = a2)) (some (decide (x44.2 = 0)))).bind fun x50 =>
 some x50)).bind fun x51 =>
 (andO x51 ((l36_alive ()).bind fun x52 =>
 some x52)).bind fun x53 =>
 some x53
noncomputable def sim_l36_PairlineLines (a : Res [T.str, T.str, T.str]) : Sim tb ⟨argsT [T.str, T.str, T.str] 0 a, []⟩ c_l36_PairlineLines.body [] (QRes [T.b] c_l36_PairlineLines.res) :=
 Sim.seqI <| Sim.op1 (h_mv o_b) <|
 Sim.doneS <| Sim.seqI <| Sim.seqI <| Sim.op1 (h_mv (o_t rfl)) <|
 Sim.op (h_lens (o_t rfl)) fun x1 =>
 Sim.op (h_cmp (I := (IT.int .i64)) rfl (o_t rfl) o_i) fun x2 =>
 Sim.op1 (h_mv (o_t rfl)) <|
 Sim.or 3 rfl rfl rfl (Grp.op1 (h_mv (o_t rfl)) <|
 Grp.op (h_lens (o_t rfl)) fun x3 =>
 Grp.op (h_cmp (I := (IT.int .i64)) rfl (o_t rfl) o_i) fun x4 =>
 Grp.nil (o_t rfl)) fun x5 =>
 Sim.op1 (h_mv (o_t rfl)) <|
 Sim.or 3 rfl rfl rfl (Grp.op1 (h_mv (o_t rfl)) <|
 Grp.op (h_lens (o_t rfl)) fun x6 =>
 Grp.op (h_cmp (I := (IT.int .i64)) rfl (o_t rfl) o_i) fun x7 =>
 Grp.nil (o_t rfl)) fun x8 =>
 Sim.doneS <| Sim.cond (o_t rfl) (
 Sim.seqI <| Sim.op (h_call1 sp_l36_alive (.nil)) fun x9 =>
 Sim.op1 (h_mv (o_t rfl)) <|
 Sim.doneS <| Sim.ret (.one (res_t rfl))) (
 Sim.skip <| Sim.doneS <| Sim.seqI <| Sim.op1 (h_mv (o_t rfl)) <|
 Sim.op1 (h_mv (o_t rfl)) <|
 Sim.op (h_bld rfl rfl (.cons F_pairline_Pair_Key rfl (o_t rfl) <| .cons F_pairline_Pair_Value rfl (o_t rfl) <| .nil _)) fun x10 =>
 Sim.op (h_callN sp_pairline_Text (.one (o_t rfl))) fun x11 =>
 Sim.op1 (h_mv (o_t rfl)) <|
 Sim.opn (h_ext (o_t rfl) rfl) fun x12 =>
 Sim.opn (h_ext (o_t rfl) rfl) fun x13 =>
 Sim.op1 (h_mv (o_t rfl)) <|
 Sim.op1 (h_mv (o_t rfl)) <|
 Sim.doneS <| Sim.seqI <| Sim.op1 (h_mv (o_t rfl)) <|
 Sim.op1 (h_mv (o_t rfl)) <|
 Sim.op (h_bld rfl rfl (.cons F_r36_Pair_Key rfl (o_t rfl) <| .cons F_r36_Pair_Value rfl (o_t rfl) <| .nil _)) fun x14 =>
 Sim.op (h_callN sp_r36_Text (.one (o_t rfl))) fun x15 =>
 Sim.op1 (h_mv (o_t rfl)) <|
 Sim.opn (h_ext (o_t rfl) rfl) fun x16 =>
 Sim.opn (h_ext (o_t rfl) rfl) fun x17 =>
 Sim.op1 (h_mv (o_t rfl)) <|
 Sim.op1 (h_mv (o_t rfl)) <|
 Sim.doneS <| Sim.seqI <| Sim.seqI <| Sim.op1 (h_mv (o_t rfl)) <|
 Sim.op1 (h_mv (o_t rfl)) <|
 Sim.op (h_sneq (o_t rfl) (o_t rfl)) fun x18 =>
 Sim.op1 (h_mv (o_t rfl)) <|
 Sim.or 3 rfl rfl rfl (Grp.op1 (h_mv (o_t rfl)) <|
 Grp.op1 (h_mv (o_t rfl)) <|
 Grp.op (h_cmp (I := (IT.int .i64)) rfl (o_t rfl) (o_t rfl)) fun x19 =>
 Grp.nil (o_t rfl)) fun x20 =>
 Sim.doneS <| Sim.cond (o_t rfl) (
 Sim.seqI <| Sim.op1 (h_mv o_b) <|
 Sim.doneS <| Sim.ret (.one (res_t rfl))) (
 Sim.skip <| Sim.doneS <| Sim.seqI <| Sim.seqI <| Sim.op1 (h_mv (o_t rfl)) <|
 Sim.op (h_cmp (I := (IT.int .i64)) rfl (o_t rfl) o_i) fun x21 =>
 Sim.doneS <| Sim.join (τ := Unit) (fun p22 => ⟨[(2, .val T.str a.2.2)], []⟩) (fun p22 =>
 Sim.doneS <| Sim.seqI <| Sim.op1 (h_mv (o_t rfl)) <|
 Sim.op (h_callN sp_pairline_Parse (.one (o_t rfl))) fun x24 =>
 Sim.op1 (h_mv (o_t rfl)) <|
 Sim.opn (h_ext (o_t rfl) rfl) fun x25 =>
 Sim.opn (h_ext (o_t rfl) rfl) fun x26 =>
 Sim.opM (M_alloc (t := T_pairline_Pair) 13 rfl rfl) fun x27 =>
 Sim.opM (M_stC (o_t rfl) (o_t rfl) rfl rfl (Fld.id _) rfl) fun x28 =>
 Sim.op1 (h_mv (o_t rfl)) <|
 Sim.doneS <| Sim.seqI <| Sim.op1 (h_mv (o_t rfl)) <|
 Sim.op (h_callN sp_r36_Parse (.one (o_t rfl))) fun x29 =>
 Sim.op1 (h_mv (o_t rfl)) <|
 Sim.opn (h_ext (o_t rfl) rfl) fun x30 =>
 Sim.opn (h_ext (o_t rfl) rfl) fun x31 =>
 Sim.opM (M_alloc (t := T_r36_Pair) 15 rfl rfl) fun x32 =>
 Sim.opM (M_stC (o_t rfl) (o_t rfl) rfl rfl (Fld.id _) rfl) fun x33 =>
 Sim.op1 (h_mv (o_t rfl)) <|
 Sim.doneS <| Sim.seqI <| Sim.seqI <| Sim.op1 (h_faC (o_t rfl)) <|
 Sim.opn (h_ldC (t := T_pairline_Pair) (u := T.str) (o_t rfl) rfl rfl F_pairline_Pair_Key rfl rfl) fun x34 =>
 Sim.op1 (h_faC (o_t rfl)) <|
 Sim.opn (h_ldC (t := T_r36_Pair) (u := T.str) (o_t rfl) rfl rfl F_r36_Pair_Key rfl rfl) fun x35 =>
 Sim.op (h_sneq (o_t rfl) (o_t rfl)) fun x36 =>
 Sim.op1 (h_mv (o_t rfl)) <|
 Sim.or 5 rfl rfl rfl (Grp.op1 (h_faC (o_t rfl)) <|
 Grp.opn (h_ldC (t := T_pairline_Pair) (u := T.str) (o_t rfl) rfl rfl F_pairline_Pair_Value rfl rfl) fun x37 =>
 Grp.op1 (h_faC (o_t rfl)) <|
 Grp.opn (h_ldC (t := T_r36_Pair) (u := T.str) (o_t rfl) rfl rfl F_r36_Pair_Value rfl rfl) fun x38 =>
 Grp.op (h_sneq (o_t rfl) (o_t rfl)) fun x39 =>
 Grp.nil (o_t rfl)) fun x40 =>
 Sim.op1 (h_mv (o_t rfl)) <|
 Sim.or 3 rfl rfl rfl (Grp.op1 (h_mv (o_t rfl)) <|
 Grp.op1 (h_mv (o_t rfl)) <|
 Grp.op (h_cmp (I := (IT.int .i64)) rfl (o_t rfl) (o_t rfl)) fun x41 =>
 Grp.nil (o_t rfl)) fun x42 =>
 Sim.doneS <| Sim.cond (o_t rfl) (
 Sim.seqI <| Sim.op1 (h_mv o_b) <|
 Sim.doneS <| Sim.ret (.one (res_t rfl))) (
 Sim.skip <| Sim.doneS <| Sim.seqI <| Sim.opn (h_ldC (t := T_pairline_Pair) (u := T_pairline_Pair) (o_t rfl) rfl rfl (Fld.id _) rfl rfl) fun x43 =>
 Sim.op (h_callN sp_pairline_Text (.one (o_t rfl))) fun x44 =>
 Sim.op1 (h_mv (o_t rfl)) <|
 Sim.opn (h_ext (o_t rfl) rfl) fun x45 =>
 Sim.opn (h_ext (o_t rfl) rfl) fun x46 =>
 Sim.op1 (h_mv (o_t rfl)) <|
 Sim.op1 (h_mv (o_t rfl)) <|
 Sim.doneS <| Sim.seqI <| Sim.op1 (h_mv (o_t rfl)) <|
 Sim.op (h_cmp (I := (IT.int .i64)) rfl (o_t rfl) o_i) fun x47 =>
 Sim.op1 (h_mv (o_t rfl)) <|
 Sim.or 7 rfl rfl rfl (Grp.op1 (h_mv (o_t rfl)) <|
 Grp.op1 (h_mv (o_t rfl)) <|
 Grp.op (h_seql (o_t rfl) (o_t rfl)) fun x48 =>
 Grp.op1 (h_mv (o_t rfl)) <|
 Grp.and 2 rfl rfl rfl rfl rfl (Grp.op1 (h_mv (o_t rfl)) <|
 Grp.op (h_cmp (I := (IT.int .i64)) rfl (o_t rfl) o_i) fun x49 =>
 Grp.nil (o_t rfl)) fun x50 =>
 Grp.nil (o_t rfl)) fun x51 =>
 Sim.op1 (h_mv (o_t rfl)) <|
 Sim.and 1 rfl rfl rfl (Grp.op (h_call1 sp_l36_alive (.nil)) fun x52 =>
 Grp.nil (o_t rfl)) fun x53 =>
 Sim.op1 (h_mv (o_t rfl)) <|
 Sim.doneS <| Sim.ret (.one (res_t rfl)))) fun k23 => Sim.cond (o_t rfl) (
 Sim.seqI <| Sim.op1 (h_mv (o_t rfl)) <|
 Sim.op (h_callN sp_pairline_Parse (.one (o_t rfl))) fun x54 =>
 Sim.op1 (h_mv (o_t rfl)) <|
 Sim.opn (h_ext (o_t rfl) rfl) fun x55 =>
 Sim.opn (h_ext (o_t rfl) rfl) fun x56 =>
 Sim.opM (M_alloc (t := T_pairline_Pair) 11 rfl rfl) fun x57 =>
 Sim.opM (M_stC (o_t rfl) (o_t rfl) rfl rfl (Fld.id _) rfl) fun x58 =>
 Sim.op1 (h_mv (o_t rfl)) <|
 Sim.doneS <| Sim.seqI <| Sim.op1 (h_faC (o_t rfl)) <|
 Sim.opn (h_ldC (t := T_pairline_Pair) (u := T.str) (o_t rfl) rfl rfl F_pairline_Pair_Key rfl rfl) fun x59 =>
 Sim.op1 (h_mv (o_t rfl)) <|
 Sim.op (h_sneq (o_t rfl) (o_t rfl)) fun x60 =>
 Sim.op1 (h_mv (o_t rfl)) <|
 Sim.or 4 rfl rfl rfl (Grp.op1 (h_faC (o_t rfl)) <|
 Grp.opn (h_ldC (t := T_pairline_Pair) (u := T.str) (o_t rfl) rfl rfl F_pairline_Pair_Value rfl rfl) fun x61 =>
 Grp.op1 (h_mv (o_t rfl)) <|
 Grp.op (h_sneq (o_t rfl) (o_t rfl)) fun x62 =>
 Grp.nil (o_t rfl)) fun x63 =>
 Sim.op1 (h_mv (o_t rfl)) <|
 Sim.or 2 rfl rfl rfl (Grp.op1 (h_mv (o_t rfl)) <|
 Grp.op (h_cmp (I := (IT.int .i64)) rfl (o_t rfl) o_i) fun x64 =>
 Grp.nil (o_t rfl)) fun x65 =>
 Sim.doneS <| Sim.cond (o_t rfl) (
 Sim.seqI <| Sim.op1 (h_mv o_b) <|
 Sim.doneS <| Sim.ret (.one (res_t rfl))) (
 Sim.skip <| Sim.weak (k23 ()) ⟨⟨⟨rfl, trivial⟩, trivial⟩, trivial⟩)) (
 Sim.skip <| Sim.weak (k23 ()) ⟨⟨⟨rfl, trivial⟩, trivial⟩, trivial⟩)))
theorem sp_l36_PairlineLines : Spec tb fn_l36_PairlineLines [T.str, T.str, T.str] [T.b] (fun a => l36_PairlineLines a.1 a.2.1 a.2.2) :=
  Spec.of f_l36_PairlineLines rfl rfl rfl sim_l36_PairlineLines

noncomputable def internal_stringslite_HasPrefix (a0 : Str) (a1 : Str) : Option Bool :=
 (andO (decide ((a1.length : Int) ≤ (a0.length : Int))) ((subL a0 none (some (a1.length : Int))).bind fun x5 =>
 some (decide (x5 = a1)))).bind fun x7 =>
 some x7
noncomputable def sim_internal_stringslite_HasPrefix (a : Res [T.str, T.str]) : Sim tb ⟨argsT [T.str, T.str] 0 a, []⟩ c_internal_stringslite_HasPrefix.body [] (QRes [T.b] c_internal_stringslite_HasPrefix.res) :=
 Sim.seqI <| Sim.op1 (h_mv o_b) <|
 Sim.doneS <| Sim.seqI <| Sim.op1 (h_mv (o_t rfl)) <|
 Sim.op (h_lens (o_t rfl)) fun x1 =>
 Sim.op1 (h_mv (o_t rfl)) <|
 Sim.op (h_lens (o_t rfl)) fun x2 =>
 Sim.op (h_cmp (I := (IT.int .i64)) rfl (o_t rfl) (o_t rfl)) fun x3 =>
 Sim.op1 (h_mv (o_t rfl)) <|
 Sim.and 6 rfl rfl rfl (Grp.op1 (h_mv (o_t rfl)) <|
 Grp.op1 (h_mv (o_t rfl)) <|
 Grp.op (h_lens (o_t rfl)) fun x4 =>
 Grp.op (h_sls (o_t rfl) .none (.some (o_t rfl))) fun x5 =>
 Grp.op1 (h_mv (o_t rfl)) <|
 Grp.op (h_seql (o_t rfl) (o_t rfl)) fun x6 =>
 Grp.nil (o_t rfl)) fun x7 =>
 Sim.op1 (h_mv (o_t rfl)) <|
 Sim.doneS <| Sim.ret (.one (res_t rfl))
theorem sp_internal_stringslite_HasPrefix : Spec tb fn_internal_stringslite_HasPrefix [T.str, T.str] [T.b] (fun a => internal_stringslite_HasPrefix a.1 a.2) :=
  Spec.of f_internal_stringslite_HasPrefix rfl rfl rfl sim_internal_stringslite_HasPrefix

noncomputable def strings_HasPrefix (a0 : Str) (a1 : Str) : Option Bool :=
 (internal_stringslite_HasPrefix a0 a1).bind fun x1 =>
 some x1
noncomputable def sim_strings_HasPrefix (a : Res [T.str, T.str]) : Sim tb ⟨argsT [T.str, T.str] 0 a, []⟩ c_strings_HasPrefix.body [] (QRes [T.b] c_strings_HasPrefix.res) :=
 Sim.seqI <| Sim.op1 (h_mv o_b) <|
 Sim.doneS <| Sim.seqI <| Sim.op1 (h_mv (o_t rfl)) <|
 Sim.op1 (h_mv (o_t rfl)) <|
 Sim.op (h_call1 sp_internal_stringslite_HasPrefix (.cons (o_t rfl) <| .one (o_t rfl))) fun x1 =>
 Sim.op1 (h_mv (o_t rfl)) <|
 Sim.doneS <| Sim.ret (.one (res_t rfl))
theorem sp_strings_HasPrefix : Spec tb fn_strings_HasPrefix [T.str, T.str] [T.b] (fun a => strings_HasPrefix a.1 a.2) :=
  Spec.of f_strings_HasPrefix rfl rfl rfl sim_strings_HasPrefix

noncomputable def internal_stringslite_CutSuffix (a0 : Str) (a1 : Str) : Option (Str × Bool) :=
 (internal_stringslite_HasSuffix a0 a1).bind fun x1 =>
 if (!x1) = true then
 some (a0, false)
 else
 let x5 := IntKind.i64.wrap ((a0.length : Int) - (a1.length : Int))
 (subL a0 none (some x5)).bind fun x6 =>
 some (x6, true)
noncomputable def sim_internal_stringslite_CutSuffix (a : Res [T.str, T.str]) : Sim tb ⟨argsT [T.str, T.str] 0 a, []⟩ c_internal_stringslite_CutSuffix.body [] (QRes [T.str, T.b] c_internal_stringslite_CutSuffix.res) :=
 Sim.seqI <| Sim.op1 (h_mv o_s) <|
 Sim.op1 (h_mv o_b) <|
 Sim.doneS <| Sim.seqI <| Sim.seqI <| Sim.op1 (h_mv (o_t rfl)) <|
 Sim.op1 (h_mv (o_t rfl)) <|
 Sim.op (h_call1 sp_internal_stringslite_HasSuffix (.cons (o_t rfl) <| .one (o_t rfl))) fun x1 =>
 Sim.op (h_not (o_t rfl)) fun x2 =>
 Sim.doneS <| Sim.cond (o_t rfl) (
 Sim.seqI <| Sim.op1 (h_mv (o_t rfl)) <|
 Sim.op1 (h_mv (o_t rfl)) <|
 Sim.op1 (h_mv o_b) <|
 Sim.doneS <| Sim.ret (.cons (res_t rfl) <| .one (res_t rfl))) (
 Sim.skip <| Sim.doneS <| Sim.seqI <| Sim.op1 (h_mv (o_t rfl)) <|
 Sim.op1 (h_mv (o_t rfl)) <|
 Sim.op (h_lens (o_t rfl)) fun x3 =>
 Sim.op1 (h_mv (o_t rfl)) <|
 Sim.op (h_lens (o_t rfl)) fun x4 =>
 Sim.op (h_sub (I := (IT.int .i64)) (o_t rfl) (o_t rfl)) fun x5 =>
 Sim.op (h_sls (o_t rfl) .none (.some (o_t rfl))) fun x6 =>
 Sim.op1 (h_mv (o_t rfl)) <|
 Sim.op1 (h_mv o_b) <|
 Sim.doneS <| Sim.ret (.cons (res_t rfl) <| .one (res_t rfl)))
theorem sp_internal_stringslite_CutSuffix : Spec tb fn_internal_stringslite_CutSuffix [T.str, T.str] [T.str, T.b] (fun a => internal_stringslite_CutSuffix a.1 a.2) :=
  Spec.of f_internal_stringslite_CutSuffix rfl rfl rfl sim_internal_stringslite_CutSuffix

noncomputable def strings_CutSuffix (a0 : Str) (a1 : Str) : Option (Str × Bool) :=
 (internal_stringslite_CutSuffix a0 a1).bind fun x1 =>
 some (x1.1, x1.2)
noncomputable def sim_strings_CutSuffix (a : Res [T.str, T.str]) : Sim tb ⟨argsT [T.str, T.str] 0 a, []⟩ c_strings_CutSuffix.body [] (QRes [T.str, T.b] c_strings_CutSuffix.res) :=
 Sim.seqI <| Sim.op1 (h_mv o_s) <|
 Sim.op1 (h_mv o_b) <|
 Sim.doneS <| Sim.seqI <| Sim.op1 (h_mv (o_t rfl)) <|
 Sim.op1 (h_mv (o_t rfl)) <|
 Sim.op (h_callN sp_internal_stringslite_CutSuffix (.cons (o_t rfl) <| .one (o_t rfl))) fun x1 =>
 Sim.opn (h_ext (o_t rfl) rfl) fun x2 =>
 Sim.opn (h_ext (o_t rfl) rfl) fun x3 =>
 Sim.op1 (h_mv (o_t rfl)) <|
 Sim.op1 (h_mv (o_t rfl)) <|
 Sim.doneS <| Sim.ret (.cons (res_t rfl) <| .one (res_t rfl))
theorem sp_strings_CutSuffix : Spec tb fn_strings_CutSuffix [T.str, T.str] [T.str, T.b] (fun a => strings_CutSuffix a.1 a.2) :=
  Spec.of f_strings_CutSuffix rfl rfl rfl sim_strings_CutSuffix

noncomputable def internal_stringslite_TrimPrefix (a0 : Str) (a1 : Str) : Option Str :=
 (internal_stringslite_HasPrefix a0 a1).bind fun x1 =>
 if x1 = true then
 (subL a0 (some (a1.length : Int)) none).bind fun x3 =>
 some x3
 else
 some a0
noncomputable def sim_internal_stringslite_TrimPrefix (a : Res [T.str, T.str]) : Sim tb ⟨argsT [T.str, T.str] 0 a, []⟩ c_internal_stringslite_TrimPrefix.body [] (QRes [T.str] c_internal_stringslite_TrimPrefix.res) :=
 Sim.seqI <| Sim.op1 (h_mv o_s) <|
 Sim.doneS <| Sim.seqI <| Sim.seqI <| Sim.op1 (h_mv (o_t rfl)) <|
 Sim.op1 (h_mv (o_t rfl)) <|
 Sim.op (h_call1 sp_internal_stringslite_HasPrefix (.cons (o_t rfl) <| .one (o_t rfl))) fun x1 =>
 Sim.doneS <| Sim.cond (o_t rfl) (
 Sim.seqI <| Sim.op1 (h_mv (o_t rfl)) <|
 Sim.op1 (h_mv (o_t rfl)) <|
 Sim.op (h_lens (o_t rfl)) fun x2 =>
 Sim.op (h_sls (o_t rfl) (.some (o_t rfl)) .none) fun x3 =>
 Sim.op1 (h_mv (o_t rfl)) <|
 Sim.doneS <| Sim.ret (.one (res_t rfl))) (
 Sim.skip <| Sim.doneS <| Sim.seqI <| Sim.op1 (h_mv (o_t rfl)) <|
 Sim.op1 (h_mv (o_t rfl)) <|
 Sim.doneS <| Sim.ret (.one (res_t rfl)))
theorem sp_internal_stringslite_TrimPrefix : Spec tb fn_internal_stringslite_TrimPrefix [T.str, T.str] [T.str] (fun a => internal_stringslite_TrimPrefix a.1 a.2) :=
  Spec.of f_internal_stringslite_TrimPrefix rfl rfl rfl sim_internal_stringslite_TrimPrefix

noncomputable def strings_TrimPrefix (a0 : Str) (a1 : Str) : Option Str :=
 (internal_stringslite_TrimPrefix a0 a1).bind fun x1 =>
 some x1
noncomputable def sim_strings_TrimPrefix (a : Res [T.str, T.str]) : Sim tb ⟨argsT [T.str, T.str] 0 a, []⟩ c_strings_TrimPrefix.body [] (QRes [T.str] c_strings_TrimPrefix.res) :=
 Sim.seqI <| Sim.op1 (h_mv o_s) <|
 Sim.doneS <| Sim.seqI <| Sim.op1 (h_mv (o_t rfl)) <|
 Sim.op1 (h_mv (o_t rfl)) <|
 Sim.op (h_call1 sp_internal_stringslite_TrimPrefix (.cons (o_t rfl) <| .one (o_t rfl))) fun x1 =>
 Sim.op1 (h_mv (o_t rfl)) <|
 Sim.doneS <| Sim.ret (.one (res_t rfl))
theorem sp_strings_TrimPrefix : Spec tb fn_strings_TrimPrefix [T.str, T.str] [T.str] (fun a => strings_TrimPrefix a.1 a.2) :=
  Spec.of f_strings_TrimPrefix rfl rfl rfl sim_strings_TrimPrefix

noncomputable def inilex_section (a0 : Str) : Option (S_inilex_Item × Bool) :=
 (strings_CutSuffix a0 [93]).bind fun x2 =>
 if (!x2.2) = true then
 some ((⟨false, [], [], 0⟩ : S_inilex_Item), false)
 else
 (strings_TrimPrefix x2.1 [91]).bind fun x8 =>
 (lines_Trim x8).bind fun x9 =>
 (lines_Fold x9).bind fun x10 =>
 some ((⟨true, x10, [], 0⟩ : S_inilex_Item), !decide (x9 = []))
noncomputable def sim_inilex_section (a : Res [T.str]) : Sim tb ⟨argsT [T.str] 0 a, []⟩ c_inilex_section.body [] (QRes [T_inilex_Item, T.b] c_inilex_section.res) :=
 Sim.seqI <| Sim.opM (M_alloc (t := T_inilex_Item) 2 rfl rfl) fun x1 =>
 Sim.op1 (h_mv o_b) <|
 Sim.doneS <| Sim.seqI <| Sim.op1 (h_mv (o_t rfl)) <|
 Sim.op (h_callN sp_strings_CutSuffix (.cons (o_t rfl) <| .one o_s)) fun x2 =>
 Sim.op1 (h_mv (o_t rfl)) <|
 Sim.opn (h_ext (o_t rfl) rfl) fun x3 =>
 Sim.opn (h_ext (o_t rfl) rfl) fun x4 =>
 Sim.op1 (h_mv (o_t rfl)) <|
 Sim.op1 (h_mv (o_t rfl)) <|
 Sim.doneS <| Sim.seqI <| Sim.seqI <| Sim.op1 (h_mv (o_t rfl)) <|
 Sim.op (h_not (o_t rfl)) fun x5 =>
 Sim.doneS <| Sim.cond (o_t rfl) (
 Sim.seqI <| Sim.op (h_bld rfl rfl (.nil _)) fun x6 =>
 Sim.opM (M_stC (o_t rfl) (o_t rfl) rfl rfl (Fld.id _) rfl) fun x7 =>
 Sim.op1 (h_mv o_b) <|
 Sim.doneS <| Sim.ret (.cons (res_c rfl rfl rfl (Fld.id _) rfl rfl) <| .one (res_t rfl))) (
 Sim.skip <| Sim.doneS <| Sim.seqI <| Sim.op1 (h_mv (o_t rfl)) <|
 Sim.op (h_call1 sp_strings_TrimPrefix (.cons (o_t rfl) <| .one o_s)) fun x8 =>
 Sim.op (h_call1 sp_lines_Trim (.one (o_t rfl))) fun x9 =>
 Sim.op1 (h_mv (o_t rfl)) <|
 Sim.doneS <| Sim.seqI <| Sim.op1 (h_mv (o_t rfl)) <|
 Sim.op (h_call1 sp_lines_Fold (.one (o_t rfl))) fun x10 =>
 Sim.op (h_bld rfl rfl (.cons F_inilex_Item_Section rfl o_b <| .cons F_inilex_Item_Name rfl (o_t rfl) <| .nil _)) fun x11 =>
 Sim.op1 (h_mv (o_t rfl)) <|
 Sim.op (h_sneq (o_t rfl) o_s) fun x12 =>
 Sim.opM (M_stC (o_t rfl) (o_t rfl) rfl rfl (Fld.id _) rfl) fun x13 =>
 Sim.op1 (h_mv (o_t rfl)) <|
 Sim.doneS <| Sim.ret (.cons (res_c rfl rfl rfl (Fld.id _) rfl rfl) <| .one (res_t rfl)))
theorem sp_inilex_section : Spec tb fn_inilex_section [T.str] [T_inilex_Item, T.b] (fun a => inilex_section a) :=
  Spec.of f_inilex_section rfl rfl rfl sim_inilex_section

noncomputable def inilex_pair (a0 : Str) : Option (S_inilex_Item × Bool) :=
 (lines_Cut a0 (61 : UInt8)).bind fun x2 =>
 (lines_Trim x2.1).bind fun x6 =>
 (orO (!x2.2.2) (some (decide (x6 = [])))).bind fun x9 =>
 if x9 = true then
 some ((⟨false, [], [], 0⟩ : S_inilex_Item), false)
 else
 (lines_Fold x6).bind fun x12 =>
 (lines_Trim x2.2.1).bind fun x13 =>
 some ((⟨false, x12, x13, 0⟩ : S_inilex_Item), true)
noncomputable def sim_inilex_pair (a : Res [T.str]) : Sim tb ⟨argsT [T.str] 0 a, []⟩ c_inilex_pair.body [] (QRes [T_inilex_Item, T.b] c_inilex_pair.res) :=
 Sim.seqI <| Sim.opM (M_alloc (t := T_inilex_Item) 2 rfl rfl) fun x1 =>
 Sim.op1 (h_mv o_b) <|
 Sim.doneS <| Sim.seqI <| Sim.op1 (h_mv (o_t rfl)) <|
 Sim.op (h_callN sp_lines_Cut (.cons (o_t rfl) <| .one (o_u8 61 rfl))) fun x2 =>
 Sim.op1 (h_mv (o_t rfl)) <|
 Sim.opn (h_ext (o_t rfl) rfl) fun x3 =>
 Sim.opn (h_ext (o_t rfl) rfl) fun x4 =>
 Sim.opn (h_ext (o_t rfl) rfl) fun x5 =>
 Sim.op1 (h_mv (o_t rfl)) <|
 Sim.op1 (h_mv (o_t rfl)) <|
 Sim.op1 (h_mv (o_t rfl)) <|
 Sim.doneS <| Sim.seqI <| Sim.op1 (h_mv (o_t rfl)) <|
 Sim.op (h_call1 sp_lines_Trim (.one (o_t rfl))) fun x6 =>
 Sim.op1 (h_mv (o_t rfl)) <|
 Sim.doneS <| Sim.seqI <| Sim.seqI <| Sim.op1 (h_mv (o_t rfl)) <|
 Sim.op (h_not (o_t rfl)) fun x7 =>
 Sim.op1 (h_mv (o_t rfl)) <|
 Sim.or 2 rfl rfl rfl (Grp.op1 (h_mv (o_t rfl)) <|
 Grp.op (h_seql (o_t rfl) o_s) fun x8 =>
 Grp.nil (o_t rfl)) fun x9 =>
 Sim.doneS <| Sim.cond (o_t rfl) (
 Sim.seqI <| Sim.op (h_bld rfl rfl (.nil _)) fun x10 =>
 Sim.opM (M_stC (o_t rfl) (o_t rfl) rfl rfl (Fld.id _) rfl) fun x11 =>
 Sim.op1 (h_mv o_b) <|
 Sim.doneS <| Sim.ret (.cons (res_c rfl rfl rfl (Fld.id _) rfl rfl) <| .one (res_t rfl))) (
 Sim.skip <| Sim.doneS <| Sim.seqI <| Sim.op1 (h_mv (o_t rfl)) <|
 Sim.op (h_call1 sp_lines_Fold (.one (o_t rfl))) fun x12 =>
 Sim.op1 (h_mv (o_t rfl)) <|
 Sim.op (h_call1 sp_lines_Trim (.one (o_t rfl))) fun x13 =>
 Sim.op (h_bld rfl rfl (.cons F_inilex_Item_Name rfl (o_t rfl) <| .cons F_inilex_Item_Value rfl (o_t rfl) <| .nil _)) fun x14 =>
 Sim.opM (M_stC (o_t rfl) (o_t rfl) rfl rfl (Fld.id _) rfl) fun x15 =>
 Sim.op1 (h_mv o_b) <|
 Sim.doneS <| Sim.ret (.cons (res_c rfl rfl rfl (Fld.id _) rfl rfl) <| .one (res_t rfl)))
theorem sp_inilex_pair : Spec tb fn_inilex_pair [T.str] [T_inilex_Item, T.b] (fun a => inilex_pair a) :=
  Spec.of f_inilex_pair rfl rfl rfl sim_inilex_pair

noncomputable def inilex_say (a0 : Str) : Option (S_inilex_Item × Bool) :=
 (strings_HasPrefix a0 [91]).bind fun x2 =>
 if x2 = true then
 (inilex_section a0).bind fun x3 =>
 some (x3.1, x3.2)
 else
 (inilex_pair a0).bind fun x7 =>
 some (x7.1, x7.2)
noncomputable def sim_inilex_say (a : Res [T.str]) : Sim tb ⟨argsT [T.str] 0 a, []⟩ c_inilex_say.body [] (QRes [T_inilex_Item, T.b] c_inilex_say.res) :=
 Sim.seqI <| Sim.opM (M_alloc (t := T_inilex_Item) 2 rfl rfl) fun x1 =>
 Sim.op1 (h_mv o_b) <|
 Sim.doneS <| Sim.seqI <| Sim.seqI <| Sim.op1 (h_mv (o_t rfl)) <|
 Sim.op (h_call1 sp_strings_HasPrefix (.cons (o_t rfl) <| .one o_s)) fun x2 =>
 Sim.doneS <| Sim.cond (o_t rfl) (
 Sim.seqI <| Sim.op1 (h_mv (o_t rfl)) <|
 Sim.op (h_callN sp_inilex_section (.one (o_t rfl))) fun x3 =>
 Sim.opn (h_ext (o_t rfl) rfl) fun x4 =>
 Sim.opn (h_ext (o_t rfl) rfl) fun x5 =>
 Sim.opM (M_stC (o_t rfl) (o_t rfl) rfl rfl (Fld.id _) rfl) fun x6 =>
 Sim.op1 (h_mv (o_t rfl)) <|
 Sim.doneS <| Sim.ret (.cons (res_c rfl rfl rfl (Fld.id _) rfl rfl) <| .one (res_t rfl))) (
 Sim.skip <| Sim.doneS <| Sim.seqI <| Sim.op1 (h_mv (o_t rfl)) <|
 Sim.op (h_callN sp_inilex_pair (.one (o_t rfl))) fun x7 =>
 Sim.opn (h_ext (o_t rfl) rfl) fun x8 =>
 Sim.opn (h_ext (o_t rfl) rfl) fun x9 =>
 Sim.opM (M_stC (o_t rfl) (o_t rfl) rfl rfl (Fld.id _) rfl) fun x10 =>
 Sim.op1 (h_mv (o_t rfl)) <|
 Sim.doneS <| Sim.ret (.cons (res_c rfl rfl rfl (Fld.id _) rfl rfl) <| .one (res_t rfl)))
theorem sp_inilex_say : Spec tb fn_inilex_say [T.str] [T_inilex_Item, T.b] (fun a => inilex_say a) :=
  Spec.of f_inilex_say rfl rfl rfl sim_inilex_say

noncomputable def inilex_Lex (a0 : Str) : Option ((GS S_inilex_Item) × Int × Int) :=
 (lines_Loose a0).bind fun x1 =>
 (iter (fun (s3 : (Int × (GS S_inilex_Item))) =>
 if (decide (s3.1 < (x1.l.length : Int))) = true then
 (orO (decide (400 ≤ s3.1)) ((idx x1.l s3.1).bind fun x7 =>
 some (decide (512 < (x7.length : Int))))).bind fun x11 =>
 if x11 = true then
 (some (.nil, IntKind.i64.wrap (s3.1 + 1), 4)).map fun r => .inr (.inr r)
 else
 (idx x1.l s3.1).bind fun x13 =>
 (lines_Cut x13 (35 : UInt8)).bind fun x15 =>
 (lines_Trim x15.1).bind fun x19 =>
 if (decide (x19 = [])) = true then
 some (.inl (IntKind.i64.wrap (s3.1 + 1), s3.2))
 else
 (inilex_say x19).bind fun x22 =>
 if (!x22.2) = true then
 (some (.nil, IntKind.i64.wrap (s3.1 + 1), 5)).map fun r => .inr (.inr r)
 else
 let x30 := { x22.1 with Line := IntKind.i64.wrap (s3.1 + 1) }
 (apG 48 s3.2 [x30]).bind fun x33 =>
 some (.inl (IntKind.i64.wrap (s3.1 + 1), x33))
 else
 some (.inr (.inl s3.2))) (0, .nil)).bind (Sum.elim (fun (p4 : (GS S_inilex_Item)) =>
 some (p4, 0, 0)) some)
noncomputable def sim_inilex_Lex (a : Res [T.str]) : Sim tb ⟨argsT [T.str] 0 a, []⟩ c_inilex_Lex.body [] (QRes [(T.sl T_inilex_Item), (T.int .i64), (T.int .i64)] c_inilex_Lex.res) :=
 Sim.seqI <| Sim.op1 (h_mv (o_nils (t := T_inilex_Item))) <| Sim.turn (born (n := 2) (j := 1002) rfl rfl) <|
 Sim.op1 (h_mv o_i) <|
 Sim.op1 (h_mv o_i) <|
 Sim.doneS <| Sim.seqI <| Sim.op1 (h_mv (o_t rfl)) <|
 Sim.op (h_call1 sp_lines_Loose (.one (o_t rfl))) fun x1 =>
 Sim.op1 (h_mv (o_t rfl)) <|
 Sim.doneS <| Sim.seqI <| Sim.op1 (h_mv (o_nils (t := T_inilex_Item))) <| Sim.turn (born (n := 6) (j := 1006) rfl rfl) <|
 Sim.doneS <| Sim.seqI <| Sim.seqI <| Sim.op1 (h_mv (o_t rfl)) <|
 Sim.op (h_len (o_t rfl)) fun x2 =>
 Sim.op1 (h_mv o_i) <|
 Sim.doneS <| Sim.blkI <| Sim.loop (id := 0) (σ := (Int × (GS S_inilex_Item))) (τ := (GS S_inilex_Item)) (fun s3 => ⟨[(5, .val (T.sl T.str) x1), (6, .own 1006), (16, .val (T.int .i64) x2), (17, .val (T.int .i64) s3.1)], [(1006, .row T_inilex_Item s3.2)]⟩) (fun p4 => ⟨[(6, .own 1006)], [(1006, .row T_inilex_Item p4)]⟩) (0, .nil) ⟨⟨⟨rfl, trivial⟩, ⟨⟨rfl, trivial⟩, ⟨⟨rfl, trivial⟩, ⟨⟨rfl, trivial⟩, trivial⟩⟩⟩⟩, ⟨⟨rfl, trivial⟩, trivial⟩⟩ (fun _ => rfl) (fun s3 =>
 Sim.seqI <| Sim.op (h_cmp (I := (IT.int .i64)) rfl (o_t rfl) (o_t rfl)) fun x5 =>
 Sim.doneS <| Sim.seqI <| Sim.cond (o_t rfl) (
 Sim.skip <| Sim.doneS <| Sim.seqI <| Sim.blkI <| Sim.seqI <| Sim.op1 (h_mv (o_t rfl)) <|
 Sim.op1 (h_mv (o_t rfl)) <|
 Sim.doneS <| Sim.seqI <| Sim.seqI <| Sim.op1 (h_mv (o_t rfl)) <|
 Sim.op (h_cmp (I := (IT.int .i64)) rfl (o_t rfl) o_i) fun x6 =>
 Sim.op1 (h_mv (o_t rfl)) <|
 Sim.or 6 rfl rfl rfl (Grp.op1 (h_mv (o_t rfl)) <|
 Grp.op1 (h_mv (o_t rfl)) <|
 Grp.op (h_ias rfl (o_t rfl) (o_t rfl)) fun x7 =>
 Grp.opn (h_ld rfl rfl (o_t rfl)) fun x8 =>
 Grp.op (h_lens (o_t rfl)) fun x9 =>
 Grp.op (h_cmp (I := (IT.int .i64)) rfl (o_t rfl) o_i) fun x10 =>
 Grp.nil (o_t rfl)) fun x11 =>
 Sim.doneS <| Sim.cond (o_t rfl) (
 Sim.seqI <| Sim.op1 (h_mv (o_t rfl)) <|
 Sim.op (h_add (I := (IT.int .i64)) (o_t rfl) o_i) fun x12 =>
 Sim.op1 (h_mv (o_nils (t := T_inilex_Item))) <| Sim.turn (born (n := 2) (j := 1002) rfl rfl) <|
 Sim.op1 (h_mv (o_t rfl)) <|
 Sim.op1 (h_mv o_i) <|
 Sim.doneS <| Sim.outRet <| Sim.frzRow 1002 rfl rfl <| Sim.ret (.cons (res_t rfl) <| .cons (res_t rfl) <| .one (res_t rfl))) (
 Sim.skip <| Sim.doneS <| Sim.seqI <| Sim.op1 (h_mv (o_t rfl)) <|
 Sim.op1 (h_mv (o_t rfl)) <|
 Sim.op (h_ias rfl (o_t rfl) (o_t rfl)) fun x13 =>
 Sim.opn (h_ld rfl rfl (o_t rfl)) fun x14 =>
 Sim.op (h_callN sp_lines_Cut (.cons (o_t rfl) <| .one (o_u8 35 rfl))) fun x15 =>
 Sim.op1 (h_mv (o_t rfl)) <|
 Sim.opn (h_ext (o_t rfl) rfl) fun x16 =>
 Sim.opn (h_ext (o_t rfl) rfl) fun x17 =>
 Sim.opn (h_ext (o_t rfl) rfl) fun x18 =>
 Sim.op1 (h_mv (o_t rfl)) <|
 Sim.op1 (h_mv (o_t rfl)) <|
 Sim.op1 (h_mv (o_t rfl)) <|
 Sim.doneS <| Sim.seqI <| Sim.op1 (h_mv (o_t rfl)) <|
 Sim.op (h_call1 sp_lines_Trim (.one (o_t rfl))) fun x19 =>
 Sim.op1 (h_mv (o_t rfl)) <|
 Sim.doneS <| Sim.seqI <| Sim.seqI <| Sim.op1 (h_mv (o_t rfl)) <|
 Sim.op (h_seql (o_t rfl) o_s) fun x20 =>
 Sim.doneS <| Sim.cond (o_t rfl) (
 Sim.exitS <| Sim.exitB <| Sim.doneS <| Sim.op (h_add (I := (IT.int .i64)) (o_t rfl) o_i) fun x21 =>
 Sim.op1 (h_mv (o_t rfl)) <|
 Sim.next (x21, s3.2) ⟨⟨⟨rfl, trivial⟩, ⟨⟨rfl, trivial⟩, ⟨⟨rfl, trivial⟩, ⟨⟨rfl, trivial⟩, trivial⟩⟩⟩⟩, ⟨⟨rfl, trivial⟩, trivial⟩⟩) (
 Sim.skip <| Sim.doneS <| Sim.seqI <| Sim.op1 (h_mv (o_t rfl)) <|
 Sim.op (h_callN sp_inilex_say (.one (o_t rfl))) fun x22 =>
 Sim.op1 (h_mv (o_t rfl)) <|
 Sim.opn (h_ext (o_t rfl) rfl) fun x23 =>
 Sim.opn (h_ext (o_t rfl) rfl) fun x24 =>
 Sim.opM (M_alloc (t := T_inilex_Item) 11 rfl rfl) fun x25 =>
 Sim.opM (M_stC (o_t rfl) (o_t rfl) rfl rfl (Fld.id _) rfl) fun x26 =>
 Sim.op1 (h_mv (o_t rfl)) <|
 Sim.doneS <| Sim.seqI <| Sim.seqI <| Sim.op1 (h_mv (o_t rfl)) <|
 Sim.op (h_not (o_t rfl)) fun x27 =>
 Sim.doneS <| Sim.cond (o_t rfl) (
 Sim.seqI <| Sim.op1 (h_mv (o_t rfl)) <|
 Sim.op (h_add (I := (IT.int .i64)) (o_t rfl) o_i) fun x28 =>
 Sim.op1 (h_mv (o_nils (t := T_inilex_Item))) <| Sim.turn (born (n := 2) (j := 1002) rfl rfl) <|
 Sim.op1 (h_mv (o_t rfl)) <|
 Sim.op1 (h_mv o_i) <|
 Sim.doneS <| Sim.outRet <| Sim.frzRow 1002 rfl rfl <| Sim.ret (.cons (res_t rfl) <| .cons (res_t rfl) <| .one (res_t rfl))) (
 Sim.skip <| Sim.doneS <| Sim.seqI <| Sim.op1 (h_mv (o_t rfl)) <|
 Sim.op (h_add (I := (IT.int .i64)) (o_t rfl) o_i) fun x29 =>
 Sim.op1 (h_faC (o_t rfl)) <|
 Sim.opM (M_stC (o_t rfl) (o_t rfl) rfl rfl F_inilex_Item_Line rfl) fun x30 =>
 Sim.doneS <| Sim.op1 (h_mv (o_t rfl)) <|
 Sim.opn (h_ldC (t := T_inilex_Item) (u := T_inilex_Item) (o_t rfl) rfl rfl (Fld.id _) rfl rfl) fun x31 =>
 Sim.op (h_bll (t := T_inilex_Item) (n := 1) rfl rfl (.cons rfl (o_t rfl) <| .nil _)) fun x32 =>
 Sim.opM (M_app rfl (o_t rfl) rfl (n_sl (o_t rfl))) fun x33 =>
 Sim.op1 (h_mv (o_t rfl)) <|
 Sim.doneB <| Sim.doneS <| Sim.op (h_add (I := (IT.int .i64)) (o_t rfl) o_i) fun x34 =>
 Sim.op1 (h_mv (o_t rfl)) <|
 Sim.next (x34, x33) ⟨⟨⟨rfl, trivial⟩, ⟨⟨rfl, trivial⟩, ⟨⟨rfl, trivial⟩, ⟨⟨rfl, trivial⟩, trivial⟩⟩⟩⟩, ⟨⟨rfl, trivial⟩, trivial⟩⟩)))) (
 Sim.exitS <| Sim.out s3.2 ⟨⟨⟨rfl, trivial⟩, trivial⟩, ⟨⟨rfl, trivial⟩, trivial⟩⟩)) (fun p4 =>
 Sim.exitB <| Sim.doneS <| Sim.seqI <| Sim.op1 (h_mv (o_t rfl)) <|
 Sim.op1 (h_mv (o_t rfl)) <|
 Sim.op1 (h_mv o_i) <|
 Sim.op1 (h_mv o_i) <|
 Sim.doneS <| Sim.frzRow 1006 rfl rfl <| Sim.ret (.cons (res_t rfl) <| .cons (res_t rfl) <| .one (res_t rfl)))
theorem sp_inilex_Lex : Spec tb fn_inilex_Lex [T.str] [(T.sl T_inilex_Item), (T.int .i64), (T.int .i64)] (fun a => inilex_Lex a) :=
  Spec.of f_inilex_Lex rfl rfl rfl sim_inilex_Lex

noncomputable def l42_alive (_ : Unit) : Option Bool :=
 (inilex_Lex [91, 32, 80, 101, 101, 114, 32, 93, 10, 65, 32, 61, 32, 98, 32, 35, 32, 99, 10]).bind fun x1 =>
 (andO (decide (x1.2.2 = 0)) (some (decide (x1.2.1 = 0)))).bind fun x7 =>
 (andO x7 (some (decide ((x1.1.l.length : Int) = 2)))).bind fun x10 =>
 (andO x10 ((idx x1.1.l 0).bind fun x11 =>
 some x11.Section)).bind fun x14 =>
 (andO x14 ((idx x1.1.l 0).bind fun x15 =>
 some (decide (x15.Name = [112, 101, 101, 114])))).bind fun x19 =>
 (andO x19 ((idx x1.1.l 1).bind fun x20 =>
 some (decide (x20.Name = [97])))).bind fun x24 =>
 (andO x24 ((idx x1.1.l 1).bind fun x25 =>
 some (decide (x25.Value = [98])))).bind fun x29 =>
 (andO x29 ((idx x1.1.l 1).bind fun x30 =>
 some (decide (x30.Line = 2)))).bind fun x34 =>
 some x34
noncomputable def sim_l42_alive (a : Res []) : Sim tb ⟨argsT [] 0 a, []⟩ c_l42_alive.body [] (QRes [T.b] c_l42_alive.res) :=
 Sim.seqI <| Sim.op1 (h_mv o_b) <|
 Sim.doneS <| Sim.seqI <| Sim.op (h_callN sp_inilex_Lex (.one o_s)) fun x1 =>
 Sim.op1 (h_mv (o_t rfl)) <|
 Sim.opn (h_ext (o_t rfl) rfl) fun x2 =>
 Sim.opn (h_ext (o_t rfl) rfl) fun x3 =>
 Sim.opn (h_ext (o_t rfl) rfl) fun x4 =>
 Sim.op1 (h_mv (o_t rfl)) <|
 Sim.op1 (h_mv (o_t rfl)) <|
 Sim.op1 (h_mv (o_t rfl)) <|
 Sim.doneS <| Sim.seqI <| Sim.op1 (h_mv (o_t rfl)) <|
 Sim.op (h_cmp (I := (IT.int .i64)) rfl (o_t rfl) o_i) fun x5 =>
 Sim.op1 (h_mv (o_t rfl)) <|
 Sim.and 2 rfl rfl rfl (Grp.op1 (h_mv (o_t rfl)) <|
 Grp.op (h_cmp (I := (IT.int .i64)) rfl (o_t rfl) o_i) fun x6 =>
 Grp.nil (o_t rfl)) fun x7 =>
 Sim.op1 (h_mv (o_t rfl)) <|
 Sim.and 3 rfl rfl rfl (Grp.op1 (h_mv (o_t rfl)) <|
 Grp.op (h_len (o_t rfl)) fun x8 =>
 Grp.op (h_cmp (I := (IT.int .i64)) rfl (o_t rfl) o_i) fun x9 =>
 Grp.nil (o_t rfl)) fun x10 =>
 Sim.op1 (h_mv (o_t rfl)) <|
 Sim.and 4 rfl rfl rfl (Grp.op1 (h_mv (o_t rfl)) <|
 Grp.op (h_ias rfl (o_t rfl) o_i) fun x11 =>
 Grp.opr (h_fa F_inilex_Item_Section (o_t rfl)) fun x12 =>
 Grp.opn (h_ld rfl rfl (o_t rfl)) fun x13 =>
 Grp.nil (o_t rfl)) fun x14 =>
 Sim.op1 (h_mv (o_t rfl)) <|
 Sim.and 5 rfl rfl rfl (Grp.op1 (h_mv (o_t rfl)) <|
 Grp.op (h_ias rfl (o_t rfl) o_i) fun x15 =>
 Grp.opr (h_fa F_inilex_Item_Name (o_t rfl)) fun x16 =>
 Grp.opn (h_ld rfl rfl (o_t rfl)) fun x17 =>
 Grp.op (h_seql (o_t rfl) o_s) fun x18 =>
 Grp.nil (o_t rfl)) fun x19 =>
 Sim.op1 (h_mv (o_t rfl)) <|
 Sim.and 5 rfl rfl rfl (Grp.op1 (h_mv (o_t rfl)) <|
 Grp.op (h_ias rfl (o_t rfl) o_i) fun x20 =>
 Grp.opr (h_fa F_inilex_Item_Name (o_t rfl)) fun x21 =>
 Grp.opn (h_ld rfl rfl (o_t rfl)) fun x22 =>
 Grp.op (h_seql (o_t rfl) o_s) fun x23 =>
 Grp.nil (o_t rfl)) fun x24 =>
 Sim.op1 (h_mv (o_t rfl)) <|
 Sim.and 5 rfl rfl rfl (Grp.op1 (h_mv (o_t rfl)) <|
 Grp.op (h_ias rfl (o_t rfl) o_i) fun x25 =>
 Grp.opr (h_fa F_inilex_Item_Value (o_t rfl)) fun x26 =>
 Grp.opn (h_ld rfl rfl (o_t rfl)) fun x27 =>
 Grp.op (h_seql (o_t rfl) o_s) fun x28 =>
 Grp.nil (o_t rfl)) fun x29 =>
 Sim.op1 (h_mv (o_t rfl)) <|
 Sim.and 5 rfl rfl rfl (Grp.op1 (h_mv (o_t rfl)) <|
 Grp.op (h_ias rfl (o_t rfl) o_i) fun x30 =>
 Grp.opr (h_fa F_inilex_Item_Line (o_t rfl)) fun x31 =>
 Grp.opn (h_ld rfl rfl (o_t rfl)) fun x32 =>
 Grp.op (h_cmp (I := (IT.int .i64)) rfl (o_t rfl) o_i) fun x33 =>
 Grp.nil (o_t rfl)) fun x34 =>
 Sim.op1 (h_mv (o_t rfl)) <|
 Sim.doneS <| Sim.ret (.one (res_t rfl))
theorem sp_l42_alive : Spec tb fn_l42_alive [] [T.b] (fun a => l42_alive ()) :=
  Spec.of f_l42_alive rfl rfl rfl sim_l42_alive

end Go.Proofs.YtggdinpopddhnaaDoor.Am
