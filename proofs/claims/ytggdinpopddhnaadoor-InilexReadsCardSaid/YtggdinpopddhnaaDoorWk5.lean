/-
  What functions compute, and that they do. Printed by mkwalk.py.
-/
import Derived.Test.YtggdinpopddhnaaDoorWk4
set_option linter.unusedVariables false
set_option maxRecDepth 100000
namespace Go.Proofs.YtggdinpopddhnaaDoor.Am

noncomputable def r06_Loose (a0 : Str) : Option (GS Str) :=
 (r06_Parts a0 (10 : UInt8)).bind fun x1 =>
 (idx x1.l (IntKind.i64.wrap ((x1.l.length : Int) - 1))).bind fun x4 =>
 if (decide (x4 = [])) = true then
 (slG x1 none (some (IntKind.i64.wrap ((x1.l.length : Int) - 1)))).bind fun x9 =>
 some x9
 else
 some x1
noncomputable def sim_r06_Loose (a : Res [T.str]) : Sim tb ⟨argsT [T.str] 0 a, []⟩ c_r06_Loose.body [] (QRes [(T.sl T.str)] c_r06_Loose.res) :=
 Sim.seqI <| Sim.op1 (h_mv (o_nils (t := T.str))) <|
 Sim.doneS <| Sim.seqI <| Sim.op1 (h_mv (o_t rfl)) <|
 Sim.op (h_call1 sp_r06_Parts (.cons (o_t rfl) <| .one (o_u8 10 rfl))) fun x1 =>
 Sim.op1 (h_mv (o_t rfl)) <|
 Sim.doneS <| Sim.seqI <| Sim.seqI <| Sim.op1 (h_mv (o_t rfl)) <|
 Sim.op1 (h_mv (o_t rfl)) <|
 Sim.op (h_len (o_t rfl)) fun x2 =>
 Sim.op (h_sub (I := (IT.int .i64)) (o_t rfl) o_i) fun x3 =>
 Sim.op (h_ias rfl (o_t rfl) (o_t rfl)) fun x4 =>
 Sim.opn (h_ld rfl rfl (o_t rfl)) fun x5 =>
 Sim.op (h_seql (o_t rfl) o_s) fun x6 =>
 Sim.doneS <| Sim.cond (o_t rfl) (
 Sim.seqI <| Sim.op1 (h_mv (o_t rfl)) <|
 Sim.op1 (h_mv (o_t rfl)) <|
 Sim.op (h_len (o_t rfl)) fun x7 =>
 Sim.op (h_sub (I := (IT.int .i64)) (o_t rfl) o_i) fun x8 =>
 Sim.op (h_sll rfl (o_t rfl) .none (.some (o_t rfl))) fun x9 =>
 Sim.op1 (h_mv (o_t rfl)) <|
 Sim.doneS <| Sim.ret (.one (res_t rfl))) (
 Sim.skip <| Sim.doneS <| Sim.seqI <| Sim.op1 (h_mv (o_t rfl)) <|
 Sim.op1 (h_mv (o_t rfl)) <|
 Sim.doneS <| Sim.ret (.one (res_t rfl)))
theorem sp_r06_Loose : Spec tb fn_r06_Loose [T.str] [(T.sl T.str)] (fun a => r06_Loose a) :=
  Spec.of f_r06_Loose rfl rfl rfl sim_r06_Loose

noncomputable def r42_said (a0 : Str) : Option Str :=
 (r06_Parts a0 (35 : UInt8)).bind fun x1 =>
 (idx x1.l 0).bind fun x2 =>
 (r06_Trim x2).bind fun x4 =>
 some x4
noncomputable def sim_r42_said (a : Res [T.str]) : Sim tb ⟨argsT [T.str] 0 a, []⟩ c_r42_said.body [] (QRes [T.str] c_r42_said.res) :=
 Sim.seqI <| Sim.op1 (h_mv o_s) <|
 Sim.doneS <| Sim.seqI <| Sim.op1 (h_mv (o_t rfl)) <|
 Sim.op (h_call1 sp_r06_Parts (.cons (o_t rfl) <| .one (o_u8 35 rfl))) fun x1 =>
 Sim.op (h_ias rfl (o_t rfl) o_i) fun x2 =>
 Sim.opn (h_ld rfl rfl (o_t rfl)) fun x3 =>
 Sim.op (h_call1 sp_r06_Trim (.one (o_t rfl))) fun x4 =>
 Sim.op1 (h_mv (o_t rfl)) <|
 Sim.doneS <| Sim.ret (.one (res_t rfl))
theorem sp_r42_said : Spec tb fn_r42_said [T.str] [T.str] (fun a => r42_said a) :=
  Spec.of f_r42_said rfl rfl rfl sim_r42_said

noncomputable def r42_one (a0 : Str) : Option (S_r42_Item × Bool) :=
 (idx a0 0).bind fun x2 =>
 let x3 := decide ((x2.toNat : Int) = ((91 : UInt8).toNat : Int))
 if x3 = true then
 (idx a0 (IntKind.i64.wrap ((a0.length : Int) - 1))).bind fun x6 =>
 let x7 := !decide ((x6.toNat : Int) = ((93 : UInt8).toNat : Int))
 if x7 = true then
 some ((⟨false, [], [], 0⟩ : S_r42_Item), false)
 else
 (subL a0 (some 1) (some (IntKind.i64.wrap ((a0.length : Int) - 1)))).bind fun x12 =>
 (r06_Trim x12).bind fun x13 =>
 (r06_Fold x13).bind fun x14 =>
 some ((⟨true, x14, [], 0⟩ : S_r42_Item), !decide (x13 = []))
 else
 (r06_Parts a0 (61 : UInt8)).bind fun x18 =>
 (idx x18.l 0).bind fun x19 =>
 (r06_Trim x19).bind fun x21 =>
 (orO (decide ((x19.length : Int) = (a0.length : Int))) (some (decide (x21 = [])))).bind fun x26 =>
 if x26 = true then
 some ((⟨false, [], [], 0⟩ : S_r42_Item), false)
 else
 (r06_Fold x21).bind fun x29 =>
 (subL a0 (some (IntKind.i64.wrap ((x19.length : Int) + 1))) none).bind fun x32 =>
 (r06_Trim x32).bind fun x33 =>
 some ((⟨false, x29, x33, 0⟩ : S_r42_Item), true)
noncomputable def sim_r42_one (a : Res [T.str]) : Sim tb ⟨argsT [T.str] 0 a, []⟩ c_r42_one.body [] (QRes [T_r42_Item, T.b] c_r42_one.res) :=
 Sim.seqI <| Sim.opM (M_alloc (t := T_r42_Item) 2 rfl rfl) fun x1 =>
 Sim.op1 (h_mv o_b) <|
 Sim.doneS <| Sim.seqI <| Sim.seqI <| Sim.op1 (h_mv (o_t rfl)) <|
 Sim.op (h_ixs (o_t rfl) o_i) fun x2 =>
 Sim.op (h_cmp (I := IT.u8) rfl (o_t rfl) (o_u8 91 rfl)) fun x3 =>
 Sim.doneS <| Sim.cond (o_t rfl) (
 Sim.seqI <| Sim.seqI <| Sim.op1 (h_mv (o_t rfl)) <|
 Sim.op1 (h_mv (o_t rfl)) <|
 Sim.op (h_lens (o_t rfl)) fun x4 =>
 Sim.op (h_sub (I := (IT.int .i64)) (o_t rfl) o_i) fun x5 =>
 Sim.op (h_ixs (o_t rfl) (o_t rfl)) fun x6 =>
 Sim.op (h_cmp (I := IT.u8) rfl (o_t rfl) (o_u8 93 rfl)) fun x7 =>
 Sim.doneS <| Sim.cond (o_t rfl) (
 Sim.seqI <| Sim.op (h_bld rfl rfl (.nil _)) fun x8 =>
 Sim.opM (M_stC (o_t rfl) (o_t rfl) rfl rfl (Fld.id _) rfl) fun x9 =>
 Sim.op1 (h_mv o_b) <|
 Sim.doneS <| Sim.ret (.cons (res_c rfl rfl rfl (Fld.id _) rfl rfl) <| .one (res_t rfl))) (
 Sim.skip <| Sim.doneS <| Sim.seqI <| Sim.op1 (h_mv (o_t rfl)) <|
 Sim.op1 (h_mv (o_t rfl)) <|
 Sim.op (h_lens (o_t rfl)) fun x10 =>
 Sim.op (h_sub (I := (IT.int .i64)) (o_t rfl) o_i) fun x11 =>
 Sim.op (h_sls (o_t rfl) (.some o_i) (.some (o_t rfl))) fun x12 =>
 Sim.op (h_call1 sp_r06_Trim (.one (o_t rfl))) fun x13 =>
 Sim.op1 (h_mv (o_t rfl)) <|
 Sim.doneS <| Sim.seqI <| Sim.op1 (h_mv (o_t rfl)) <|
 Sim.op (h_call1 sp_r06_Fold (.one (o_t rfl))) fun x14 =>
 Sim.op (h_bld rfl rfl (.cons F_r42_Item_Section rfl o_b <| .cons F_r42_Item_Name rfl (o_t rfl) <| .nil _)) fun x15 =>
 Sim.op1 (h_mv (o_t rfl)) <|
 Sim.op (h_sneq (o_t rfl) o_s) fun x16 =>
 Sim.opM (M_stC (o_t rfl) (o_t rfl) rfl rfl (Fld.id _) rfl) fun x17 =>
 Sim.op1 (h_mv (o_t rfl)) <|
 Sim.doneS <| Sim.ret (.cons (res_c rfl rfl rfl (Fld.id _) rfl rfl) <| .one (res_t rfl)))) (
 Sim.skip <| Sim.doneS <| Sim.seqI <| Sim.op1 (h_mv (o_t rfl)) <|
 Sim.op (h_call1 sp_r06_Parts (.cons (o_t rfl) <| .one (o_u8 61 rfl))) fun x18 =>
 Sim.op (h_ias rfl (o_t rfl) o_i) fun x19 =>
 Sim.opn (h_ld rfl rfl (o_t rfl)) fun x20 =>
 Sim.op1 (h_mv (o_t rfl)) <|
 Sim.doneS <| Sim.seqI <| Sim.op1 (h_mv (o_t rfl)) <|
 Sim.op (h_call1 sp_r06_Trim (.one (o_t rfl))) fun x21 =>
 Sim.op1 (h_mv (o_t rfl)) <|
 Sim.doneS <| Sim.seqI <| Sim.seqI <| Sim.op1 (h_mv (o_t rfl)) <|
 Sim.op (h_lens (o_t rfl)) fun x22 =>
 Sim.op1 (h_mv (o_t rfl)) <|
 Sim.op (h_lens (o_t rfl)) fun x23 =>
 Sim.op (h_cmp (I := (IT.int .i64)) rfl (o_t rfl) (o_t rfl)) fun x24 =>
 Sim.op1 (h_mv (o_t rfl)) <|
 Sim.or 2 rfl rfl rfl (Grp.op1 (h_mv (o_t rfl)) <|
 Grp.op (h_seql (o_t rfl) o_s) fun x25 =>
 Grp.nil (o_t rfl)) fun x26 =>
 Sim.doneS <| Sim.cond (o_t rfl) (
 Sim.seqI <| Sim.op (h_bld rfl rfl (.nil _)) fun x27 =>
 Sim.opM (M_stC (o_t rfl) (o_t rfl) rfl rfl (Fld.id _) rfl) fun x28 =>
 Sim.op1 (h_mv o_b) <|
 Sim.doneS <| Sim.ret (.cons (res_c rfl rfl rfl (Fld.id _) rfl rfl) <| .one (res_t rfl))) (
 Sim.skip <| Sim.doneS <| Sim.seqI <| Sim.regd 1 rfl rfl <| SimD.op1 (h_mv (o_t rfl)) <|
 SimD.op (h_call1 sp_r06_Fold (.one (o_t rfl))) fun x29 =>
 SimD.op1 (h_mv (o_t rfl)) <|
 SimD.op1 (h_mv (o_t rfl)) <|
 SimD.op (h_lens (o_t rfl)) fun x30 =>
 SimD.op (h_add (I := (IT.int .i64)) (o_t rfl) o_i) fun x31 =>
 SimD.op (h_sls (o_t rfl) (.some (o_t rfl)) .none) fun x32 =>
 SimD.op (h_call1 sp_r06_Trim (.one (o_t rfl))) fun x33 =>
 SimD.op (h_bld rfl rfl (.cons F_r42_Item_Name rfl (o_t rfl) <| .cons F_r42_Item_Value rfl (o_t rfl) <| .nil _)) fun x34 =>
 SimD.opM (M_stC (o_t rfl) (o_t rfl) rfl rfl (Fld.id _) rfl) fun x35 =>
 SimD.op1 (h_mv o_b) <|
 SimD.done <| Sim.doneS <| Sim.ret (.cons (res_c rfl rfl rfl (Fld.id _) rfl rfl) <| .one (res_t rfl))))
theorem sp_r42_one : Spec tb fn_r42_one [T.str] [T_r42_Item, T.b] (fun a => r42_one a) :=
  Spec.of f_r42_one rfl rfl rfl sim_r42_one

noncomputable def r42_Lex (a0 : Str) : Option ((GS S_r42_Item) × Int × Int) :=
 (r06_Loose a0).bind fun x1 =>
 (iter (fun (s2 : (Int × (GS S_r42_Item))) =>
 if (decide (s2.1 < (x1.l.length : Int))) = true then
 (orO (decide (400 ≤ s2.1)) ((idx x1.l s2.1).bind fun x7 =>
 some (decide (512 < (x7.length : Int))))).bind fun x11 =>
 if x11 = true then
 (some (.nil, IntKind.i64.wrap (s2.1 + 1), 4)).map fun r => .inr (.inr r)
 else
 (idx x1.l s2.1).bind fun x13 =>
 (r42_said x13).bind fun x15 =>
 if (decide (x15 = [])) = true then
 some (.inl (IntKind.i64.wrap (s2.1 + 1), s2.2))
 else
 (r42_one x15).bind fun x18 =>
 if (!x18.2) = true then
 (some (.nil, IntKind.i64.wrap (s2.1 + 1), 5)).map fun r => .inr (.inr r)
 else
 let x26 := { x18.1 with Line := IntKind.i64.wrap (s2.1 + 1) }
 (apG 48 s2.2 [x26]).bind fun x29 =>
 some (.inl (IntKind.i64.wrap (s2.1 + 1), x29))
 else
 some (.inr (.inl s2.2))) (0, .nil)).bind (Sum.elim (fun (p3 : (GS S_r42_Item)) =>
 some (p3, 0, 0)) some)
noncomputable def sim_r42_Lex (a : Res [T.str]) : Sim tb ⟨argsT [T.str] 0 a, []⟩ c_r42_Lex.body [] (QRes [(T.sl T_r42_Item), (T.int .i64), (T.int .i64)] c_r42_Lex.res) :=
 Sim.seqI <| Sim.op1 (h_mv (o_nils (t := T_r42_Item))) <| Sim.turn (born (n := 2) (j := 1002) rfl rfl) <|
 Sim.op1 (h_mv o_i) <|
 Sim.op1 (h_mv o_i) <|
 Sim.doneS <| Sim.seqI <| Sim.op1 (h_mv (o_nils (t := T_r42_Item))) <| Sim.turn (born (n := 5) (j := 1005) rfl rfl) <|
 Sim.doneS <| Sim.seqI <| Sim.op1 (h_mv (o_t rfl)) <|
 Sim.op (h_call1 sp_r06_Loose (.one (o_t rfl))) fun x1 =>
 Sim.op1 (h_mv (o_t rfl)) <|
 Sim.doneS <| Sim.seqI <| Sim.seqI <| Sim.op1 (h_mv o_i) <|
 Sim.doneS <| Sim.blkI <| Sim.loop (id := 0) (σ := (Int × (GS S_r42_Item))) (τ := (GS S_r42_Item)) (fun s2 => ⟨[(5, .own 1005), (6, .val (T.sl T.str) x1), (7, .val (T.int .i64) s2.1)], [(1005, .row T_r42_Item s2.2)]⟩) (fun p3 => ⟨[(5, .own 1005)], [(1005, .row T_r42_Item p3)]⟩) (0, .nil) ⟨⟨⟨rfl, trivial⟩, ⟨⟨rfl, trivial⟩, ⟨⟨rfl, trivial⟩, trivial⟩⟩⟩, ⟨⟨rfl, trivial⟩, trivial⟩⟩ (fun _ => rfl) (fun s2 =>
 Sim.seqI <| Sim.seqI <| Sim.op1 (h_mv (o_t rfl)) <|
 Sim.op1 (h_mv (o_t rfl)) <|
 Sim.op (h_len (o_t rfl)) fun x4 =>
 Sim.op (h_cmp (I := (IT.int .i64)) rfl (o_t rfl) (o_t rfl)) fun x5 =>
 Sim.doneS <| Sim.cond (o_t rfl) (
 Sim.skip <| Sim.doneS <| Sim.seqI <| Sim.blkI <| Sim.seqI <| Sim.seqI <| Sim.op1 (h_mv (o_t rfl)) <|
 Sim.op (h_cmp (I := (IT.int .i64)) rfl (o_t rfl) o_i) fun x6 =>
 Sim.op1 (h_mv (o_t rfl)) <|
 Sim.or 6 rfl rfl rfl (Grp.op1 (h_mv (o_t rfl)) <|
 Grp.op1 (h_mv (o_t rfl)) <|
 Grp.op (h_ias rfl (o_t rfl) (o_t rfl)) fun x7 =>
 Grp.opn (h_ld rfl rfl (o_t rfl)) fun x8 =>
 Grp.op (h_lens (o_t rfl)) fun x9 =>
 Grp.op (h_cmp (I := (IT.int .i64)) rfl (o_t rfl) o_i) fun x10 =>
 Grp.nil (o_t rfl)) fun x11 =>
 Sim.doneS <| Sim.cond (o_t rfl) (
 Sim.seqI <| Sim.op1 (h_mv (o_t rfl)) <|
 Sim.op (h_add (I := (IT.int .i64)) (o_t rfl) o_i) fun x12 =>
 Sim.op1 (h_mv (o_nils (t := T_r42_Item))) <| Sim.turn (born (n := 2) (j := 1002) rfl rfl) <|
 Sim.op1 (h_mv (o_t rfl)) <|
 Sim.op1 (h_mv o_i) <|
 Sim.doneS <| Sim.outRet <| Sim.frzRow 1002 rfl rfl <| Sim.ret (.cons (res_t rfl) <| .cons (res_t rfl) <| .one (res_t rfl))) (
 Sim.skip <| Sim.doneS <| Sim.seqI <| Sim.op1 (h_mv (o_t rfl)) <|
 Sim.op1 (h_mv (o_t rfl)) <|
 Sim.op (h_ias rfl (o_t rfl) (o_t rfl)) fun x13 =>
 Sim.opn (h_ld rfl rfl (o_t rfl)) fun x14 =>
 Sim.op (h_call1 sp_r42_said (.one (o_t rfl))) fun x15 =>
 Sim.op1 (h_mv (o_t rfl)) <|
 Sim.doneS <| Sim.seqI <| Sim.seqI <| Sim.op1 (h_mv (o_t rfl)) <|
 Sim.op (h_seql (o_t rfl) o_s) fun x16 =>
 Sim.doneS <| Sim.cond (o_t rfl) (
 Sim.exitS <| Sim.exitB <| Sim.doneS <| Sim.op1 (h_mv (o_t rfl)) <|
 Sim.op (h_add (I := (IT.int .i64)) (o_t rfl) o_i) fun x17 =>
 Sim.op1 (h_mv (o_t rfl)) <|
 Sim.next (x17, s2.2) ⟨⟨⟨rfl, trivial⟩, ⟨⟨rfl, trivial⟩, ⟨⟨rfl, trivial⟩, trivial⟩⟩⟩, ⟨⟨rfl, trivial⟩, trivial⟩⟩) (
 Sim.skip <| Sim.doneS <| Sim.seqI <| Sim.op1 (h_mv (o_t rfl)) <|
 Sim.op (h_callN sp_r42_one (.one (o_t rfl))) fun x18 =>
 Sim.op1 (h_mv (o_t rfl)) <|
 Sim.opn (h_ext (o_t rfl) rfl) fun x19 =>
 Sim.opn (h_ext (o_t rfl) rfl) fun x20 =>
 Sim.opM (M_alloc (t := T_r42_Item) 9 rfl rfl) fun x21 =>
 Sim.opM (M_stC (o_t rfl) (o_t rfl) rfl rfl (Fld.id _) rfl) fun x22 =>
 Sim.op1 (h_mv (o_t rfl)) <|
 Sim.doneS <| Sim.seqI <| Sim.seqI <| Sim.op1 (h_mv (o_t rfl)) <|
 Sim.op (h_not (o_t rfl)) fun x23 =>
 Sim.doneS <| Sim.cond (o_t rfl) (
 Sim.seqI <| Sim.op1 (h_mv (o_t rfl)) <|
 Sim.op (h_add (I := (IT.int .i64)) (o_t rfl) o_i) fun x24 =>
 Sim.op1 (h_mv (o_nils (t := T_r42_Item))) <| Sim.turn (born (n := 2) (j := 1002) rfl rfl) <|
 Sim.op1 (h_mv (o_t rfl)) <|
 Sim.op1 (h_mv o_i) <|
 Sim.doneS <| Sim.outRet <| Sim.frzRow 1002 rfl rfl <| Sim.ret (.cons (res_t rfl) <| .cons (res_t rfl) <| .one (res_t rfl))) (
 Sim.skip <| Sim.doneS <| Sim.seqI <| Sim.op1 (h_mv (o_t rfl)) <|
 Sim.op (h_add (I := (IT.int .i64)) (o_t rfl) o_i) fun x25 =>
 Sim.op1 (h_faC (o_t rfl)) <|
 Sim.opM (M_stC (o_t rfl) (o_t rfl) rfl rfl F_r42_Item_Line rfl) fun x26 =>
 Sim.doneS <| Sim.op1 (h_mv (o_t rfl)) <|
 Sim.opn (h_ldC (t := T_r42_Item) (u := T_r42_Item) (o_t rfl) rfl rfl (Fld.id _) rfl rfl) fun x27 =>
 Sim.op (h_bll (t := T_r42_Item) (n := 1) rfl rfl (.cons rfl (o_t rfl) <| .nil _)) fun x28 =>
 Sim.opM (M_app rfl (o_t rfl) rfl (n_sl (o_t rfl))) fun x29 =>
 Sim.op1 (h_mv (o_t rfl)) <|
 Sim.doneB <| Sim.doneS <| Sim.op1 (h_mv (o_t rfl)) <|
 Sim.op (h_add (I := (IT.int .i64)) (o_t rfl) o_i) fun x30 =>
 Sim.op1 (h_mv (o_t rfl)) <|
 Sim.next (x30, x29) ⟨⟨⟨rfl, trivial⟩, ⟨⟨rfl, trivial⟩, ⟨⟨rfl, trivial⟩, trivial⟩⟩⟩, ⟨⟨rfl, trivial⟩, trivial⟩⟩)))) (
 Sim.exitS <| Sim.out s2.2 ⟨⟨⟨rfl, trivial⟩, trivial⟩, ⟨⟨rfl, trivial⟩, trivial⟩⟩)) (fun p3 =>
 Sim.exitB <| Sim.doneS <| Sim.seqI <| Sim.op1 (h_mv (o_t rfl)) <|
 Sim.op1 (h_mv (o_t rfl)) <|
 Sim.op1 (h_mv o_i) <|
 Sim.op1 (h_mv o_i) <|
 Sim.doneS <| Sim.frzRow 1005 rfl rfl <| Sim.ret (.cons (res_t rfl) <| .cons (res_t rfl) <| .one (res_t rfl)))
theorem sp_r42_Lex : Spec tb fn_r42_Lex [T.str] [(T.sl T_r42_Item), (T.int .i64), (T.int .i64)] (fun a => r42_Lex a) :=
  Spec.of f_r42_Lex rfl rfl rfl sim_r42_Lex

noncomputable def l42_InilexReads (a0 : Str) : Option Bool :=
 if (decide (2000 < (a0.length : Int))) = true then
 (l42_alive ()).bind fun x3 =>
 some x3
 else
 (inilex_Lex a0).bind fun x4 =>
 (r42_Lex a0).bind fun x8 =>
 (orO (!decide (x4.2.1 = x8.2.1)) (some (!decide (x4.2.2 = x8.2.2)))).bind fun x14 =>
 (orO x14 (let x17 := !decide ((x4.1.l.length : Int) = (x8.1.l.length : Int))
 some x17)).bind fun x18 =>
 if x18 = true then
 some false
 else
 (iter (fun (s19 : Int) =>
 if (decide (s19 < (x4.1.l.length : Int))) = true then
 (idx x4.1.l s19).bind fun x23 =>
 (idx x8.1.l s19).bind fun x26 =>
 (orO (!decide (x23.Section = x26.Section)) ((idx x4.1.l s19).bind fun x30 =>
 (idx x8.1.l s19).bind fun x33 =>
 some (!decide (x30.Name = x33.Name)))).bind fun x37 =>
 (orO x37 ((idx x4.1.l s19).bind fun x38 =>
 (idx x8.1.l s19).bind fun x41 =>
 some (!decide (x38.Value = x41.Value)))).bind fun x45 =>
 (orO x45 ((idx x4.1.l s19).bind fun x46 =>
 (idx x8.1.l s19).bind fun x49 =>
 some (!decide (x46.Line = x49.Line)))).bind fun x53 =>
 if x53 = true then
 (some false).map fun r => .inr (.inr r)
 else
 some (.inl (IntKind.i64.wrap (s19 + 1)))
 else
 some (.inr (.inl ()))) 0).bind (Sum.elim (fun (p20 : Unit) =>
 (l42_alive ()).bind fun x55 =>
 some x55) some)
noncomputable def sim_l42_InilexReads (a : Res [T.str]) : Sim tb ⟨argsT [T.str] 0 a, []⟩ c_l42_InilexReads.body [] (QRes [T.b] c_l42_InilexReads.res) :=
 Sim.seqI <| Sim.op1 (h_mv o_b) <|
 Sim.doneS <| Sim.seqI <| Sim.seqI <| Sim.op1 (h_mv (o_t rfl)) <|
 Sim.op (h_lens (o_t rfl)) fun x1 =>
 Sim.op (h_cmp (I := (IT.int .i64)) rfl (o_t rfl) o_i) fun x2 =>
 Sim.doneS <| Sim.cond (o_t rfl) (
 Sim.seqI <| Sim.op (h_call1 sp_l42_alive (.nil)) fun x3 =>
 Sim.op1 (h_mv (o_t rfl)) <|
 Sim.doneS <| Sim.ret (.one (res_t rfl))) (
 Sim.skip <| Sim.doneS <| Sim.seqI <| Sim.op1 (h_mv (o_t rfl)) <|
 Sim.op (h_callN sp_inilex_Lex (.one (o_t rfl))) fun x4 =>
 Sim.op1 (h_mv (o_t rfl)) <|
 Sim.opn (h_ext (o_t rfl) rfl) fun x5 =>
 Sim.opn (h_ext (o_t rfl) rfl) fun x6 =>
 Sim.opn (h_ext (o_t rfl) rfl) fun x7 =>
 Sim.op1 (h_mv (o_t rfl)) <|
 Sim.op1 (h_mv (o_t rfl)) <|
 Sim.op1 (h_mv (o_t rfl)) <|
 Sim.doneS <| Sim.seqI <| Sim.op1 (h_mv (o_t rfl)) <|
 Sim.op (h_callN sp_r42_Lex (.one (o_t rfl))) fun x8 =>
 Sim.op1 (h_mv (o_t rfl)) <|
 Sim.opn (h_ext (o_t rfl) rfl) fun x9 =>
 Sim.opn (h_ext (o_t rfl) rfl) fun x10 =>
 Sim.opn (h_ext (o_t rfl) rfl) fun x11 =>
 Sim.op1 (h_mv (o_t rfl)) <|
 Sim.op1 (h_mv (o_t rfl)) <|
 Sim.op1 (h_mv (o_t rfl)) <|
 Sim.doneS <| Sim.seqI <| Sim.seqI <| Sim.op1 (h_mv (o_t rfl)) <|
 Sim.op1 (h_mv (o_t rfl)) <|
 Sim.op (h_cmp (I := (IT.int .i64)) rfl (o_t rfl) (o_t rfl)) fun x12 =>
 Sim.op1 (h_mv (o_t rfl)) <|
 Sim.or 3 rfl rfl rfl (Grp.op1 (h_mv (o_t rfl)) <|
 Grp.op1 (h_mv (o_t rfl)) <|
 Grp.op (h_cmp (I := (IT.int .i64)) rfl (o_t rfl) (o_t rfl)) fun x13 =>
 Grp.nil (o_t rfl)) fun x14 =>
 Sim.op1 (h_mv (o_t rfl)) <|
 Sim.or 5 rfl rfl rfl (Grp.op1 (h_mv (o_t rfl)) <|
 Grp.op (h_len (o_t rfl)) fun x15 =>
 Grp.op1 (h_mv (o_t rfl)) <|
 Grp.op (h_len (o_t rfl)) fun x16 =>
 Grp.op (h_cmp (I := (IT.int .i64)) rfl (o_t rfl) (o_t rfl)) fun x17 =>
 Grp.nil (o_t rfl)) fun x18 =>
 Sim.doneS <| Sim.cond (o_t rfl) (
 Sim.seqI <| Sim.op1 (h_mv o_b) <|
 Sim.doneS <| Sim.ret (.one (res_t rfl))) (
 Sim.skip <| Sim.doneS <| Sim.seqI <| Sim.seqI <| Sim.op1 (h_mv o_i) <|
 Sim.doneS <| Sim.blkI <| Sim.loop (id := 0) (σ := Int) (τ := Unit) (fun s19 => ⟨[(3, .val (T.sl T_inilex_Item) x5), (6, .val (T.sl T_r42_Item) x9), (9, .val (T.int .i64) s19)], []⟩) (fun p20 => ⟨[], []⟩) 0 ⟨⟨⟨rfl, trivial⟩, ⟨⟨rfl, trivial⟩, ⟨⟨rfl, trivial⟩, trivial⟩⟩⟩, trivial⟩ (fun _ => rfl) (fun s19 =>
 Sim.seqI <| Sim.seqI <| Sim.op1 (h_mv (o_t rfl)) <|
 Sim.op1 (h_mv (o_t rfl)) <|
 Sim.op (h_len (o_t rfl)) fun x21 =>
 Sim.op (h_cmp (I := (IT.int .i64)) rfl (o_t rfl) (o_t rfl)) fun x22 =>
 Sim.doneS <| Sim.cond (o_t rfl) (
 Sim.skip <| Sim.doneS <| Sim.seqI <| Sim.blkI <| Sim.seqI <| Sim.op1 (h_mv (o_t rfl)) <|
 Sim.op1 (h_mv (o_t rfl)) <|
 Sim.op (h_ias rfl (o_t rfl) (o_t rfl)) fun x23 =>
 Sim.opr (h_fa F_inilex_Item_Section (o_t rfl)) fun x24 =>
 Sim.opn (h_ld rfl rfl (o_t rfl)) fun x25 =>
 Sim.op1 (h_mv (o_t rfl)) <|
 Sim.op1 (h_mv (o_t rfl)) <|
 Sim.op (h_ias rfl (o_t rfl) (o_t rfl)) fun x26 =>
 Sim.opr (h_fa F_r42_Item_Section (o_t rfl)) fun x27 =>
 Sim.opn (h_ld rfl rfl (o_t rfl)) fun x28 =>
 Sim.op (h_eqb (neg := true) (o_t rfl) (o_t rfl)) fun x29 =>
 Sim.op1 (h_mv (o_t rfl)) <|
 Sim.or 11 rfl rfl rfl (Grp.op1 (h_mv (o_t rfl)) <|
 Grp.op1 (h_mv (o_t rfl)) <|
 Grp.op (h_ias rfl (o_t rfl) (o_t rfl)) fun x30 =>
 Grp.opr (h_fa F_inilex_Item_Name (o_t rfl)) fun x31 =>
 Grp.opn (h_ld rfl rfl (o_t rfl)) fun x32 =>
 Grp.op1 (h_mv (o_t rfl)) <|
 Grp.op1 (h_mv (o_t rfl)) <|
 Grp.op (h_ias rfl (o_t rfl) (o_t rfl)) fun x33 =>
 Grp.opr (h_fa F_r42_Item_Name (o_t rfl)) fun x34 =>
 Grp.opn (h_ld rfl rfl (o_t rfl)) fun x35 =>
 Grp.op (h_sneq (o_t rfl) (o_t rfl)) fun x36 =>
 Grp.nil (o_t rfl)) fun x37 =>
 Sim.op1 (h_mv (o_t rfl)) <|
 Sim.or 11 rfl rfl rfl (Grp.op1 (h_mv (o_t rfl)) <|
 Grp.op1 (h_mv (o_t rfl)) <|
 Grp.op (h_ias rfl (o_t rfl) (o_t rfl)) fun x38 =>
 Grp.opr (h_fa F_inilex_Item_Value (o_t rfl)) fun x39 =>
 Grp.opn (h_ld rfl rfl (o_t rfl)) fun x40 =>
 Grp.op1 (h_mv (o_t rfl)) <|
 Grp.op1 (h_mv (o_t rfl)) <|
 Grp.op (h_ias rfl (o_t rfl) (o_t rfl)) fun x41 =>
 Grp.opr (h_fa F_r42_Item_Value (o_t rfl)) fun x42 =>
 Grp.opn (h_ld rfl rfl (o_t rfl)) fun x43 =>
 Grp.op (h_sneq (o_t rfl) (o_t rfl)) fun x44 =>
 Grp.nil (o_t rfl)) fun x45 =>
 Sim.op1 (h_mv (o_t rfl)) <|
 Sim.or 11 rfl rfl rfl (Grp.op1 (h_mv (o_t rfl)) <|
 Grp.op1 (h_mv (o_t rfl)) <|
 Grp.op (h_ias rfl (o_t rfl) (o_t rfl)) fun x46 =>
 Grp.opr (h_fa F_inilex_Item_Line (o_t rfl)) fun x47 =>
 Grp.opn (h_ld rfl rfl (o_t rfl)) fun x48 =>
 Grp.op1 (h_mv (o_t rfl)) <|
 Grp.op1 (h_mv (o_t rfl)) <|
 Grp.op (h_ias rfl (o_t rfl) (o_t rfl)) fun x49 =>
 Grp.opr (h_fa F_r42_Item_Line (o_t rfl)) fun x50 =>
 Grp.opn (h_ld rfl rfl (o_t rfl)) fun x51 =>
 Grp.op (h_cmp (I := (IT.int .i64)) rfl (o_t rfl) (o_t rfl)) fun x52 =>
 Grp.nil (o_t rfl)) fun x53 =>
 Sim.doneS <| Sim.cond (o_t rfl) (
 Sim.seqI <| Sim.op1 (h_mv o_b) <|
 Sim.doneS <| Sim.outRet <| Sim.ret (.one (res_t rfl))) (
 Sim.skip <| Sim.doneB <| Sim.doneS <| Sim.op1 (h_mv (o_t rfl)) <|
 Sim.op (h_add (I := (IT.int .i64)) (o_t rfl) o_i) fun x54 =>
 Sim.op1 (h_mv (o_t rfl)) <|
 Sim.next x54 ⟨⟨⟨rfl, trivial⟩, ⟨⟨rfl, trivial⟩, ⟨⟨rfl, trivial⟩, trivial⟩⟩⟩, trivial⟩)) (
 Sim.exitS <| Sim.out () ⟨trivial, trivial⟩)) (fun p20 =>
 Sim.exitB <| Sim.doneS <| Sim.seqI <| Sim.op (h_call1 sp_l42_alive (.nil)) fun x55 =>
 Sim.op1 (h_mv (o_t rfl)) <|
 Sim.doneS <| Sim.ret (.one (res_t rfl)))))
theorem sp_l42_InilexReads : Spec tb fn_l42_InilexReads [T.str] [T.b] (fun a => l42_InilexReads a) :=
  Spec.of f_l42_InilexReads rfl rfl rfl sim_l42_InilexReads

end Go.Proofs.YtggdinpopddhnaaDoor.Am
