/-
  What functions compute, and that they do. Printed by mkwalk.py.
-/
import Derived.Test.YtkmdppdlglikkaaDoorWk0
set_option linter.unusedVariables false
set_option maxRecDepth 100000
namespace Go.Proofs.YtkmdppdlglikkaaDoor.Am

noncomputable def lines_Fold (a0 : Str) : Option Str :=
 (iter (fun (s2 : (Int × (GS UInt8))) =>
 if (decide (s2.1 < (a0.length : Int))) = true then
 (idxN s2.2.l.length s2.1).bind fun x5 =>
 (s2.2.l[x5]?.map fun x => x).bind fun x6 =>
 let x7 := decide (((65 : UInt8).toNat : Int) ≤ (x6.toNat : Int))
 (andO x7 (let x8 := decide ((x6.toNat : Int) ≤ ((90 : UInt8).toNat : Int))
 some x8)).bind fun x9 =>
 if x9 = true then
 let x10 := IT.u8.ofI (bitsR .or .u8 (x6.toNat : Int) ((32 : UInt8).toNat : Int))
 (idxN s2.2.l.length s2.1).bind fun x11 =>
 (s2.2.l[x11]?.map fun y => s2.2.set x11 x10).bind fun x12 =>
 some (.inl (IntKind.i64.wrap (s2.1 + 1), x12))
 else
 some (.inl (IntKind.i64.wrap (s2.1 + 1), s2.2))
 else
 some (.inr (.inl s2.2))) (0, (GS.mk a0))).bind (Sum.elim (fun (p3 : (GS UInt8)) =>
 some p3.l) some)
noncomputable def sim_lines_Fold (a : Res [T.str]) : Sim tb ⟨argsT [T.str] 0 a, []⟩ c_lines_Fold.body [] (QRes [T.str] c_lines_Fold.res) :=
 Sim.seqI <| Sim.op1 (h_mv o_s) <|
 Sim.doneS <| Sim.seqI <| Sim.op1 (h_mv (o_t rfl)) <|
 Sim.opM (M_cvb 1007 rfl (o_t rfl)) fun _ =>
 Sim.op1 (h_mv (o_t rfl)) <|
 Sim.doneS <| Sim.seqI <| Sim.seqI <| Sim.op1 (h_mv (o_t rfl)) <|
 Sim.op (h_lenO (o_t rfl) rfl) fun x1 =>
 Sim.op1 (h_mv o_i) <|
 Sim.doneS <| Sim.blkI <| Sim.loop (id := 0) (σ := (Int × (GS UInt8))) (τ := (GS UInt8)) (fun s2 => ⟨[(3, .own 1007), (8, .own 1007), (9, .val (T.int .i64) x1), (10, .val (T.int .i64) s2.1)], [(1007, .row T.u8 s2.2)]⟩) (fun p3 => ⟨[(3, .own 1007)], [(1007, .row T.u8 p3)]⟩) (0, (.mk a)) ⟨⟨⟨rfl, trivial⟩, ⟨⟨rfl, trivial⟩, ⟨⟨rfl, trivial⟩, ⟨⟨rfl, trivial⟩, trivial⟩⟩⟩⟩, ⟨⟨rfl, trivial⟩, trivial⟩⟩ (fun _ => rfl) (fun s2 =>
 Sim.seqI <| Sim.op (h_cmp (I := (IT.int .i64)) rfl (o_t rfl) (o_t rfl)) fun x4 =>
 Sim.doneS <| Sim.seqI <| Sim.cond (o_t rfl) (
 Sim.skip <| Sim.doneS <| Sim.seqI <| Sim.blkI <| Sim.seqI <| Sim.op1 (h_mv (o_t rfl)) <|
 Sim.op (h_iasO rfl (o_t rfl) rfl (o_t rfl)) fun x5 =>
 Sim.op (h_ldE (t := T.u8) (u := T.u8) rfl rfl (Fld.id _) (o_t rfl) rfl) fun x6 =>
 Sim.op1 (h_mv (o_t rfl)) <|
 Sim.op1 (h_mv (o_t rfl)) <|
 Sim.doneS <| Sim.seqI <| Sim.op1 (h_mv (o_t rfl)) <|
 Sim.op (h_cmp (I := IT.u8) rfl (o_t rfl) (o_u8 65 rfl)) fun x7 =>
 Sim.op1 (h_mv (o_t rfl)) <|
 Sim.and 2 rfl rfl rfl (Grp.op1 (h_mv (o_t rfl)) <|
 Grp.op (h_cmp (I := IT.u8) rfl (o_t rfl) (o_u8 90 rfl)) fun x8 =>
 Grp.nil (o_t rfl)) fun x9 =>
 Sim.doneS <| Sim.cond (o_t rfl) (
 Sim.op1 (h_mv (o_t rfl)) <|
 Sim.op1 (h_mv (o_t rfl)) <|
 Sim.op1 (h_mv (o_t rfl)) <|
 Sim.op (h_or (I := IT.u8) (o_t rfl) (o_u8 32 rfl)) fun x10 =>
 Sim.op (h_iasO rfl (o_t rfl) rfl (o_t rfl)) fun x11 =>
 Sim.opM (M_stE (t := T.u8) (u := T.u8) rfl (Fld.id _) (o_t rfl) (o_t rfl) rfl) fun x12 =>
 Sim.doneB <| Sim.doneS <| Sim.op (h_add (I := (IT.int .i64)) (o_t rfl) o_i) fun x13 =>
 Sim.op1 (h_mv (o_t rfl)) <|
 Sim.next (x13, x12) ⟨⟨⟨rfl, trivial⟩, ⟨⟨rfl, trivial⟩, ⟨⟨rfl, trivial⟩, ⟨⟨rfl, trivial⟩, trivial⟩⟩⟩⟩, ⟨⟨rfl, trivial⟩, trivial⟩⟩) (
 Sim.skip <| Sim.doneB <| Sim.doneS <| Sim.op (h_add (I := (IT.int .i64)) (o_t rfl) o_i) fun x14 =>
 Sim.op1 (h_mv (o_t rfl)) <|
 Sim.next (x14, s2.2) ⟨⟨⟨rfl, trivial⟩, ⟨⟨rfl, trivial⟩, ⟨⟨rfl, trivial⟩, ⟨⟨rfl, trivial⟩, trivial⟩⟩⟩⟩, ⟨⟨rfl, trivial⟩, trivial⟩⟩)) (
 Sim.exitS <| Sim.out s2.2 ⟨⟨⟨rfl, trivial⟩, trivial⟩, ⟨⟨rfl, trivial⟩, trivial⟩⟩)) (fun p3 =>
 Sim.exitB <| Sim.doneS <| Sim.seqI <| Sim.op1 (h_mv (o_t rfl)) <|
 Sim.op (h_cvsO (o_t rfl) rfl) fun x15 =>
 Sim.op1 (h_mv (o_t rfl)) <|
 Sim.doneS <| Sim.ret (.one (res_t rfl)))
theorem sp_lines_Fold : Spec tb fn_lines_Fold [T.str] [T.str] (fun a => lines_Fold a) :=
  Spec.of f_lines_Fold rfl rfl rfl sim_lines_Fold

noncomputable def inilex_section (a0 : Str) : Option (S_inilex_Item × Bool) :=
 (strings_CutSuffix a0 [93]).bind fun x2 =>
 if (!x2.2) = true then
 some ((⟨false, [], [], 0⟩ : S_inilex_Item), false)
 else
 (strings_TrimPrefix x2.1 [91]).bind fun x8 =>
 (lines_Trim x8).bind fun x9 =>
 (lines_Fold x9).bind fun x10 =>
 some ((⟨true, x10, [], 0⟩ : S_inilex_Item), !decide (x9 = []))
noncomputable def sim_inilex_section (a : Res [T.str]) : Sim tb ⟨argsT [T.str] 0 a, []⟩ c_inilex_section.body [] (QRes [T_inilex_Item, T.b] c_inilex_section.res) :=
 Sim.seqI <| Sim.opM (M_alloc (t := T_inilex_Item) 2 rfl rfl) fun x1 =>
 Sim.op1 (h_mv o_b) <|
 Sim.doneS <| Sim.seqI <| Sim.op1 (h_mv (o_t rfl)) <|
 Sim.op (h_callN sp_strings_CutSuffix (.cons (o_t rfl) <| .one o_s)) fun x2 =>
 Sim.op1 (h_mv (o_t rfl)) <|
 Sim.opn (h_ext (o_t rfl) rfl) fun x3 =>
 Sim.opn (h_ext (o_t rfl) rfl) fun x4 =>
 Sim.op1 (h_mv (o_t rfl)) <|
 Sim.op1 (h_mv (o_t rfl)) <|
 Sim.doneS <| Sim.seqI <| Sim.seqI <| Sim.op1 (h_mv (o_t rfl)) <|
 Sim.op (h_not (o_t rfl)) fun x5 =>
 Sim.doneS <| Sim.cond (o_t rfl) (
 Sim.seqI <| Sim.op (h_bld rfl rfl (.nil _)) fun x6 =>
 Sim.opM (M_stC (o_t rfl) (o_t rfl) rfl rfl (Fld.id _) rfl) fun x7 =>
 Sim.op1 (h_mv o_b) <|
 Sim.doneS <| Sim.ret (.cons (res_c rfl rfl rfl (Fld.id _) rfl rfl) <| .one (res_t rfl))) (
 Sim.skip <| Sim.doneS <| Sim.seqI <| Sim.op1 (h_mv (o_t rfl)) <|
 Sim.op (h_call1 sp_strings_TrimPrefix (.cons (o_t rfl) <| .one o_s)) fun x8 =>
 Sim.op (h_call1 sp_lines_Trim (.one (o_t rfl))) fun x9 =>
 Sim.op1 (h_mv (o_t rfl)) <|
 Sim.doneS <| Sim.seqI <| Sim.op1 (h_mv (o_t rfl)) <|
 Sim.op (h_call1 sp_lines_Fold (.one (o_t rfl))) fun x10 =>
 Sim.op (h_bld rfl rfl (.cons F_inilex_Item_Section rfl o_b <| .cons F_inilex_Item_Name rfl (o_t rfl) <| .nil _)) fun x11 =>
 Sim.op1 (h_mv (o_t rfl)) <|
 Sim.op (h_sneq (o_t rfl) o_s) fun x12 =>
 Sim.opM (M_stC (o_t rfl) (o_t rfl) rfl rfl (Fld.id _) rfl) fun x13 =>
 Sim.op1 (h_mv (o_t rfl)) <|
 Sim.doneS <| Sim.ret (.cons (res_c rfl rfl rfl (Fld.id _) rfl rfl) <| .one (res_t rfl)))
theorem sp_inilex_section : Spec tb fn_inilex_section [T.str] [T_inilex_Item, T.b] (fun a => inilex_section a) :=
  Spec.of f_inilex_section rfl rfl rfl sim_inilex_section

noncomputable def inilex_pair (a0 : Str) : Option (S_inilex_Item × Bool) :=
 (lines_Cut a0 (61 : UInt8)).bind fun x2 =>
 (lines_Trim x2.1).bind fun x6 =>
 (orO (!x2.2.2) (some (decide (x6 = [])))).bind fun x9 =>
 if x9 = true then
 some ((⟨false, [], [], 0⟩ : S_inilex_Item), false)
 else
 (lines_Fold x6).bind fun x12 =>
 (lines_Trim x2.2.1).bind fun x13 =>
 some ((⟨false, x12, x13, 0⟩ : S_inilex_Item), true)
noncomputable def sim_inilex_pair (a : Res [T.str]) : Sim tb ⟨argsT [T.str] 0 a, []⟩ c_inilex_pair.body [] (QRes [T_inilex_Item, T.b] c_inilex_pair.res) :=
 Sim.seqI <| Sim.opM (M_alloc (t := T_inilex_Item) 2 rfl rfl) fun x1 =>
 Sim.op1 (h_mv o_b) <|
 Sim.doneS <| Sim.seqI <| Sim.op1 (h_mv (o_t rfl)) <|
 Sim.op (h_callN sp_lines_Cut (.cons (o_t rfl) <| .one (o_u8 61 rfl))) fun x2 =>
 Sim.op1 (h_mv (o_t rfl)) <|
 Sim.opn (h_ext (o_t rfl) rfl) fun x3 =>
 Sim.opn (h_ext (o_t rfl) rfl) fun x4 =>
 Sim.opn (h_ext (o_t rfl) rfl) fun x5 =>
 Sim.op1 (h_mv (o_t rfl)) <|
 Sim.op1 (h_mv (o_t rfl)) <|
 Sim.op1 (h_mv (o_t rfl)) <|
 Sim.doneS <| Sim.seqI <| Sim.op1 (h_mv (o_t rfl)) <|
 Sim.op (h_call1 sp_lines_Trim (.one (o_t rfl))) fun x6 =>
 Sim.op1 (h_mv (o_t rfl)) <|
 Sim.doneS <| Sim.seqI <| Sim.seqI <| Sim.op1 (h_mv (o_t rfl)) <|
 Sim.op (h_not (o_t rfl)) fun x7 =>
 Sim.op1 (h_mv (o_t rfl)) <|
 Sim.or 2 rfl rfl rfl (Grp.op1 (h_mv (o_t rfl)) <|
 Grp.op (h_seql (o_t rfl) o_s) fun x8 =>
 Grp.nil (o_t rfl)) fun x9 =>
 Sim.doneS <| Sim.cond (o_t rfl) (
 Sim.seqI <| Sim.op (h_bld rfl rfl (.nil _)) fun x10 =>
 Sim.opM (M_stC (o_t rfl) (o_t rfl) rfl rfl (Fld.id _) rfl) fun x11 =>
 Sim.op1 (h_mv o_b) <|
 Sim.doneS <| Sim.ret (.cons (res_c rfl rfl rfl (Fld.id _) rfl rfl) <| .one (res_t rfl))) (
 Sim.skip <| Sim.doneS <| Sim.seqI <| Sim.op1 (h_mv (o_t rfl)) <|
 Sim.op (h_call1 sp_lines_Fold (.one (o_t rfl))) fun x12 =>
 Sim.op1 (h_mv (o_t rfl)) <|
 Sim.op (h_call1 sp_lines_Trim (.one (o_t rfl))) fun x13 =>
 Sim.op (h_bld rfl rfl (.cons F_inilex_Item_Name rfl (o_t rfl) <| .cons F_inilex_Item_Value rfl (o_t rfl) <| .nil _)) fun x14 =>
 Sim.opM (M_stC (o_t rfl) (o_t rfl) rfl rfl (Fld.id _) rfl) fun x15 =>
 Sim.op1 (h_mv o_b) <|
 Sim.doneS <| Sim.ret (.cons (res_c rfl rfl rfl (Fld.id _) rfl rfl) <| .one (res_t rfl)))
theorem sp_inilex_pair : Spec tb fn_inilex_pair [T.str] [T_inilex_Item, T.b] (fun a => inilex_pair a) :=
  Spec.of f_inilex_pair rfl rfl rfl sim_inilex_pair

noncomputable def inilex_say (a0 : Str) : Option (S_inilex_Item × Bool) :=
 (strings_HasPrefix a0 [91]).bind fun x2 =>
 if x2 = true then
 (inilex_section a0).bind fun x3 =>
 some (x3.1, x3.2)
 else
 (inilex_pair a0).bind fun x7 =>
 some (x7.1, x7.2)
noncomputable def sim_inilex_say (a : Res [T.str]) : Sim tb ⟨argsT [T.str] 0 a, []⟩ c_inilex_say.body [] (QRes [T_inilex_Item, T.b] c_inilex_say.res) :=
 Sim.seqI <| Sim.opM (M_alloc (t := T_inilex_Item) 2 rfl rfl) fun x1 =>
 Sim.op1 (h_mv o_b) <|
 Sim.doneS <| Sim.seqI <| Sim.seqI <| Sim.op1 (h_mv (o_t rfl)) <|
 Sim.op (h_call1 sp_strings_HasPrefix (.cons (o_t rfl) <| .one o_s)) fun x2 =>
 Sim.doneS <| Sim.cond (o_t rfl) (
 Sim.seqI <| Sim.op1 (h_mv (o_t rfl)) <|
 Sim.op (h_callN sp_inilex_section (.one (o_t rfl))) fun x3 =>
 Sim.opn (h_ext (o_t rfl) rfl) fun x4 =>
 Sim.opn (h_ext (o_t rfl) rfl) fun x5 =>
 Sim.opM (M_stC (o_t rfl) (o_t rfl) rfl rfl (Fld.id _) rfl) fun x6 =>
 Sim.op1 (h_mv (o_t rfl)) <|
 Sim.doneS <| Sim.ret (.cons (res_c rfl rfl rfl (Fld.id _) rfl rfl) <| .one (res_t rfl))) (
 Sim.skip <| Sim.doneS <| Sim.seqI <| Sim.op1 (h_mv (o_t rfl)) <|
 Sim.op (h_callN sp_inilex_pair (.one (o_t rfl))) fun x7 =>
 Sim.opn (h_ext (o_t rfl) rfl) fun x8 =>
 Sim.opn (h_ext (o_t rfl) rfl) fun x9 =>
 Sim.opM (M_stC (o_t rfl) (o_t rfl) rfl rfl (Fld.id _) rfl) fun x10 =>
 Sim.op1 (h_mv (o_t rfl)) <|
 Sim.doneS <| Sim.ret (.cons (res_c rfl rfl rfl (Fld.id _) rfl rfl) <| .one (res_t rfl)))
theorem sp_inilex_say : Spec tb fn_inilex_say [T.str] [T_inilex_Item, T.b] (fun a => inilex_say a) :=
  Spec.of f_inilex_say rfl rfl rfl sim_inilex_say

noncomputable def inilex_Lex (a0 : Str) : Option ((GS S_inilex_Item) × Int × Int) :=
 (lines_Loose a0).bind fun x1 =>
 (iter (fun (s3 : (Int × (GS S_inilex_Item))) =>
 if (decide (s3.1 < (x1.l.length : Int))) = true then
 (orO (decide (400 ≤ s3.1)) ((idx x1.l s3.1).bind fun x7 =>
 some (decide (512 < (x7.length : Int))))).bind fun x11 =>
 if x11 = true then
 (some (.nil, IntKind.i64.wrap (s3.1 + 1), 4)).map fun r => .inr (.inr r)
 else
 (idx x1.l s3.1).bind fun x13 =>
 (lines_Cut x13 (35 : UInt8)).bind fun x15 =>
 (lines_Trim x15.1).bind fun x19 =>
 if (decide (x19 = [])) = true then
 some (.inl (IntKind.i64.wrap (s3.1 + 1), s3.2))
 else
 (inilex_say x19).bind fun x22 =>
 if (!x22.2) = true then
 (some (.nil, IntKind.i64.wrap (s3.1 + 1), 5)).map fun r => .inr (.inr r)
 else
 let x30 := { x22.1 with Line := IntKind.i64.wrap (s3.1 + 1) }
 (apG 48 s3.2 [x30]).bind fun x33 =>
 some (.inl (IntKind.i64.wrap (s3.1 + 1), x33))
 else
 some (.inr (.inl s3.2))) (0, .nil)).bind (Sum.elim (fun (p4 : (GS S_inilex_Item)) =>
 some (p4, 0, 0)) some)
noncomputable def sim_inilex_Lex (a : Res [T.str]) : Sim tb ⟨argsT [T.str] 0 a, []⟩ c_inilex_Lex.body [] (QRes [(T.sl T_inilex_Item), (T.int .i64), (T.int .i64)] c_inilex_Lex.res) :=
 Sim.seqI <| Sim.op1 (h_mv (o_nils (t := T_inilex_Item))) <| Sim.turn (born (n := 2) (j := 1002) rfl rfl) <|
 Sim.op1 (h_mv o_i) <|
 Sim.op1 (h_mv o_i) <|
 Sim.doneS <| Sim.seqI <| Sim.op1 (h_mv (o_t rfl)) <|
 Sim.op (h_call1 sp_lines_Loose (.one (o_t rfl))) fun x1 =>
 Sim.op1 (h_mv (o_t rfl)) <|
 Sim.doneS <| Sim.seqI <| Sim.op1 (h_mv (o_nils (t := T_inilex_Item))) <| Sim.turn (born (n := 6) (j := 1006) rfl rfl) <|
 Sim.doneS <| Sim.seqI <| Sim.seqI <| Sim.op1 (h_mv (o_t rfl)) <|
 Sim.op (h_len (o_t rfl)) fun x2 =>
 Sim.op1 (h_mv o_i) <|
 Sim.doneS <| Sim.blkI <| Sim.loop (id := 0) (σ := (Int × (GS S_inilex_Item))) (τ := (GS S_inilex_Item)) (fun s3 => ⟨[(5, .val (T.sl T.str) x1), (6, .own 1006), (16, .val (T.int .i64) x2), (17, .val (T.int .i64) s3.1)], [(1006, .row T_inilex_Item s3.2)]⟩) (fun p4 => ⟨[(6, .own 1006)], [(1006, .row T_inilex_Item p4)]⟩) (0, .nil) ⟨⟨⟨rfl, trivial⟩, ⟨⟨rfl, trivial⟩, ⟨⟨rfl, trivial⟩, ⟨⟨rfl, trivial⟩, trivial⟩⟩⟩⟩, ⟨⟨rfl, trivial⟩, trivial⟩⟩ (fun _ => rfl) (fun s3 =>
 Sim.seqI <| Sim.op (h_cmp (I := (IT.int .i64)) rfl (o_t rfl) (o_t rfl)) fun x5 =>
 Sim.doneS <| Sim.seqI <| Sim.cond (o_t rfl) (
 Sim.skip <| Sim.doneS <| Sim.seqI <| Sim.blkI <| Sim.seqI <| Sim.op1 (h_mv (o_t rfl)) <|
 Sim.op1 (h_mv (o_t rfl)) <|
 Sim.doneS <| Sim.seqI <| Sim.seqI <| Sim.op1 (h_mv (o_t rfl)) <|
 Sim.op (h_cmp (I := (IT.int .i64)) rfl (o_t rfl) o_i) fun x6 =>
 Sim.op1 (h_mv (o_t rfl)) <|
 Sim.or 6 rfl rfl rfl (Grp.op1 (h_mv (o_t rfl)) <|
 Grp.op1 (h_mv (o_t rfl)) <|
 Grp.op (h_ias rfl (o_t rfl) (o_t rfl)) fun x7 =>
 Grp.opn (h_ld rfl rfl (o_t rfl)) fun x8 =>
 Grp.op (h_lens (o_t rfl)) fun x9 =>
 Grp.op (h_cmp (I := (IT.int .i64)) rfl (o_t rfl) o_i) fun x10 =>
 Grp.nil (o_t rfl)) fun x11 =>
 Sim.doneS <| Sim.cond (o_t rfl) (
 Sim.seqI <| Sim.op1 (h_mv (o_t rfl)) <|
 Sim.op (h_add (I := (IT.int .i64)) (o_t rfl) o_i) fun x12 =>
 Sim.op1 (h_mv (o_nils (t := T_inilex_Item))) <| Sim.turn (born (n := 2) (j := 1002) rfl rfl) <|
 Sim.op1 (h_mv (o_t rfl)) <|
 Sim.op1 (h_mv o_i) <|
 Sim.doneS <| Sim.outRet <| Sim.frzRow 1002 rfl rfl <| Sim.ret (.cons (res_t rfl) <| .cons (res_t rfl) <| .one (res_t rfl))) (
 Sim.skip <| Sim.doneS <| Sim.seqI <| Sim.op1 (h_mv (o_t rfl)) <|
 Sim.op1 (h_mv (o_t rfl)) <|
 Sim.op (h_ias rfl (o_t rfl) (o_t rfl)) fun x13 =>
 Sim.opn (h_ld rfl rfl (o_t rfl)) fun x14 =>
 Sim.op (h_callN sp_lines_Cut (.cons (o_t rfl) <| .one (o_u8 35 rfl))) fun x15 =>
 Sim.op1 (h_mv (o_t rfl)) <|
 Sim.opn (h_ext (o_t rfl) rfl) fun x16 =>
 Sim.opn (h_ext (o_t rfl) rfl) fun x17 =>
 Sim.opn (h_ext (o_t rfl) rfl) fun x18 =>
 Sim.op1 (h_mv (o_t rfl)) <|
 Sim.op1 (h_mv (o_t rfl)) <|
 Sim.op1 (h_mv (o_t rfl)) <|
 Sim.doneS <| Sim.seqI <| Sim.op1 (h_mv (o_t rfl)) <|
 Sim.op (h_call1 sp_lines_Trim (.one (o_t rfl))) fun x19 =>
 Sim.op1 (h_mv (o_t rfl)) <|
 Sim.doneS <| Sim.seqI <| Sim.seqI <| Sim.op1 (h_mv (o_t rfl)) <|
 Sim.op (h_seql (o_t rfl) o_s) fun x20 =>
 Sim.doneS <| Sim.cond (o_t rfl) (
 Sim.exitS <| Sim.exitB <| Sim.doneS <| Sim.op (h_add (I := (IT.int .i64)) (o_t rfl) o_i) fun x21 =>
 Sim.op1 (h_mv (o_t rfl)) <|
 Sim.next (x21, s3.2) ⟨⟨⟨rfl, trivial⟩, ⟨⟨rfl, trivial⟩, ⟨⟨rfl, trivial⟩, ⟨⟨rfl, trivial⟩, trivial⟩⟩⟩⟩, ⟨⟨rfl, trivial⟩, trivial⟩⟩) (
 Sim.skip <| Sim.doneS <| Sim.seqI <| Sim.op1 (h_mv (o_t rfl)) <|
 Sim.op (h_callN sp_inilex_say (.one (o_t rfl))) fun x22 =>
 Sim.op1 (h_mv (o_t rfl)) <|
 Sim.opn (h_ext (o_t rfl) rfl) fun x23 =>
 Sim.opn (h_ext (o_t rfl) rfl) fun x24 =>
 Sim.opM (M_alloc (t := T_inilex_Item) 11 rfl rfl) fun x25 =>
 Sim.opM (M_stC (o_t rfl) (o_t rfl) rfl rfl (Fld.id _) rfl) fun x26 =>
 Sim.op1 (h_mv (o_t rfl)) <|
 Sim.doneS <| Sim.seqI <| Sim.seqI <| Sim.op1 (h_mv (o_t rfl)) <|
 Sim.op (h_not (o_t rfl)) fun x27 =>
 Sim.doneS <| Sim.cond (o_t rfl) (
 Sim.seqI <| Sim.op1 (h_mv (o_t rfl)) <|
 Sim.op (h_add (I := (IT.int .i64)) (o_t rfl) o_i) fun x28 =>
 Sim.op1 (h_mv (o_nils (t := T_inilex_Item))) <| Sim.turn (born (n := 2) (j := 1002) rfl rfl) <|
 Sim.op1 (h_mv (o_t rfl)) <|
 Sim.op1 (h_mv o_i) <|
 Sim.doneS <| Sim.outRet <| Sim.frzRow 1002 rfl rfl <| Sim.ret (.cons (res_t rfl) <| .cons (res_t rfl) <| .one (res_t rfl))) (
 Sim.skip <| Sim.doneS <| Sim.seqI <| Sim.op1 (h_mv (o_t rfl)) <|
 Sim.op (h_add (I := (IT.int .i64)) (o_t rfl) o_i) fun x29 =>
 Sim.op1 (h_faC (o_t rfl)) <|
 Sim.opM (M_stC (o_t rfl) (o_t rfl) rfl rfl F_inilex_Item_Line rfl) fun x30 =>
 Sim.doneS <| Sim.op1 (h_mv (o_t rfl)) <|
 Sim.opn (h_ldC (t := T_inilex_Item) (u := T_inilex_Item) (o_t rfl) rfl rfl (Fld.id _) rfl rfl) fun x31 =>
 Sim.op (h_bll (t := T_inilex_Item) (n := 1) rfl rfl (.cons rfl (o_t rfl) <| .nil _)) fun x32 =>
 Sim.opM (M_app rfl (o_t rfl) rfl (n_sl (o_t rfl))) fun x33 =>
 Sim.op1 (h_mv (o_t rfl)) <|
 Sim.doneB <| Sim.doneS <| Sim.op (h_add (I := (IT.int .i64)) (o_t rfl) o_i) fun x34 =>
 Sim.op1 (h_mv (o_t rfl)) <|
 Sim.next (x34, x33) ⟨⟨⟨rfl, trivial⟩, ⟨⟨rfl, trivial⟩, ⟨⟨rfl, trivial⟩, ⟨⟨rfl, trivial⟩, trivial⟩⟩⟩⟩, ⟨⟨rfl, trivial⟩, trivial⟩⟩)))) (
 Sim.exitS <| Sim.out s3.2 ⟨⟨⟨rfl, trivial⟩, trivial⟩, ⟨⟨rfl, trivial⟩, trivial⟩⟩)) (fun p4 =>
 Sim.exitB <| Sim.doneS <| Sim.seqI <| Sim.op1 (h_mv (o_t rfl)) <|
 Sim.op1 (h_mv (o_t rfl)) <|
 Sim.op1 (h_mv o_i) <|
 Sim.op1 (h_mv o_i) <|
 Sim.doneS <| Sim.frzRow 1006 rfl rfl <| Sim.ret (.cons (res_t rfl) <| .cons (res_t rfl) <| .one (res_t rfl)))
theorem sp_inilex_Lex : Spec tb fn_inilex_Lex [T.str] [(T.sl T_inilex_Item), (T.int .i64), (T.int .i64)] (fun a => inilex_Lex a) :=
  Spec.of f_inilex_Lex rfl rfl rfl sim_inilex_Lex

noncomputable def l42_alive (_ : Unit) : Option Bool :=
 (inilex_Lex [91, 32, 80, 101, 101, 114, 32, 93, 10, 65, 32, 61, 32, 98, 32, 35, 32, 99, 10]).bind fun x1 =>
 (andO (decide (x1.2.2 = 0)) (some (decide (x1.2.1 = 0)))).bind fun x7 =>
 (andO x7 (some (decide ((x1.1.l.length : Int) = 2)))).bind fun x10 =>
 (andO x10 ((idx x1.1.l 0).bind fun x11 =>
 some x11.Section)).bind fun x14 =>
 (andO x14 ((idx x1.1.l 0).bind fun x15 =>
 some (decide (x15.Name = [112, 101, 101, 114])))).bind fun x19 =>
 (andO x19 ((idx x1.1.l 1).bind fun x20 =>
 some (decide (x20.Name = [97])))).bind fun x24 =>
 (andO x24 ((idx x1.1.l 1).bind fun x25 =>
 some (decide (x25.Value = [98])))).bind fun x29 =>
 (andO x29 ((idx x1.1.l 1).bind fun x30 =>
 some (decide (x30.Line = 2)))).bind fun x34 =>
 some x34
noncomputable def sim_l42_alive (a : Res []) : Sim tb ⟨argsT [] 0 a, []⟩ c_l42_alive.body [] (QRes [T.b] c_l42_alive.res) :=
 Sim.seqI <| Sim.op1 (h_mv o_b) <|
 Sim.doneS <| Sim.seqI <| Sim.op (h_callN sp_inilex_Lex (.one o_s)) fun x1 =>
 Sim.op1 (h_mv (o_t rfl)) <|
 Sim.opn (h_ext (o_t rfl) rfl) fun x2 =>
 Sim.opn (h_ext (o_t rfl) rfl) fun x3 =>
 Sim.opn (h_ext (o_t rfl) rfl) fun x4 =>
 Sim.op1 (h_mv (o_t rfl)) <|
 Sim.op1 (h_mv (o_t rfl)) <|
 Sim.op1 (h_mv (o_t rfl)) <|
 Sim.doneS <| Sim.seqI <| Sim.op1 (h_mv (o_t rfl)) <|
 Sim.op (h_cmp (I := (IT.int .i64)) rfl (o_t rfl) o_i) fun x5 =>
 Sim.op1 (h_mv (o_t rfl)) <|
 Sim.and 2 rfl rfl rfl (Grp.op1 (h_mv (o_t rfl)) <|
 Grp.op (h_cmp (I := (IT.int .i64)) rfl (o_t rfl) o_i) fun x6 =>
 Grp.nil (o_t rfl)) fun x7 =>
 Sim.op1 (h_mv (o_t rfl)) <|
 Sim.and 3 rfl rfl rfl (Grp.op1 (h_mv (o_t rfl)) <|
 Grp.op (h_len (o_t rfl)) fun x8 =>
 Grp.op (h_cmp (I := (IT.int .i64)) rfl (o_t rfl) o_i) fun x9 =>
 Grp.nil (o_t rfl)) fun x10 =>
 Sim.op1 (h_mv (o_t rfl)) <|
 Sim.and 4 rfl rfl rfl (Grp.op1 (h_mv (o_t rfl)) <|
 Grp.op (h_ias rfl (o_t rfl) o_i) fun x11 =>
 Grp.opr (h_fa F_inilex_Item_Section (o_t rfl)) fun x12 =>
 Grp.opn (h_ld rfl rfl (o_t rfl)) fun x13 =>
 Grp.nil (o_t rfl)) fun x14 =>
 Sim.op1 (h_mv (o_t rfl)) <|
 Sim.and 5 rfl rfl rfl (Grp.op1 (h_mv (o_t rfl)) <|
 Grp.op (h_ias rfl (o_t rfl) o_i) fun x15 =>
 Grp.opr (h_fa F_inilex_Item_Name (o_t rfl)) fun x16 =>
 Grp.opn (h_ld rfl rfl (o_t rfl)) fun x17 =>
 Grp.op (h_seql (o_t rfl) o_s) fun x18 =>
 Grp.nil (o_t rfl)) fun x19 =>
 Sim.op1 (h_mv (o_t rfl)) <|
 Sim.and 5 rfl rfl rfl (Grp.op1 (h_mv (o_t rfl)) <|
 Grp.op (h_ias rfl (o_t rfl) o_i) fun x20 =>
 Grp.opr (h_fa F_inilex_Item_Name (o_t rfl)) fun x21 =>
 Grp.opn (h_ld rfl rfl (o_t rfl)) fun x22 =>
 Grp.op (h_seql (o_t rfl) o_s) fun x23 =>
 Grp.nil (o_t rfl)) fun x24 =>
 Sim.op1 (h_mv (o_t rfl)) <|
 Sim.and 5 rfl rfl rfl (Grp.op1 (h_mv (o_t rfl)) <|
 Grp.op (h_ias rfl (o_t rfl) o_i) fun x25 =>
 Grp.opr (h_fa F_inilex_Item_Value (o_t rfl)) fun x26 =>
 Grp.opn (h_ld rfl rfl (o_t rfl)) fun x27 =>
 Grp.op (h_seql (o_t rfl) o_s) fun x28 =>
 Grp.nil (o_t rfl)) fun x29 =>
 Sim.op1 (h_mv (o_t rfl)) <|
 Sim.and 5 rfl rfl rfl (Grp.op1 (h_mv (o_t rfl)) <|
 Grp.op (h_ias rfl (o_t rfl) o_i) fun x30 =>
 Grp.opr (h_fa F_inilex_Item_Line (o_t rfl)) fun x31 =>
 Grp.opn (h_ld rfl rfl (o_t rfl)) fun x32 =>
 Grp.op (h_cmp (I := (IT.int .i64)) rfl (o_t rfl) o_i) fun x33 =>
 Grp.nil (o_t rfl)) fun x34 =>
 Sim.op1 (h_mv (o_t rfl)) <|
 Sim.doneS <| Sim.ret (.one (res_t rfl))
theorem sp_l42_alive : Spec tb fn_l42_alive [] [T.b] (fun a => l42_alive ()) :=
  Spec.of f_l42_alive rfl rfl rfl sim_l42_alive

noncomputable def l42_InilexMany (a0 : Int) (a1 : Int) : Option Bool :=
 (orO (decide (a0 < 0)) (some (decide (410 < a0)))).bind fun x3 =>
 (orO x3 (some (decide (a1 < 0)))).bind fun x5 =>
 (orO x5 (some (decide (520 < a1)))).bind fun x7 =>
 if x7 = true then
 (l42_alive ()).bind fun x8 =>
 some x8
 else
 (iter (fun (s9 : (Str × Int)) =>
 if (decide (s9.2 < a0)) = true then
 (if s9.1.length + [10].length ≤ 2 * most then some (s9.1 ++ [10]) else none).bind fun x12 =>
 some (.inl (x12, IntKind.i64.wrap (s9.2 + 1)))
 else
 some (.inr (.inl s9.1))) ([], 0)).bind (Sum.elim (fun (p10 : Str) =>
 (inilex_Lex p10).bind fun x14 =>
 (andO (decide (400 < a0)) ((orO (!decide (x14.2.1 = 401)) (some (!decide (x14.2.2 = 4)))).bind fun x21 =>
 some x21)).bind fun x22 =>
 (orO x22 ((andO (decide (a0 ≤ 400)) ((orO (!decide (x14.2.1 = 0)) (some (!decide (x14.2.2 = 0)))).bind fun x26 =>
 some x26)).bind fun x27 =>
 some x27)).bind fun x28 =>
 if x28 = true then
 some false
 else
 (iter (fun (s30 : (GS UInt8)) =>
 if (decide ((s30.l.length : Int) < a1)) = true then
 (apG 1 s30 [(97 : UInt8)]).bind fun x35 =>
 some (.inl x35)
 else
 some (.inr (.inl s30))) (GS.mk [(35 : UInt8)])).bind (Sum.elim (fun (p31 : (GS UInt8)) =>
 (inilex_Lex p31.l).bind fun x37 =>
 if (decide (512 < a1)) = true then
 (andO (decide (x37.2.1 = 1)) (some (decide (x37.2.2 = 4)))).bind fun x44 =>
 (andO x44 ((l42_alive ()).bind fun x45 =>
 some x45)).bind fun x46 =>
 some x46
 else
 (andO (decide (x37.2.1 = 0)) (some (decide (x37.2.2 = 0)))).bind fun x49 =>
 (andO x49 ((l42_alive ()).bind fun x50 =>
 some x50)).bind fun x51 =>
 some x51) some)) some)
noncomputable def sim_l42_InilexMany (a : Res [(T.int .i64), (T.int .i64)]) : Sim tb ⟨argsT [(T.int .i64), (T.int .i64)] 0 a, []⟩ c_l42_InilexMany.body [] (QRes [T.b] c_l42_InilexMany.res) :=
 Sim.seqI <| Sim.op1 (h_mv o_b) <|
 Sim.doneS <| Sim.seqI <| Sim.seqI <| Sim.op1 (h_mv (o_t rfl)) <|
 Sim.op (h_cmp (I := (IT.int .i64)) rfl (o_t rfl) o_i) fun x1 =>
 Sim.op1 (h_mv (o_t rfl)) <|
 Sim.or 2 rfl rfl rfl (Grp.op1 (h_mv (o_t rfl)) <|
 Grp.op (h_cmp (I := (IT.int .i64)) rfl (o_t rfl) o_i) fun x2 =>
 Grp.nil (o_t rfl)) fun x3 =>
 Sim.op1 (h_mv (o_t rfl)) <|
 Sim.or 2 rfl rfl rfl (Grp.op1 (h_mv (o_t rfl)) <|
 Grp.op (h_cmp (I := (IT.int .i64)) rfl (o_t rfl) o_i) fun x4 =>
 Grp.nil (o_t rfl)) fun x5 =>
 Sim.op1 (h_mv (o_t rfl)) <|
 Sim.or 2 rfl rfl rfl (Grp.op1 (h_mv (o_t rfl)) <|
 Grp.op (h_cmp (I := (IT.int .i64)) rfl (o_t rfl) o_i) fun x6 =>
 Grp.nil (o_t rfl)) fun x7 =>
 Sim.doneS <| Sim.cond (o_t rfl) (
 Sim.seqI <| Sim.op (h_call1 sp_l42_alive (.nil)) fun x8 =>
 Sim.op1 (h_mv (o_t rfl)) <|
 Sim.doneS <| Sim.ret (.one (res_t rfl))) (
 Sim.skip <| Sim.doneS <| Sim.seqI <| Sim.op1 (h_mv o_s) <|
 Sim.doneS <| Sim.seqI <| Sim.seqI <| Sim.op1 (h_mv o_i) <|
 Sim.doneS <| Sim.blkI <| Sim.loop (id := 0) (σ := (Str × Int)) (τ := Str) (fun s9 => ⟨[(0, .val (T.int .i64) a.1), (1, .val (T.int .i64) a.2), (5, .val T.str s9.1), (6, .val (T.int .i64) s9.2)], []⟩) (fun p10 => ⟨[(0, .val (T.int .i64) a.1), (1, .val (T.int .i64) a.2), (5, .val T.str p10)], []⟩) ([], 0) ⟨⟨⟨rfl, trivial⟩, ⟨⟨rfl, trivial⟩, ⟨⟨rfl, trivial⟩, ⟨⟨rfl, trivial⟩, trivial⟩⟩⟩⟩, trivial⟩ (fun _ => rfl) (fun s9 =>
 Sim.seqI <| Sim.seqI <| Sim.op1 (h_mv (o_t rfl)) <|
 Sim.op1 (h_mv (o_t rfl)) <|
 Sim.op (h_cmp (I := (IT.int .i64)) rfl (o_t rfl) (o_t rfl)) fun x11 =>
 Sim.doneS <| Sim.cond (o_t rfl) (
 Sim.skip <| Sim.doneS <| Sim.seqI <| Sim.blkI <| Sim.op1 (h_mv (o_t rfl)) <|
 Sim.op (h_sadd (o_t rfl) o_s) fun x12 =>
 Sim.op1 (h_mv (o_t rfl)) <|
 Sim.doneB <| Sim.doneS <| Sim.op1 (h_mv (o_t rfl)) <|
 Sim.op (h_add (I := (IT.int .i64)) (o_t rfl) o_i) fun x13 =>
 Sim.op1 (h_mv (o_t rfl)) <|
 Sim.next (x12, x13) ⟨⟨⟨rfl, trivial⟩, ⟨⟨rfl, trivial⟩, ⟨⟨rfl, trivial⟩, ⟨⟨rfl, trivial⟩, trivial⟩⟩⟩⟩, trivial⟩) (
 Sim.exitS <| Sim.out s9.1 ⟨⟨⟨rfl, trivial⟩, ⟨⟨rfl, trivial⟩, ⟨⟨rfl, trivial⟩, trivial⟩⟩⟩, trivial⟩)) (fun p10 =>
 Sim.exitB <| Sim.doneS <| Sim.seqI <| Sim.op1 (h_mv (o_t rfl)) <|
 Sim.op (h_callN sp_inilex_Lex (.one (o_t rfl))) fun x14 =>
 Sim.op1 (h_mv (o_t rfl)) <|
 Sim.opn (h_ext (o_t rfl) rfl) fun x15 =>
 Sim.opn (h_ext (o_t rfl) rfl) fun x16 =>
 Sim.opn (h_ext (o_t rfl) rfl) fun x17 =>
 Sim.op1 (h_mv (o_t rfl)) <|
 Sim.op1 (h_mv (o_t rfl)) <|
 Sim.op1 (h_mv (o_t rfl)) <|
 Sim.doneS <| Sim.seqI <| Sim.seqI <| Sim.op1 (h_mv (o_t rfl)) <|
 Sim.op (h_cmp (I := (IT.int .i64)) rfl (o_t rfl) o_i) fun x18 =>
 Sim.op1 (h_mv (o_t rfl)) <|
 Sim.and 6 rfl rfl rfl (Grp.op1 (h_mv (o_t rfl)) <|
 Grp.op (h_cmp (I := (IT.int .i64)) rfl (o_t rfl) o_i) fun x19 =>
 Grp.op1 (h_mv (o_t rfl)) <|
 Grp.or 2 rfl rfl rfl rfl rfl (Grp.op1 (h_mv (o_t rfl)) <|
 Grp.op (h_cmp (I := (IT.int .i64)) rfl (o_t rfl) o_i) fun x20 =>
 Grp.nil (o_t rfl)) fun x21 =>
 Grp.nil (o_t rfl)) fun x22 =>
 Sim.op1 (h_mv (o_t rfl)) <|
 Sim.or 10 rfl rfl rfl (Grp.op1 (h_mv (o_t rfl)) <|
 Grp.op (h_cmp (I := (IT.int .i64)) rfl (o_t rfl) o_i) fun x23 =>
 Grp.op1 (h_mv (o_t rfl)) <|
 Grp.and 6 rfl rfl rfl rfl rfl (Grp.op1 (h_mv (o_t rfl)) <|
 Grp.op (h_cmp (I := (IT.int .i64)) rfl (o_t rfl) o_i) fun x24 =>
 Grp.op1 (h_mv (o_t rfl)) <|
 Grp.or 2 rfl rfl rfl rfl rfl (Grp.op1 (h_mv (o_t rfl)) <|
 Grp.op (h_cmp (I := (IT.int .i64)) rfl (o_t rfl) o_i) fun x25 =>
 Grp.nil (o_t rfl)) fun x26 =>
 Grp.nil (o_t rfl)) fun x27 =>
 Grp.nil (o_t rfl)) fun x28 =>
 Sim.doneS <| Sim.cond (o_t rfl) (
 Sim.seqI <| Sim.op1 (h_mv o_b) <|
 Sim.doneS <| Sim.ret (.one (res_t rfl))) (
 Sim.skip <| Sim.doneS <| Sim.seqI <| Sim.opM (M_bls (t := T.u8) (n := 1) 1061 rfl rfl (.cons rfl (o_u8 35 rfl) <| .nil _) rfl) fun x29 =>
 Sim.op1 (h_cvr (o_t rfl) rfl) <|
 Sim.op1 (h_mv (o_t rfl)) <|
 Sim.doneS <| Sim.seqI <| Sim.blkI <| Sim.loop (id := 2) (σ := (GS UInt8)) (τ := (GS UInt8)) (fun s30 => ⟨[(1, .val (T.int .i64) a.2), (10, .own 1061)], [(1061, .row T.u8 s30)]⟩) (fun p31 => ⟨[(1, .val (T.int .i64) a.2), (10, .own 1061)], [(1061, .row T.u8 p31)]⟩) (.mk x29) ⟨⟨⟨rfl, trivial⟩, ⟨⟨rfl, trivial⟩, trivial⟩⟩, ⟨⟨rfl, trivial⟩, trivial⟩⟩ (fun _ => rfl) (fun s30 =>
 Sim.seqI <| Sim.seqI <| Sim.op1 (h_mv (o_t rfl)) <|
 Sim.op (h_lenO (o_t rfl) rfl) fun x32 =>
 Sim.op1 (h_mv (o_t rfl)) <|
 Sim.op (h_cmp (I := (IT.int .i64)) rfl (o_t rfl) (o_t rfl)) fun x33 =>
 Sim.doneS <| Sim.cond (o_t rfl) (
 Sim.skip <| Sim.doneS <| Sim.blkI <| Sim.op1 (h_mv (o_t rfl)) <|
 Sim.op (h_bll (t := T.u8) (n := 1) rfl rfl (.cons rfl (o_u8 97 rfl) <| .nil _)) fun x34 =>
 Sim.opM (M_app rfl (o_t rfl) rfl (n_sl (o_t rfl))) fun x35 =>
 Sim.op1 (h_mv (o_t rfl)) <|
 Sim.doneB <| Sim.next x35 ⟨⟨⟨rfl, trivial⟩, ⟨⟨rfl, trivial⟩, trivial⟩⟩, ⟨⟨rfl, trivial⟩, trivial⟩⟩) (
 Sim.exitS <| Sim.out s30 ⟨⟨⟨rfl, trivial⟩, ⟨⟨rfl, trivial⟩, trivial⟩⟩, ⟨⟨rfl, trivial⟩, trivial⟩⟩)) (fun p31 =>
 Sim.exitB <| Sim.doneS <| Sim.seqI <| Sim.op1 (h_mv (o_t rfl)) <|
 Sim.op (h_cvsO (o_t rfl) rfl) fun x36 =>
 Sim.op (h_callN sp_inilex_Lex (.one (o_t rfl))) fun x37 =>
 Sim.op1 (h_mv (o_t rfl)) <|
 Sim.opn (h_ext (o_t rfl) rfl) fun x38 =>
 Sim.opn (h_ext (o_t rfl) rfl) fun x39 =>
 Sim.opn (h_ext (o_t rfl) rfl) fun x40 =>
 Sim.op1 (h_mv (o_t rfl)) <|
 Sim.op1 (h_mv (o_t rfl)) <|
 Sim.doneS <| Sim.seqI <| Sim.seqI <| Sim.op1 (h_mv (o_t rfl)) <|
 Sim.op (h_cmp (I := (IT.int .i64)) rfl (o_t rfl) o_i) fun x41 =>
 Sim.doneS <| Sim.cond (o_t rfl) (
 Sim.seqI <| Sim.op1 (h_mv (o_t rfl)) <|
 Sim.op (h_cmp (I := (IT.int .i64)) rfl (o_t rfl) o_i) fun x42 =>
 Sim.op1 (h_mv (o_t rfl)) <|
 Sim.and 2 rfl rfl rfl (Grp.op1 (h_mv (o_t rfl)) <|
 Grp.op (h_cmp (I := (IT.int .i64)) rfl (o_t rfl) o_i) fun x43 =>
 Grp.nil (o_t rfl)) fun x44 =>
 Sim.op1 (h_mv (o_t rfl)) <|
 Sim.and 1 rfl rfl rfl (Grp.op (h_call1 sp_l42_alive (.nil)) fun x45 =>
 Grp.nil (o_t rfl)) fun x46 =>
 Sim.op1 (h_mv (o_t rfl)) <|
 Sim.doneS <| Sim.ret (.one (res_t rfl))) (
 Sim.skip <| Sim.doneS <| Sim.seqI <| Sim.op1 (h_mv (o_t rfl)) <|
 Sim.op (h_cmp (I := (IT.int .i64)) rfl (o_t rfl) o_i) fun x47 =>
 Sim.op1 (h_mv (o_t rfl)) <|
 Sim.and 2 rfl rfl rfl (Grp.op1 (h_mv (o_t rfl)) <|
 Grp.op (h_cmp (I := (IT.int .i64)) rfl (o_t rfl) o_i) fun x48 =>
 Grp.nil (o_t rfl)) fun x49 =>
 Sim.op1 (h_mv (o_t rfl)) <|
 Sim.and 1 rfl rfl rfl (Grp.op (h_call1 sp_l42_alive (.nil)) fun x50 =>
 Grp.nil (o_t rfl)) fun x51 =>
 Sim.op1 (h_mv (o_t rfl)) <|
 Sim.doneS <| Sim.ret (.one (res_t rfl)))))))
theorem sp_l42_InilexMany : Spec tb fn_l42_InilexMany [(T.int .i64), (T.int .i64)] [T.b] (fun a => l42_InilexMany a.1 a.2) :=
  Spec.of f_l42_InilexMany rfl rfl rfl sim_l42_InilexMany

end Go.Proofs.YtkmdppdlglikkaaDoor.Am
