/-
  What functions compute, and that they do. Printed by mkwalk.py.
-/
import Derived.Test.YtopgecohakediaaDoorWk0
set_option linter.unusedVariables false
set_option maxRecDepth 100000
namespace Go.Proofs.YtopgecohakediaaDoor.Am

noncomputable def strings_Count (a0 : Str) (a1 : Str) : Option Int :=
 if (decide ((a1.length : Int) = 0)) = true then
 (unicode_utf8_RuneCountInString a0).bind fun x3 =>
 some (IntKind.i64.wrap (x3 + 1))
 else
 if (decide ((a1.length : Int) = 1)) = true then
 (idx a1 0).bind fun x7 =>
 (internal_bytealg_CountString a0 x7).bind fun x8 =>
 some x8
 else
 (iter (fun (s9 : (Str × Int)) =>
 (strings_Index s9.1 a1).bind fun x11 =>
 if (decide (x11 = (-1))) = true then
 (some s9.2).map fun r => .inr (.inr r)
 else
 (subL s9.1 (some (IntKind.i64.wrap (x11 + (a1.length : Int)))) none).bind fun x16 =>
 some (.inl (x16, IntKind.i64.wrap (s9.2 + 1)))) (a0, 0)).bind (Sum.elim (fun _ : Empty => none) some)
noncomputable def sim_strings_Count (a : Res [T.str, T.str]) : Sim tb ⟨argsT [T.str, T.str] 0 a, []⟩ c_strings_Count.body [] (QRes [(T.int .i64)] c_strings_Count.res) :=
 Sim.seqI <| Sim.op1 (h_mv o_i) <|
 Sim.doneS <| Sim.seqI <| Sim.seqI <| Sim.op1 (h_mv (o_t rfl)) <|
 Sim.op (h_lens (o_t rfl)) fun x1 =>
 Sim.op (h_cmp (I := (IT.int .i64)) rfl (o_t rfl) o_i) fun x2 =>
 Sim.doneS <| Sim.cond (o_t rfl) (
 Sim.seqI <| Sim.op1 (h_mv (o_t rfl)) <|
 Sim.op (h_call1 sp_unicode_utf8_RuneCountInString (.one (o_t rfl))) fun x3 =>
 Sim.op (h_add (I := (IT.int .i64)) (o_t rfl) o_i) fun x4 =>
 Sim.op1 (h_mv (o_t rfl)) <|
 Sim.doneS <| Sim.ret (.one (res_t rfl))) (
 Sim.skip <| Sim.doneS <| Sim.seqI <| Sim.seqI <| Sim.op1 (h_mv (o_t rfl)) <|
 Sim.op (h_lens (o_t rfl)) fun x5 =>
 Sim.op (h_cmp (I := (IT.int .i64)) rfl (o_t rfl) o_i) fun x6 =>
 Sim.doneS <| Sim.cond (o_t rfl) (
 Sim.seqI <| Sim.op1 (h_mv (o_t rfl)) <|
 Sim.op1 (h_mv (o_t rfl)) <|
 Sim.op (h_ixs (o_t rfl) o_i) fun x7 =>
 Sim.op (h_call1 sp_internal_bytealg_CountString (.cons (o_t rfl) <| .one (o_t rfl))) fun x8 =>
 Sim.op1 (h_mv (o_t rfl)) <|
 Sim.doneS <| Sim.ret (.one (res_t rfl))) (
 Sim.skip <| Sim.doneS <| Sim.seqI <| Sim.op1 (h_mv o_i) <|
 Sim.doneS <| Sim.blkI <| Sim.loop (id := 0) (σ := (Str × Int)) (τ := Empty) (fun s9 => ⟨[(0, .val T.str s9.1), (1, .val T.str a.2), (5, .val (T.int .i64) s9.2)], []⟩) (fun p => p.elim) (a.1, 0) ⟨⟨⟨rfl, trivial⟩, ⟨⟨rfl, trivial⟩, ⟨⟨rfl, trivial⟩, trivial⟩⟩⟩, trivial⟩ (fun _ => rfl) (fun s9 =>
 Sim.blkI <| Sim.seqI <| Sim.op1 (h_mv (o_t rfl)) <|
 Sim.op1 (h_mv (o_t rfl)) <|
 Sim.op (h_call1 sp_strings_Index (.cons (o_t rfl) <| .one (o_t rfl))) fun x11 =>
 Sim.op1 (h_mv (o_t rfl)) <|
 Sim.doneS <| Sim.seqI <| Sim.seqI <| Sim.op1 (h_mv (o_t rfl)) <|
 Sim.op (h_cmp (I := (IT.int .i64)) rfl (o_t rfl) o_i) fun x12 =>
 Sim.doneS <| Sim.cond (o_t rfl) (
 Sim.seqI <| Sim.op1 (h_mv (o_t rfl)) <|
 Sim.op1 (h_mv (o_t rfl)) <|
 Sim.doneS <| Sim.outRet <| Sim.ret (.one (res_t rfl))) (
 Sim.skip <| Sim.doneS <| Sim.seqI <| Sim.op1 (h_mv (o_t rfl)) <|
 Sim.op (h_add (I := (IT.int .i64)) (o_t rfl) o_i) fun x13 =>
 Sim.op1 (h_mv (o_t rfl)) <|
 Sim.doneS <| Sim.op1 (h_mv (o_t rfl)) <|
 Sim.op1 (h_mv (o_t rfl)) <|
 Sim.op1 (h_mv (o_t rfl)) <|
 Sim.op (h_lens (o_t rfl)) fun x14 =>
 Sim.op (h_add (I := (IT.int .i64)) (o_t rfl) (o_t rfl)) fun x15 =>
 Sim.op (h_sls (o_t rfl) (.some (o_t rfl)) .none) fun x16 =>
 Sim.op1 (h_mv (o_t rfl)) <|
 Sim.doneB <| Sim.next (x16, x13) ⟨⟨⟨rfl, trivial⟩, ⟨⟨rfl, trivial⟩, ⟨⟨rfl, trivial⟩, trivial⟩⟩⟩, trivial⟩)) (fun _ => Sim.stop)))
theorem sp_strings_Count : Spec tb fn_strings_Count [T.str, T.str] [(T.int .i64)] (fun a => strings_Count a.1 a.2) :=
  Spec.of f_strings_Count rfl rfl rfl sim_strings_Count

noncomputable def strings_genSplit (a0 : Str) (a1 : Str) (a2 : Int) (a3 : Int) : Option (GS Str) :=
 if (decide (a3 = 0)) = true then
 some .nil
 else
 if (decide (a1 = [])) = true then
 (strings_explode a0 a3).bind fun x3 =>
 some x3
 else
 (fun (k6 : Int → Option _) => if (decide (a3 < 0)) = true then
 (strings_Count a0 a1).bind fun x29 =>
 k6 (IntKind.i64.wrap (x29 + 1))
 else
 k6 a3) fun p5 =>
 let x9 := if IntKind.i64.wrap ((a0.length : Int) + 1) < p5 then IntKind.i64.wrap ((a0.length : Int) + 1) else p5
 (mkG [] 16 x9 x9).bind fun x10 =>
 (iter (fun (s12 : (Str × Int × (GS Str))) =>
 if (decide (s12.2.1 < IntKind.i64.wrap (x9 - 1))) = true then
 (strings_Index s12.1 a1).bind fun x15 =>
 if (decide (x15 < 0)) = true then
 some (.inr (.inl (s12.1, s12.2.1, s12.2.2)))
 else
 (subL s12.1 none (some (IntKind.i64.wrap (x15 + a2)))).bind fun x18 =>
 (idxN s12.2.2.l.length s12.2.1).bind fun x19 =>
 (s12.2.2.l[x19]?.map fun y => s12.2.2.set x19 x18).bind fun x20 =>
 (subL s12.1 (some (IntKind.i64.wrap (x15 + (a1.length : Int)))) none).bind fun x23 =>
 some (.inl (x23, IntKind.i64.wrap (s12.2.1 + 1), x20))
 else
 some (.inr (.inl (s12.1, s12.2.1, s12.2.2)))) (a0, 0, x10)).bind (Sum.elim (fun (p13 : (Str × Int × (GS Str))) =>
 (idxN p13.2.2.l.length p13.2.1).bind fun x25 =>
 (p13.2.2.l[x25]?.map fun y => p13.2.2.set x25 p13.1).bind fun x26 =>
 (slG x26 none (some (IntKind.i64.wrap (p13.2.1 + 1)))).bind fun x28 =>
 some x28) some)
noncomputable def sim_strings_genSplit (a : Res [T.str, T.str, (T.int .i64), (T.int .i64)]) : Sim tb ⟨argsT [T.str, T.str, (T.int .i64), (T.int .i64)] 0 a, []⟩ c_strings_genSplit.body [] (QRes [(T.sl T.str)] c_strings_genSplit.res) :=
 Sim.seqI <| Sim.op1 (h_mv (o_nils (t := T.str))) <|
 Sim.doneS <| Sim.seqI <| Sim.seqI <| Sim.op1 (h_mv (o_t rfl)) <|
 Sim.op (h_cmp (I := (IT.int .i64)) rfl (o_t rfl) o_i) fun x1 =>
 Sim.doneS <| Sim.cond (o_t rfl) (
 Sim.seqI <| Sim.op1 (h_mv (o_nils (t := T.str))) <|
 Sim.doneS <| Sim.ret (.one (res_t rfl))) (
 Sim.skip <| Sim.doneS <| Sim.seqI <| Sim.seqI <| Sim.op1 (h_mv (o_t rfl)) <|
 Sim.op (h_seql (o_t rfl) o_s) fun x2 =>
 Sim.doneS <| Sim.cond (o_t rfl) (
 Sim.seqI <| Sim.op1 (h_mv (o_t rfl)) <|
 Sim.op1 (h_mv (o_t rfl)) <|
 Sim.op (h_call1 sp_strings_explode (.cons (o_t rfl) <| .one (o_t rfl))) fun x3 =>
 Sim.op1 (h_mv (o_t rfl)) <|
 Sim.doneS <| Sim.ret (.one (res_t rfl))) (
 Sim.skip <| Sim.doneS <| Sim.seqI <| Sim.seqI <| Sim.op1 (h_mv (o_t rfl)) <|
 Sim.op (h_cmp (I := (IT.int .i64)) rfl (o_t rfl) o_i) fun x4 =>
 Sim.doneS <| Sim.join (τ := Int) (fun p5 => ⟨[(0, .val T.str a.1), (1, .val T.str a.2.1), (2, .val (T.int .i64) a.2.2.1), (3, .val (T.int .i64) p5)], []⟩) (fun p5 =>
 Sim.doneS <| Sim.seqI <| Sim.op1 (h_mv (o_t rfl)) <|
 Sim.op1 (h_mv (o_t rfl)) <|
 Sim.op (h_lens (o_t rfl)) fun x7 =>
 Sim.op (h_add (I := (IT.int .i64)) (o_t rfl) o_i) fun x8 =>
 Sim.op (h_max (I := (IT.int .i64)) (mx := false) (o_t rfl) (o_t rfl)) fun x9 =>
 Sim.op1 (h_mv (o_t rfl)) <|
 Sim.doneS <| Sim.seqI <| Sim.op1 (h_mv (o_t rfl)) <|
 Sim.opM (M_mks (t := T.str) 1031 rfl rfl rfl (o_t rfl) (o_t rfl)) fun x10 =>
 Sim.op1 (h_mv (o_t rfl)) <|
 Sim.doneS <| Sim.seqI <| Sim.op1 (h_mv (o_t rfl)) <|
 Sim.op (h_sub (I := (IT.int .i64)) (o_t rfl) o_i) fun x11 =>
 Sim.op1 (h_mv (o_t rfl)) <|
 Sim.doneS <| Sim.seqI <| Sim.op1 (h_mv o_i) <|
 Sim.doneS <| Sim.seqI <| Sim.blkI <| Sim.loop (id := 0) (σ := (Str × Int × (GS Str))) (τ := (Str × Int × (GS Str))) (fun s12 => ⟨[(0, .val T.str s12.1), (1, .val T.str a.2.1), (2, .val (T.int .i64) a.2.2.1), (3, .val (T.int .i64) x11), (9, .own 1031), (10, .val (T.int .i64) s12.2.1)], [(1031, .row T.str s12.2.2)]⟩) (fun p13 => ⟨[(0, .val T.str p13.1), (9, .own 1031), (10, .val (T.int .i64) p13.2.1)], [(1031, .row T.str p13.2.2)]⟩) (a.1, 0, x10) ⟨⟨⟨rfl, trivial⟩, ⟨⟨rfl, trivial⟩, ⟨⟨rfl, trivial⟩, ⟨⟨rfl, trivial⟩, ⟨⟨rfl, trivial⟩, ⟨⟨rfl, trivial⟩, trivial⟩⟩⟩⟩⟩⟩, ⟨⟨rfl, trivial⟩, trivial⟩⟩ (fun _ => rfl) (fun s12 =>
 Sim.seqI <| Sim.seqI <| Sim.op1 (h_mv (o_t rfl)) <|
 Sim.op1 (h_mv (o_t rfl)) <|
 Sim.op (h_cmp (I := (IT.int .i64)) rfl (o_t rfl) (o_t rfl)) fun x14 =>
 Sim.doneS <| Sim.cond (o_t rfl) (
 Sim.skip <| Sim.doneS <| Sim.blkI <| Sim.seqI <| Sim.op1 (h_mv (o_t rfl)) <|
 Sim.op1 (h_mv (o_t rfl)) <|
 Sim.op (h_call1 sp_strings_Index (.cons (o_t rfl) <| .one (o_t rfl))) fun x15 =>
 Sim.op1 (h_mv (o_t rfl)) <|
 Sim.doneS <| Sim.seqI <| Sim.seqI <| Sim.op1 (h_mv (o_t rfl)) <|
 Sim.op (h_cmp (I := (IT.int .i64)) rfl (o_t rfl) o_i) fun x16 =>
 Sim.doneS <| Sim.cond (o_t rfl) (
 Sim.exitS <| Sim.exitO rfl <| Sim.out (s12.1, s12.2.1, s12.2.2) ⟨⟨⟨rfl, trivial⟩, ⟨⟨rfl, trivial⟩, ⟨⟨rfl, trivial⟩, trivial⟩⟩⟩, ⟨⟨rfl, trivial⟩, trivial⟩⟩) (
 Sim.skip <| Sim.doneS <| Sim.seqI <| Sim.op1 (h_mv (o_t rfl)) <|
 Sim.op1 (h_mv (o_t rfl)) <|
 Sim.op1 (h_mv (o_t rfl)) <|
 Sim.op1 (h_mv (o_t rfl)) <|
 Sim.op1 (h_mv (o_t rfl)) <|
 Sim.op (h_add (I := (IT.int .i64)) (o_t rfl) (o_t rfl)) fun x17 =>
 Sim.op (h_sls (o_t rfl) .none (.some (o_t rfl))) fun x18 =>
 Sim.op (h_iasO rfl (o_t rfl) rfl (o_t rfl)) fun x19 =>
 Sim.opM (M_stE (t := T.str) (u := T.str) rfl (Fld.id _) (o_t rfl) (o_t rfl) rfl) fun x20 =>
 Sim.doneS <| Sim.seqI <| Sim.op1 (h_mv (o_t rfl)) <|
 Sim.op1 (h_mv (o_t rfl)) <|
 Sim.op1 (h_mv (o_t rfl)) <|
 Sim.op (h_lens (o_t rfl)) fun x21 =>
 Sim.op (h_add (I := (IT.int .i64)) (o_t rfl) (o_t rfl)) fun x22 =>
 Sim.op (h_sls (o_t rfl) (.some (o_t rfl)) .none) fun x23 =>
 Sim.op1 (h_mv (o_t rfl)) <|
 Sim.doneS <| Sim.op1 (h_mv (o_t rfl)) <|
 Sim.op (h_add (I := (IT.int .i64)) (o_t rfl) o_i) fun x24 =>
 Sim.op1 (h_mv (o_t rfl)) <|
 Sim.doneB <| Sim.next (x23, x24, x20) ⟨⟨⟨rfl, trivial⟩, ⟨⟨rfl, trivial⟩, ⟨⟨rfl, trivial⟩, ⟨⟨rfl, trivial⟩, ⟨⟨rfl, trivial⟩, ⟨⟨rfl, trivial⟩, trivial⟩⟩⟩⟩⟩⟩, ⟨⟨rfl, trivial⟩, trivial⟩⟩)) (
 Sim.exitS <| Sim.out (s12.1, s12.2.1, s12.2.2) ⟨⟨⟨rfl, trivial⟩, ⟨⟨rfl, trivial⟩, ⟨⟨rfl, trivial⟩, trivial⟩⟩⟩, ⟨⟨rfl, trivial⟩, trivial⟩⟩)) (fun p13 =>
 Sim.exitB <| Sim.doneS <| Sim.seqI <| Sim.op1 (h_mv (o_t rfl)) <|
 Sim.op1 (h_mv (o_t rfl)) <|
 Sim.op1 (h_mv (o_t rfl)) <|
 Sim.op (h_iasO rfl (o_t rfl) rfl (o_t rfl)) fun x25 =>
 Sim.opM (M_stE (t := T.str) (u := T.str) rfl (Fld.id _) (o_t rfl) (o_t rfl) rfl) fun x26 =>
 Sim.doneS <| Sim.seqI <| Sim.op1 (h_mv (o_t rfl)) <|
 Sim.op1 (h_mv (o_t rfl)) <|
 Sim.op (h_add (I := (IT.int .i64)) (o_t rfl) o_i) fun x27 =>
 Sim.frzRow 1031 rfl rfl <| Sim.op (h_sll rfl (o_t rfl) .none (.some (o_t rfl))) fun x28 =>
 Sim.op1 (h_mv (o_t rfl)) <|
 Sim.doneS <| Sim.ret (.one (res_t rfl)))) fun k6 => Sim.cond (o_t rfl) (
 Sim.op1 (h_mv (o_t rfl)) <|
 Sim.op1 (h_mv (o_t rfl)) <|
 Sim.op (h_call1 sp_strings_Count (.cons (o_t rfl) <| .one (o_t rfl))) fun x29 =>
 Sim.op (h_add (I := (IT.int .i64)) (o_t rfl) o_i) fun x30 =>
 Sim.op1 (h_mv (o_t rfl)) <|
 Sim.weak (k6 x30) ⟨⟨⟨rfl, trivial⟩, ⟨⟨rfl, trivial⟩, ⟨⟨rfl, trivial⟩, ⟨⟨rfl, trivial⟩, trivial⟩⟩⟩⟩, trivial⟩) (
 Sim.skip <| Sim.weak (k6 a.2.2.2) ⟨⟨⟨rfl, trivial⟩, ⟨⟨rfl, trivial⟩, ⟨⟨rfl, trivial⟩, ⟨⟨rfl, trivial⟩, trivial⟩⟩⟩⟩, trivial⟩)))
theorem sp_strings_genSplit : Spec tb fn_strings_genSplit [T.str, T.str, (T.int .i64), (T.int .i64)] [(T.sl T.str)] (fun a => strings_genSplit a.1 a.2.1 a.2.2.1 a.2.2.2) :=
  Spec.of f_strings_genSplit rfl rfl rfl sim_strings_genSplit

noncomputable def strings_Split (a0 : Str) (a1 : Str) : Option (GS Str) :=
 (strings_genSplit a0 a1 0 (-1)).bind fun x1 =>
 some x1
noncomputable def sim_strings_Split (a : Res [T.str, T.str]) : Sim tb ⟨argsT [T.str, T.str] 0 a, []⟩ c_strings_Split.body [] (QRes [(T.sl T.str)] c_strings_Split.res) :=
 Sim.seqI <| Sim.op1 (h_mv (o_nils (t := T.str))) <|
 Sim.doneS <| Sim.seqI <| Sim.op1 (h_mv (o_t rfl)) <|
 Sim.op1 (h_mv (o_t rfl)) <|
 Sim.op (h_call1 sp_strings_genSplit (.cons (o_t rfl) <| .cons (o_t rfl) <| .cons o_i <| .one o_i)) fun x1 =>
 Sim.op1 (h_mv (o_t rfl)) <|
 Sim.doneS <| Sim.ret (.one (res_t rfl))
theorem sp_strings_Split : Spec tb fn_strings_Split [T.str, T.str] [(T.sl T.str)] (fun a => strings_Split a.1 a.2) :=
  Spec.of f_strings_Split rfl rfl rfl sim_strings_Split

noncomputable def lines_Loose (a0 : Str) : Option (GS Str) :=
 if (decide (a0 = [])) = true then
 some .nil
 else
 (strings_TrimSuffix a0 [10]).bind fun x2 =>
 (strings_Split x2 [10]).bind fun x3 =>
 some x3
noncomputable def sim_lines_Loose (a : Res [T.str]) : Sim tb ⟨argsT [T.str] 0 a, []⟩ c_lines_Loose.body [] (QRes [(T.sl T.str)] c_lines_Loose.res) :=
 Sim.seqI <| Sim.op1 (h_mv (o_nils (t := T.str))) <|
 Sim.doneS <| Sim.seqI <| Sim.seqI <| Sim.op1 (h_mv (o_t rfl)) <|
 Sim.op (h_seql (o_t rfl) o_s) fun x1 =>
 Sim.doneS <| Sim.cond (o_t rfl) (
 Sim.seqI <| Sim.op1 (h_mv (o_nils (t := T.str))) <|
 Sim.doneS <| Sim.ret (.one (res_t rfl))) (
 Sim.skip <| Sim.doneS <| Sim.seqI <| Sim.op1 (h_mv (o_t rfl)) <|
 Sim.op (h_call1 sp_strings_TrimSuffix (.cons (o_t rfl) <| .one o_s)) fun x2 =>
 Sim.op (h_call1 sp_strings_Split (.cons (o_t rfl) <| .one o_s)) fun x3 =>
 Sim.op1 (h_mv (o_t rfl)) <|
 Sim.doneS <| Sim.ret (.one (res_t rfl)))
theorem sp_lines_Loose : Spec tb fn_lines_Loose [T.str] [(T.sl T.str)] (fun a => lines_Loose a) :=
  Spec.of f_lines_Loose rfl rfl rfl sim_lines_Loose

noncomputable def lines_Split (a0 : Str) : Option ((GS Str) × Bool) :=
 (andO (!decide (a0 = [])) ((strings_HasSuffix a0 [10]).bind fun x2 =>
 some (!x2))).bind fun x4 =>
 if x4 = true then
 some (.nil, false)
 else
 (lines_Loose a0).bind fun x5 =>
 some (x5, true)
noncomputable def sim_lines_Split (a : Res [T.str]) : Sim tb ⟨argsT [T.str] 0 a, []⟩ c_lines_Split.body [] (QRes [(T.sl T.str), T.b] c_lines_Split.res) :=
 Sim.seqI <| Sim.op1 (h_mv (o_nils (t := T.str))) <|
 Sim.op1 (h_mv o_b) <|
 Sim.doneS <| Sim.seqI <| Sim.seqI <| Sim.op1 (h_mv (o_t rfl)) <|
 Sim.op (h_sneq (o_t rfl) o_s) fun x1 =>
 Sim.op1 (h_mv (o_t rfl)) <|
 Sim.and 3 rfl rfl rfl (Grp.op1 (h_mv (o_t rfl)) <|
 Grp.op (h_call1 sp_strings_HasSuffix (.cons (o_t rfl) <| .one o_s)) fun x2 =>
 Grp.op (h_not (o_t rfl)) fun x3 =>
 Grp.nil (o_t rfl)) fun x4 =>
 Sim.doneS <| Sim.cond (o_t rfl) (
 Sim.seqI <| Sim.op1 (h_mv (o_nils (t := T.str))) <|
 Sim.op1 (h_mv o_b) <|
 Sim.doneS <| Sim.ret (.cons (res_t rfl) <| .one (res_t rfl))) (
 Sim.skip <| Sim.doneS <| Sim.seqI <| Sim.op1 (h_mv (o_t rfl)) <|
 Sim.op (h_call1 sp_lines_Loose (.one (o_t rfl))) fun x5 =>
 Sim.op1 (h_mv (o_t rfl)) <|
 Sim.op1 (h_mv o_b) <|
 Sim.doneS <| Sim.ret (.cons (res_t rfl) <| .one (res_t rfl)))
theorem sp_lines_Split : Spec tb fn_lines_Split [T.str] [(T.sl T.str), T.b] (fun a => lines_Split a) :=
  Spec.of f_lines_Split rfl rfl rfl sim_lines_Split

noncomputable def r06_Same (a0 : (GS Str)) (a1 : (GS Str)) : Option Bool :=
 let x3 := !decide ((a0.l.length : Int) = (a1.l.length : Int))
 if x3 = true then
 some false
 else
 (iter (fun (s4 : Int) =>
 if (decide (s4 < (a0.l.length : Int))) = true then
 (idx a0.l s4).bind fun x8 =>
 (idx a1.l s4).bind fun x10 =>
 if (!decide (x8 = x10)) = true then
 (some false).map fun r => .inr (.inr r)
 else
 some (.inl (IntKind.i64.wrap (s4 + 1)))
 else
 some (.inr (.inl ()))) 0).bind (Sum.elim (fun (p5 : Unit) =>
 some true) some)
noncomputable def sim_r06_Same (a : Res [(T.sl T.str), (T.sl T.str)]) : Sim tb ⟨argsT [(T.sl T.str), (T.sl T.str)] 0 a, []⟩ c_r06_Same.body [] (QRes [T.b] c_r06_Same.res) :=
 Sim.seqI <| Sim.op1 (h_mv o_b) <|
 Sim.doneS <| Sim.seqI <| Sim.seqI <| Sim.op1 (h_mv (o_t rfl)) <|
 Sim.op (h_len (o_t rfl)) fun x1 =>
 Sim.op1 (h_mv (o_t rfl)) <|
 Sim.op (h_len (o_t rfl)) fun x2 =>
 Sim.op (h_cmp (I := (IT.int .i64)) rfl (o_t rfl) (o_t rfl)) fun x3 =>
 Sim.doneS <| Sim.cond (o_t rfl) (
 Sim.seqI <| Sim.op1 (h_mv o_b) <|
 Sim.doneS <| Sim.ret (.one (res_t rfl))) (
 Sim.skip <| Sim.doneS <| Sim.seqI <| Sim.seqI <| Sim.op1 (h_mv o_i) <|
 Sim.doneS <| Sim.blkI <| Sim.loop (id := 0) (σ := Int) (τ := Unit) (fun s4 => ⟨[(0, .val (T.sl T.str) a.1), (1, .val (T.sl T.str) a.2), (5, .val (T.int .i64) s4)], []⟩) (fun p5 => ⟨[], []⟩) 0 ⟨⟨⟨rfl, trivial⟩, ⟨⟨rfl, trivial⟩, ⟨⟨rfl, trivial⟩, trivial⟩⟩⟩, trivial⟩ (fun _ => rfl) (fun s4 =>
 Sim.seqI <| Sim.seqI <| Sim.op1 (h_mv (o_t rfl)) <|
 Sim.op1 (h_mv (o_t rfl)) <|
 Sim.op (h_len (o_t rfl)) fun x6 =>
 Sim.op (h_cmp (I := (IT.int .i64)) rfl (o_t rfl) (o_t rfl)) fun x7 =>
 Sim.doneS <| Sim.cond (o_t rfl) (
 Sim.skip <| Sim.doneS <| Sim.seqI <| Sim.blkI <| Sim.seqI <| Sim.op1 (h_mv (o_t rfl)) <|
 Sim.op1 (h_mv (o_t rfl)) <|
 Sim.op (h_ias rfl (o_t rfl) (o_t rfl)) fun x8 =>
 Sim.opn (h_ld rfl rfl (o_t rfl)) fun x9 =>
 Sim.op1 (h_mv (o_t rfl)) <|
 Sim.op1 (h_mv (o_t rfl)) <|
 Sim.op (h_ias rfl (o_t rfl) (o_t rfl)) fun x10 =>
 Sim.opn (h_ld rfl rfl (o_t rfl)) fun x11 =>
 Sim.op (h_sneq (o_t rfl) (o_t rfl)) fun x12 =>
 Sim.doneS <| Sim.cond (o_t rfl) (
 Sim.seqI <| Sim.op1 (h_mv o_b) <|
 Sim.doneS <| Sim.outRet <| Sim.ret (.one (res_t rfl))) (
 Sim.skip <| Sim.doneB <| Sim.doneS <| Sim.op1 (h_mv (o_t rfl)) <|
 Sim.op (h_add (I := (IT.int .i64)) (o_t rfl) o_i) fun x13 =>
 Sim.op1 (h_mv (o_t rfl)) <|
 Sim.next x13 ⟨⟨⟨rfl, trivial⟩, ⟨⟨rfl, trivial⟩, ⟨⟨rfl, trivial⟩, trivial⟩⟩⟩, trivial⟩)) (
 Sim.exitS <| Sim.out () ⟨trivial, trivial⟩)) (fun p5 =>
 Sim.exitB <| Sim.doneS <| Sim.seqI <| Sim.op1 (h_mv o_b) <|
 Sim.doneS <| Sim.ret (.one (res_t rfl))))
theorem sp_r06_Same : Spec tb fn_r06_Same [(T.sl T.str), (T.sl T.str)] [T.b] (fun a => r06_Same a.1 a.2) :=
  Spec.of f_r06_Same rfl rfl rfl sim_r06_Same

noncomputable def strings_IndexByte (a0 : Str) (a1 : UInt8) : Option Int :=
 (internal_stringslite_IndexByte a0 a1).bind fun x1 =>
 some x1
noncomputable def sim_strings_IndexByte (a : Res [T.str, T.u8]) : Sim tb ⟨argsT [T.str, T.u8] 0 a, []⟩ c_strings_IndexByte.body [] (QRes [(T.int .i64)] c_strings_IndexByte.res) :=
 Sim.seqI <| Sim.op1 (h_mv o_i) <|
 Sim.doneS <| Sim.seqI <| Sim.op1 (h_mv (o_t rfl)) <|
 Sim.op1 (h_mv (o_t rfl)) <|
 Sim.op (h_call1 sp_internal_stringslite_IndexByte (.cons (o_t rfl) <| .one (o_t rfl))) fun x1 =>
 Sim.op1 (h_mv (o_t rfl)) <|
 Sim.doneS <| Sim.ret (.one (res_t rfl))
theorem sp_strings_IndexByte : Spec tb fn_strings_IndexByte [T.str, T.u8] [(T.int .i64)] (fun a => strings_IndexByte a.1 a.2) :=
  Spec.of f_strings_IndexByte rfl rfl rfl sim_strings_IndexByte

noncomputable def lines_Cut (a0 : Str) (a1 : UInt8) : Option (Str × Str × Bool) :=
 (strings_IndexByte a0 a1).bind fun x1 =>
 if (decide (x1 < 0)) = true then
 some (a0, [], false)
 else
 (subL a0 none (some x1)).bind fun x3 =>
 (subL a0 (some (IntKind.i64.wrap (x1 + 1))) none).bind fun x5 =>
 some (x3, x5, true)
noncomputable def sim_lines_Cut (a : Res [T.str, T.u8]) : Sim tb ⟨argsT [T.str, T.u8] 0 a, []⟩ c_lines_Cut.body [] (QRes [T.str, T.str, T.b] c_lines_Cut.res) :=
 Sim.seqI <| Sim.op1 (h_mv o_s) <|
 Sim.op1 (h_mv o_s) <|
 Sim.op1 (h_mv o_b) <|
 Sim.doneS <| Sim.seqI <| Sim.op1 (h_mv (o_t rfl)) <|
 Sim.op1 (h_mv (o_t rfl)) <|
 Sim.op (h_call1 sp_strings_IndexByte (.cons (o_t rfl) <| .one (o_t rfl))) fun x1 =>
 Sim.op1 (h_mv (o_t rfl)) <|
 Sim.doneS <| Sim.seqI <| Sim.seqI <| Sim.op1 (h_mv (o_t rfl)) <|
 Sim.op (h_cmp (I := (IT.int .i64)) rfl (o_t rfl) o_i) fun x2 =>
 Sim.doneS <| Sim.cond (o_t rfl) (
 Sim.seqI <| Sim.op1 (h_mv (o_t rfl)) <|
 Sim.op1 (h_mv (o_t rfl)) <|
 Sim.op1 (h_mv o_s) <|
 Sim.op1 (h_mv o_b) <|
 Sim.doneS <| Sim.ret (.cons (res_t rfl) <| .cons (res_t rfl) <| .one (res_t rfl))) (
 Sim.skip <| Sim.doneS <| Sim.seqI <| Sim.op1 (h_mv (o_t rfl)) <|
 Sim.op1 (h_mv (o_t rfl)) <|
 Sim.op (h_sls (o_t rfl) .none (.some (o_t rfl))) fun x3 =>
 Sim.op1 (h_mv (o_t rfl)) <|
 Sim.op1 (h_mv (o_t rfl)) <|
 Sim.op (h_add (I := (IT.int .i64)) (o_t rfl) o_i) fun x4 =>
 Sim.op (h_sls (o_t rfl) (.some (o_t rfl)) .none) fun x5 =>
 Sim.op1 (h_mv (o_t rfl)) <|
 Sim.op1 (h_mv (o_t rfl)) <|
 Sim.op1 (h_mv o_b) <|
 Sim.doneS <| Sim.ret (.cons (res_t rfl) <| .cons (res_t rfl) <| .one (res_t rfl)))
theorem sp_lines_Cut : Spec tb fn_lines_Cut [T.str, T.u8] [T.str, T.str, T.b] (fun a => lines_Cut a.1 a.2) :=
  Spec.of f_lines_Cut rfl rfl rfl sim_lines_Cut

noncomputable def lines_Parts (a0 : Str) (a1 : UInt8) : Option (GS Str) :=
 (iter (fun (s1 : (Str × (GS Str))) =>
 (lines_Cut s1.1 a1).bind fun x3 =>
 (apG 16 s1.2 [x3.1]).bind fun x8 =>
 if (!x3.2.2) = true then
 (some x8).map fun r => .inr (.inr r)
 else
 some (.inl (x3.2.1, x8))) (a0, .nil)).bind (Sum.elim (fun _ : Empty => none) some)
noncomputable def sim_lines_Parts (a : Res [T.str, T.u8]) : Sim tb ⟨argsT [T.str, T.u8] 0 a, []⟩ c_lines_Parts.body [] (QRes [(T.sl T.str)] c_lines_Parts.res) :=
 Sim.seqI <| Sim.op1 (h_mv (o_nils (t := T.str))) <| Sim.turn (born (n := 4) (j := 1004) rfl rfl) <|
 Sim.doneS <| Sim.seqI <| Sim.op1 (h_mv (o_nils (t := T.str))) <| Sim.turn (born (n := 5) (j := 1005) rfl rfl) <|
 Sim.doneS <| Sim.blkI <| Sim.loop (id := 0) (σ := (Str × (GS Str))) (τ := Empty) (fun s1 => ⟨[(0, .val T.str s1.1), (1, .val T.u8 a.2), (5, .own 1005)], [(1005, .row T.str s1.2)]⟩) (fun p => p.elim) (a.1, .nil) ⟨⟨⟨rfl, trivial⟩, ⟨⟨rfl, trivial⟩, ⟨⟨rfl, trivial⟩, trivial⟩⟩⟩, ⟨⟨rfl, trivial⟩, trivial⟩⟩ (fun _ => rfl) (fun s1 =>
 Sim.blkI <| Sim.seqI <| Sim.op1 (h_mv (o_t rfl)) <|
 Sim.op1 (h_mv (o_t rfl)) <|
 Sim.op (h_callN sp_lines_Cut (.cons (o_t rfl) <| .one (o_t rfl))) fun x3 =>
 Sim.op1 (h_mv (o_t rfl)) <|
 Sim.opn (h_ext (o_t rfl) rfl) fun x4 =>
 Sim.opn (h_ext (o_t rfl) rfl) fun x5 =>
 Sim.opn (h_ext (o_t rfl) rfl) fun x6 =>
 Sim.op1 (h_mv (o_t rfl)) <|
 Sim.op1 (h_mv (o_t rfl)) <|
 Sim.op1 (h_mv (o_t rfl)) <|
 Sim.doneS <| Sim.seqI <| Sim.op1 (h_mv (o_t rfl)) <|
 Sim.op1 (h_mv (o_t rfl)) <|
 Sim.op (h_bll (t := T.str) (n := 1) rfl rfl (.cons rfl (o_t rfl) <| .nil _)) fun x7 =>
 Sim.opM (M_app rfl (o_t rfl) rfl (n_sl (o_t rfl))) fun x8 =>
 Sim.op1 (h_mv (o_t rfl)) <|
 Sim.doneS <| Sim.seqI <| Sim.seqI <| Sim.op1 (h_mv (o_t rfl)) <|
 Sim.op (h_not (o_t rfl)) fun x9 =>
 Sim.doneS <| Sim.cond (o_t rfl) (
 Sim.seqI <| Sim.op1 (h_mv (o_t rfl)) <|
 Sim.op1 (h_mv (o_t rfl)) <|
 Sim.doneS <| Sim.outRet <| Sim.frzRow 1005 rfl rfl <| Sim.ret (.one (res_t rfl))) (
 Sim.skip <| Sim.doneS <| Sim.op1 (h_mv (o_t rfl)) <|
 Sim.op1 (h_mv (o_t rfl)) <|
 Sim.doneB <| Sim.next (x5, x8) ⟨⟨⟨rfl, trivial⟩, ⟨⟨rfl, trivial⟩, ⟨⟨rfl, trivial⟩, trivial⟩⟩⟩, ⟨⟨rfl, trivial⟩, trivial⟩⟩)) (fun _ => Sim.stop)
theorem sp_lines_Parts : Spec tb fn_lines_Parts [T.str, T.u8] [(T.sl T.str)] (fun a => lines_Parts a.1 a.2) :=
  Spec.of f_lines_Parts rfl rfl rfl sim_lines_Parts

noncomputable def l06_alive (_ : Unit) : Option Bool :=
 (lines_Split [97, 10, 10]).bind fun x1 =>
 (andO x1.2 ((r06_Same x1.1 (GS.mk [[97], []])).bind fun x5 =>
 some x5)).bind fun x6 =>
 (andO x6 ((lines_Loose [97, 10, 98]).bind fun x7 =>
 (r06_Same x7 (GS.mk [[97], [98]])).bind fun x9 =>
 some x9)).bind fun x10 =>
 (andO x10 ((lines_Parts [97, 44, 44, 98] (44 : UInt8)).bind fun x11 =>
 some (decide ((x11.l.length : Int) = 3)))).bind fun x14 =>
 some x14
noncomputable def sim_l06_alive (a : Res []) : Sim tb ⟨argsT [] 0 a, []⟩ c_l06_alive.body [] (QRes [T.b] c_l06_alive.res) :=
 Sim.seqI <| Sim.op1 (h_mv o_b) <|
 Sim.doneS <| Sim.seqI <| Sim.op (h_callN sp_lines_Split (.one o_s)) fun x1 =>
 Sim.op1 (h_mv (o_t rfl)) <|
 Sim.opn (h_ext (o_t rfl) rfl) fun x2 =>
 Sim.opn (h_ext (o_t rfl) rfl) fun x3 =>
 Sim.op1 (h_mv (o_t rfl)) <|
 Sim.op1 (h_mv (o_t rfl)) <|
 Sim.doneS <| Sim.seqI <| Sim.op1 (h_mv (o_t rfl)) <|
 Sim.op1 (h_mv (o_t rfl)) <|
 Sim.and 3 rfl rfl rfl (Grp.op1 (h_mv (o_t rfl)) <|
 Grp.op (h_bll (t := T.str) (n := 2) rfl rfl (.cons rfl o_s <| .cons rfl o_s <| .nil _)) fun x4 =>
 Grp.op (h_call1 sp_r06_Same (.cons (o_t rfl) <| .one (o_t rfl))) fun x5 =>
 Grp.nil (o_t rfl)) fun x6 =>
 Sim.op1 (h_mv (o_t rfl)) <|
 Sim.and 3 rfl rfl rfl (Grp.op (h_call1 sp_lines_Loose (.one o_s)) fun x7 =>
 Grp.op (h_bll (t := T.str) (n := 2) rfl rfl (.cons rfl o_s <| .cons rfl o_s <| .nil _)) fun x8 =>
 Grp.op (h_call1 sp_r06_Same (.cons (o_t rfl) <| .one (o_t rfl))) fun x9 =>
 Grp.nil (o_t rfl)) fun x10 =>
 Sim.op1 (h_mv (o_t rfl)) <|
 Sim.and 3 rfl rfl rfl (Grp.op (h_call1 sp_lines_Parts (.cons o_s <| .one (o_u8 44 rfl))) fun x11 =>
 Grp.op (h_len (o_t rfl)) fun x12 =>
 Grp.op (h_cmp (I := (IT.int .i64)) rfl (o_t rfl) o_i) fun x13 =>
 Grp.nil (o_t rfl)) fun x14 =>
 Sim.op1 (h_mv (o_t rfl)) <|
 Sim.doneS <| Sim.ret (.one (res_t rfl))
theorem sp_l06_alive : Spec tb fn_l06_alive [] [T.b] (fun a => l06_alive ()) :=
  Spec.of f_l06_alive rfl rfl rfl sim_l06_alive

noncomputable def r06_Parts (a0 : Str) (a1 : UInt8) : Option (GS Str) :=
 (iter (fun (s1 : (Int × Int × (GS Str))) =>
 if (decide (s1.2.1 < (a0.length : Int))) = true then
 (idx a0 s1.2.1).bind fun x5 =>
 if (decide ((x5.toNat : Int) = (a1.toNat : Int))) = true then
 (subL a0 (some s1.1) (some s1.2.1)).bind fun x7 =>
 (apG 16 s1.2.2 [x7]).bind fun x9 =>
 some (.inl (IntKind.i64.wrap (s1.2.1 + 1), IntKind.i64.wrap (s1.2.1 + 1), x9))
 else
 some (.inl (s1.1, IntKind.i64.wrap (s1.2.1 + 1), s1.2.2))
 else
 some (.inr (.inl (s1.1, s1.2.2)))) (0, 0, .nil)).bind (Sum.elim (fun (p2 : (Int × (GS Str))) =>
 (subL a0 (some p2.1) none).bind fun x13 =>
 (apG 16 p2.2 [x13]).bind fun x15 =>
 some x15) some)
noncomputable def sim_r06_Parts (a : Res [T.str, T.u8]) : Sim tb ⟨argsT [T.str, T.u8] 0 a, []⟩ c_r06_Parts.body [] (QRes [(T.sl T.str)] c_r06_Parts.res) :=
 Sim.seqI <| Sim.op1 (h_mv (o_nils (t := T.str))) <| Sim.turn (born (n := 4) (j := 1004) rfl rfl) <|
 Sim.doneS <| Sim.seqI <| Sim.op1 (h_mv o_i) <|
 Sim.doneS <| Sim.seqI <| Sim.op1 (h_mv (o_nils (t := T.str))) <| Sim.turn (born (n := 6) (j := 1006) rfl rfl) <|
 Sim.doneS <| Sim.seqI <| Sim.seqI <| Sim.op1 (h_mv o_i) <|
 Sim.doneS <| Sim.blkI <| Sim.loop (id := 0) (σ := (Int × Int × (GS Str))) (τ := (Int × (GS Str))) (fun s1 => ⟨[(0, .val T.str a.1), (1, .val T.u8 a.2), (5, .val (T.int .i64) s1.1), (6, .own 1006), (7, .val (T.int .i64) s1.2.1)], [(1006, .row T.str s1.2.2)]⟩) (fun p2 => ⟨[(0, .val T.str a.1), (5, .val (T.int .i64) p2.1), (6, .own 1006)], [(1006, .row T.str p2.2)]⟩) (0, 0, .nil) ⟨⟨⟨rfl, trivial⟩, ⟨⟨rfl, trivial⟩, ⟨⟨rfl, trivial⟩, ⟨⟨rfl, trivial⟩, ⟨⟨rfl, trivial⟩, trivial⟩⟩⟩⟩⟩, ⟨⟨rfl, trivial⟩, trivial⟩⟩ (fun _ => rfl) (fun s1 =>
 Sim.seqI <| Sim.seqI <| Sim.op1 (h_mv (o_t rfl)) <|
 Sim.op1 (h_mv (o_t rfl)) <|
 Sim.op (h_lens (o_t rfl)) fun x3 =>
 Sim.op (h_cmp (I := (IT.int .i64)) rfl (o_t rfl) (o_t rfl)) fun x4 =>
 Sim.doneS <| Sim.cond (o_t rfl) (
 Sim.skip <| Sim.doneS <| Sim.seqI <| Sim.blkI <| Sim.seqI <| Sim.op1 (h_mv (o_t rfl)) <|
 Sim.op1 (h_mv (o_t rfl)) <|
 Sim.op (h_ixs (o_t rfl) (o_t rfl)) fun x5 =>
 Sim.op1 (h_mv (o_t rfl)) <|
 Sim.op (h_cmp (I := IT.u8) rfl (o_t rfl) (o_t rfl)) fun x6 =>
 Sim.doneS <| Sim.cond (o_t rfl) (
 Sim.seqI <| Sim.op1 (h_mv (o_t rfl)) <|
 Sim.op1 (h_mv (o_t rfl)) <|
 Sim.op1 (h_mv (o_t rfl)) <|
 Sim.op1 (h_mv (o_t rfl)) <|
 Sim.op (h_sls (o_t rfl) (.some (o_t rfl)) (.some (o_t rfl))) fun x7 =>
 Sim.op (h_bll (t := T.str) (n := 1) rfl rfl (.cons rfl (o_t rfl) <| .nil _)) fun x8 =>
 Sim.opM (M_app rfl (o_t rfl) rfl (n_sl (o_t rfl))) fun x9 =>
 Sim.op1 (h_mv (o_t rfl)) <|
 Sim.doneS <| Sim.op1 (h_mv (o_t rfl)) <|
 Sim.op (h_add (I := (IT.int .i64)) (o_t rfl) o_i) fun x10 =>
 Sim.op1 (h_mv (o_t rfl)) <|
 Sim.doneB <| Sim.doneS <| Sim.op1 (h_mv (o_t rfl)) <|
 Sim.op (h_add (I := (IT.int .i64)) (o_t rfl) o_i) fun x11 =>
 Sim.op1 (h_mv (o_t rfl)) <|
 Sim.next (x10, x11, x9) ⟨⟨⟨rfl, trivial⟩, ⟨⟨rfl, trivial⟩, ⟨⟨rfl, trivial⟩, ⟨⟨rfl, trivial⟩, ⟨⟨rfl, trivial⟩, trivial⟩⟩⟩⟩⟩, ⟨⟨rfl, trivial⟩, trivial⟩⟩) (
 Sim.skip <| Sim.doneB <| Sim.doneS <| Sim.op1 (h_mv (o_t rfl)) <|
 Sim.op (h_add (I := (IT.int .i64)) (o_t rfl) o_i) fun x12 =>
 Sim.op1 (h_mv (o_t rfl)) <|
 Sim.next (s1.1, x12, s1.2.2) ⟨⟨⟨rfl, trivial⟩, ⟨⟨rfl, trivial⟩, ⟨⟨rfl, trivial⟩, ⟨⟨rfl, trivial⟩, ⟨⟨rfl, trivial⟩, trivial⟩⟩⟩⟩⟩, ⟨⟨rfl, trivial⟩, trivial⟩⟩)) (
 Sim.exitS <| Sim.out (s1.1, s1.2.2) ⟨⟨⟨rfl, trivial⟩, ⟨⟨rfl, trivial⟩, ⟨⟨rfl, trivial⟩, trivial⟩⟩⟩, ⟨⟨rfl, trivial⟩, trivial⟩⟩)) (fun p2 =>
 Sim.exitB <| Sim.doneS <| Sim.seqI <| Sim.op1 (h_mv (o_t rfl)) <|
 Sim.op1 (h_mv (o_t rfl)) <|
 Sim.op1 (h_mv (o_t rfl)) <|
 Sim.op (h_sls (o_t rfl) (.some (o_t rfl)) .none) fun x13 =>
 Sim.op (h_bll (t := T.str) (n := 1) rfl rfl (.cons rfl (o_t rfl) <| .nil _)) fun x14 =>
 Sim.opM (M_app rfl (o_t rfl) rfl (n_sl (o_t rfl))) fun x15 =>
 Sim.op1 (h_mv (o_t rfl)) <|
 Sim.doneS <| Sim.frzRow 1006 rfl rfl <| Sim.ret (.one (res_t rfl)))
theorem sp_r06_Parts : Spec tb fn_r06_Parts [T.str, T.u8] [(T.sl T.str)] (fun a => r06_Parts a.1 a.2) :=
  Spec.of f_r06_Parts rfl rfl rfl sim_r06_Parts

noncomputable def r06_Loose (a0 : Str) : Option (GS Str) :=
 (r06_Parts a0 (10 : UInt8)).bind fun x1 =>
 (idx x1.l (IntKind.i64.wrap ((x1.l.length : Int) - 1))).bind fun x4 =>
 if (decide (x4 = [])) = true then
 (slG x1 none (some (IntKind.i64.wrap ((x1.l.length : Int) - 1)))).bind fun x9 =>
 some x9
 else
 some x1
noncomputable def sim_r06_Loose (a : Res [T.str]) : Sim tb ⟨argsT [T.str] 0 a, []⟩ c_r06_Loose.body [] (QRes [(T.sl T.str)] c_r06_Loose.res) :=
 Sim.seqI <| Sim.op1 (h_mv (o_nils (t := T.str))) <|
 Sim.doneS <| Sim.seqI <| Sim.op1 (h_mv (o_t rfl)) <|
 Sim.op (h_call1 sp_r06_Parts (.cons (o_t rfl) <| .one (o_u8 10 rfl))) fun x1 =>
 Sim.op1 (h_mv (o_t rfl)) <|
 Sim.doneS <| Sim.seqI <| Sim.seqI <| Sim.op1 (h_mv (o_t rfl)) <|
 Sim.op1 (h_mv (o_t rfl)) <|
 Sim.op (h_len (o_t rfl)) fun x2 =>
 Sim.op (h_sub (I := (IT.int .i64)) (o_t rfl) o_i) fun x3 =>
 Sim.op (h_ias rfl (o_t rfl) (o_t rfl)) fun x4 =>
 Sim.opn (h_ld rfl rfl (o_t rfl)) fun x5 =>
 Sim.op (h_seql (o_t rfl) o_s) fun x6 =>
 Sim.doneS <| Sim.cond (o_t rfl) (
 Sim.seqI <| Sim.op1 (h_mv (o_t rfl)) <|
 Sim.op1 (h_mv (o_t rfl)) <|
 Sim.op (h_len (o_t rfl)) fun x7 =>
 Sim.op (h_sub (I := (IT.int .i64)) (o_t rfl) o_i) fun x8 =>
 Sim.op (h_sll rfl (o_t rfl) .none (.some (o_t rfl))) fun x9 =>
 Sim.op1 (h_mv (o_t rfl)) <|
 Sim.doneS <| Sim.ret (.one (res_t rfl))) (
 Sim.skip <| Sim.doneS <| Sim.seqI <| Sim.op1 (h_mv (o_t rfl)) <|
 Sim.op1 (h_mv (o_t rfl)) <|
 Sim.doneS <| Sim.ret (.one (res_t rfl)))
theorem sp_r06_Loose : Spec tb fn_r06_Loose [T.str] [(T.sl T.str)] (fun a => r06_Loose a) :=
  Spec.of f_r06_Loose rfl rfl rfl sim_r06_Loose

noncomputable def lines_Join (a0 : (GS Str)) : Option Str :=
 (iter (fun (s3 : (Int × Str)) =>
 if (decide (s3.1 < (a0.l.length : Int))) = true then
 (idx a0.l s3.1).bind fun x6 =>
 (bldG s3.2 x6).bind fun x8 =>
 (bldG x8 [10]).bind fun x9 =>
 some (.inl (IntKind.i64.wrap (s3.1 + 1), x9))
 else
 some (.inr (.inl s3.2))) (0, [])).bind (Sum.elim (fun (p4 : Str) =>
 (bldT false p4).bind fun x11 =>
 some x11) some)
noncomputable def sim_lines_Join (a : Res [(T.sl T.str)]) : Sim tb ⟨argsT [(T.sl T.str)] 0 a, []⟩ c_lines_Join.body [] (QRes [T.str] c_lines_Join.res) :=
 Sim.seqI <| Sim.op1 (h_mv o_s) <|
 Sim.doneS <| Sim.seqI <| Sim.opM (M_bldA 3 5 rfl rfl) fun x1 =>
 Sim.doneS <| Sim.seqI <| Sim.seqI <| Sim.op1 (h_mv (o_t rfl)) <|
 Sim.op (h_len (o_t rfl)) fun x2 =>
 Sim.op1 (h_mv o_i) <|
 Sim.doneS <| Sim.blkI <| Sim.loop (id := 0) (σ := (Int × Str)) (τ := Str) (fun s3 => ⟨[(3, .own 3), (6, .val (T.sl T.str) a), (7, .val (T.int .i64) x2), (8, .val (T.int .i64) s3.1)], [(3, .dom (DBld 65 5 false) s3.2)]⟩) (fun p4 => ⟨[(3, .own 3)], [(3, .dom (DBld 65 5 false) p4)]⟩) (0, x1) ⟨⟨⟨rfl, trivial⟩, ⟨⟨rfl, trivial⟩, ⟨⟨rfl, trivial⟩, ⟨⟨rfl, trivial⟩, trivial⟩⟩⟩⟩, ⟨⟨rfl, trivial⟩, trivial⟩⟩ (fun _ => rfl) (fun s3 =>
 Sim.seqI <| Sim.op (h_cmp (I := (IT.int .i64)) rfl (o_t rfl) (o_t rfl)) fun x5 =>
 Sim.doneS <| Sim.seqI <| Sim.cond (o_t rfl) (
 Sim.skip <| Sim.doneS <| Sim.seqI <| Sim.blkI <| Sim.seqI <| Sim.op (h_ias rfl (o_t rfl) (o_t rfl)) fun x6 =>
 Sim.opn (h_ld rfl rfl (o_t rfl)) fun x7 =>
 Sim.op1 (h_mv (o_t rfl)) <|
 Sim.doneS <| Sim.seqI <| Sim.op1 (h_mv (o_t rfl)) <|
 Sim.opM (M_bldW f_p_strings_Builder_copyCheck rfl f_p_strings_Builder_WriteString (o_t rfl) rfl (o_t rfl)) fun x8 =>
 Sim.doneS <| Sim.opM (M_bldW f_p_strings_Builder_copyCheck rfl f_p_strings_Builder_WriteString (o_t rfl) rfl o_s) fun x9 =>
 Sim.doneB <| Sim.doneS <| Sim.op (h_add (I := (IT.int .i64)) (o_t rfl) o_i) fun x10 =>
 Sim.op1 (h_mv (o_t rfl)) <|
 Sim.next (x10, x9) ⟨⟨⟨rfl, trivial⟩, ⟨⟨rfl, trivial⟩, ⟨⟨rfl, trivial⟩, ⟨⟨rfl, trivial⟩, trivial⟩⟩⟩⟩, ⟨⟨rfl, trivial⟩, trivial⟩⟩) (
 Sim.exitS <| Sim.out s3.2 ⟨⟨⟨rfl, trivial⟩, trivial⟩, ⟨⟨rfl, trivial⟩, trivial⟩⟩)) (fun p4 =>
 Sim.exitB <| Sim.doneS <| Sim.seqI <| Sim.opM (M_bldS f_p_strings_Builder_String (o_t rfl) rfl) fun x11 =>
 Sim.op1 (h_mv (o_t rfl)) <|
 Sim.doneS <| Sim.ret (.one (res_t rfl)))
theorem sp_lines_Join : Spec tb fn_lines_Join [(T.sl T.str)] [T.str] (fun a => lines_Join a) :=
  Spec.of f_lines_Join rfl rfl rfl sim_lines_Join

noncomputable def l06_LinesSplit (a0 : Str) : Option Bool :=
 if (decide (300 < (a0.length : Int))) = true then
 (l06_alive ()).bind fun x3 =>
 some x3
 else
 (r06_Loose a0).bind fun x4 =>
 (lines_Split a0).bind fun x5 =>
 (lines_Loose a0).bind fun x8 =>
 (r06_Same x8 x4).bind fun x9 =>
 if (!x9) = true then
 some false
 else
 (andO (decide (0 < (a0.length : Int))) ((idx a0 (IntKind.i64.wrap ((a0.length : Int) - 1))).bind fun x15 =>
 let x16 := !decide ((x15.toNat : Int) = ((10 : UInt8).toNat : Int))
 some x16)).bind fun x17 =>
 if x17 = true then
 (andO (decide ((x5.1.l.length : Int) = 0)) (some (!x5.2))).bind fun x21 =>
 (andO x21 ((l06_alive ()).bind fun x22 =>
 some x22)).bind fun x23 =>
 some x23
 else
 (andO x5.2 ((r06_Same x5.1 x4).bind fun x24 =>
 some x24)).bind fun x25 =>
 (andO x25 ((lines_Join x5.1).bind fun x26 =>
 some (decide (x26 = a0)))).bind fun x28 =>
 (andO x28 ((l06_alive ()).bind fun x29 =>
 some x29)).bind fun x30 =>
 some x30
noncomputable def sim_l06_LinesSplit (a : Res [T.str]) : Sim tb ⟨argsT [T.str] 0 a, []⟩ c_l06_LinesSplit.body [] (QRes [T.b] c_l06_LinesSplit.res) :=
 Sim.seqI <| Sim.op1 (h_mv o_b) <|
 Sim.doneS <| Sim.seqI <| Sim.seqI <| Sim.op1 (h_mv (o_t rfl)) <|
 Sim.op (h_lens (o_t rfl)) fun x1 =>
 Sim.op (h_cmp (I := (IT.int .i64)) rfl (o_t rfl) o_i) fun x2 =>
 Sim.doneS <| Sim.cond (o_t rfl) (
 Sim.seqI <| Sim.op (h_call1 sp_l06_alive (.nil)) fun x3 =>
 Sim.op1 (h_mv (o_t rfl)) <|
 Sim.doneS <| Sim.ret (.one (res_t rfl))) (
 Sim.skip <| Sim.doneS <| Sim.seqI <| Sim.op1 (h_mv (o_t rfl)) <|
 Sim.op (h_call1 sp_r06_Loose (.one (o_t rfl))) fun x4 =>
 Sim.op1 (h_mv (o_t rfl)) <|
 Sim.doneS <| Sim.seqI <| Sim.op1 (h_mv (o_t rfl)) <|
 Sim.op (h_callN sp_lines_Split (.one (o_t rfl))) fun x5 =>
 Sim.op1 (h_mv (o_t rfl)) <|
 Sim.opn (h_ext (o_t rfl) rfl) fun x6 =>
 Sim.opn (h_ext (o_t rfl) rfl) fun x7 =>
 Sim.op1 (h_mv (o_t rfl)) <|
 Sim.op1 (h_mv (o_t rfl)) <|
 Sim.doneS <| Sim.seqI <| Sim.seqI <| Sim.op1 (h_mv (o_t rfl)) <|
 Sim.op (h_call1 sp_lines_Loose (.one (o_t rfl))) fun x8 =>
 Sim.op1 (h_mv (o_t rfl)) <|
 Sim.op (h_call1 sp_r06_Same (.cons (o_t rfl) <| .one (o_t rfl))) fun x9 =>
 Sim.op (h_not (o_t rfl)) fun x10 =>
 Sim.doneS <| Sim.cond (o_t rfl) (
 Sim.seqI <| Sim.op1 (h_mv o_b) <|
 Sim.doneS <| Sim.ret (.one (res_t rfl))) (
 Sim.skip <| Sim.doneS <| Sim.seqI <| Sim.seqI <| Sim.op1 (h_mv (o_t rfl)) <|
 Sim.op (h_lens (o_t rfl)) fun x11 =>
 Sim.op (h_cmp (I := (IT.int .i64)) rfl (o_t rfl) o_i) fun x12 =>
 Sim.op1 (h_mv (o_t rfl)) <|
 Sim.and 6 rfl rfl rfl (Grp.op1 (h_mv (o_t rfl)) <|
 Grp.op1 (h_mv (o_t rfl)) <|
 Grp.op (h_lens (o_t rfl)) fun x13 =>
 Grp.op (h_sub (I := (IT.int .i64)) (o_t rfl) o_i) fun x14 =>
 Grp.op (h_ixs (o_t rfl) (o_t rfl)) fun x15 =>
 Grp.op (h_cmp (I := IT.u8) rfl (o_t rfl) (o_u8 10 rfl)) fun x16 =>
 Grp.nil (o_t rfl)) fun x17 =>
 Sim.doneS <| Sim.cond (o_t rfl) (
 Sim.seqI <| Sim.op1 (h_mv (o_t rfl)) <|
 Sim.op (h_len (o_t rfl)) fun x18 =>
 Sim.op (h_cmp (I := (IT.int .i64)) rfl (o_t rfl) o_i) fun x19 =>
 Sim.op1 (h_mv (o_t rfl)) <|
 Sim.and 2 rfl rfl rfl (Grp.op1 (h_mv (o_t rfl)) <|
 Grp.op (h_not (o_t rfl)) fun x20 =>
 Grp.nil (o_t rfl)) fun x21 =>
 Sim.op1 (h_mv (o_t rfl)) <|
 Sim.and 1 rfl rfl rfl (Grp.op (h_call1 sp_l06_alive (.nil)) fun x22 =>
 Grp.nil (o_t rfl)) fun x23 =>
 Sim.op1 (h_mv (o_t rfl)) <|
 Sim.doneS <| Sim.ret (.one (res_t rfl))) (
 Sim.skip <| Sim.doneS <| Sim.seqI <| Sim.op1 (h_mv (o_t rfl)) <|
 Sim.op1 (h_mv (o_t rfl)) <|
 Sim.and 3 rfl rfl rfl (Grp.op1 (h_mv (o_t rfl)) <|
 Grp.op1 (h_mv (o_t rfl)) <|
 Grp.op (h_call1 sp_r06_Same (.cons (o_t rfl) <| .one (o_t rfl))) fun x24 =>
 Grp.nil (o_t rfl)) fun x25 =>
 Sim.op1 (h_mv (o_t rfl)) <|
 Sim.and 4 rfl rfl rfl (Grp.op1 (h_mv (o_t rfl)) <|
 Grp.op (h_call1 sp_lines_Join (.one (o_t rfl))) fun x26 =>
 Grp.op1 (h_mv (o_t rfl)) <|
 Grp.op (h_seql (o_t rfl) (o_t rfl)) fun x27 =>
 Grp.nil (o_t rfl)) fun x28 =>
 Sim.op1 (h_mv (o_t rfl)) <|
 Sim.and 1 rfl rfl rfl (Grp.op (h_call1 sp_l06_alive (.nil)) fun x29 =>
 Grp.nil (o_t rfl)) fun x30 =>
 Sim.op1 (h_mv (o_t rfl)) <|
 Sim.doneS <| Sim.ret (.one (res_t rfl)))))
theorem sp_l06_LinesSplit : Spec tb fn_l06_LinesSplit [T.str] [T.b] (fun a => l06_LinesSplit a) :=
  Spec.of f_l06_LinesSplit rfl rfl rfl sim_l06_LinesSplit

end Go.Proofs.YtopgecohakediaaDoor.Am
