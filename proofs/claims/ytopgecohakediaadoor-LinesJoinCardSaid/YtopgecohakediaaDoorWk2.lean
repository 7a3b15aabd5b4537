/-
  What functions compute, and that they do. Printed by mkwalk.py.
-/
import Derived.Test.YtopgecohakediaaDoorWk1
set_option linter.unusedVariables false
set_option maxRecDepth 100000
namespace Go.Proofs.YtopgecohakediaaDoor.Am

noncomputable def r06_Large (a0 : (GS Str)) (a1 : Int) (a2 : Int) : Option Bool :=
 if (decide (a1 < (a0.l.length : Int))) = true then
 some true
 else
 (iter (fun (s3 : Int) =>
 if (decide (s3 < (a0.l.length : Int))) = true then
 (idx a0.l s3).bind fun x7 =>
 if (decide (a2 < (x7.length : Int))) = true then
 (some true).map fun r => .inr (.inr r)
 else
 some (.inl (IntKind.i64.wrap (s3 + 1)))
 else
 some (.inr (.inl ()))) 0).bind (Sum.elim (fun (p4 : Unit) =>
 some false) some)
noncomputable def sim_r06_Large (a : Res [(T.sl T.str), (T.int .i64), (T.int .i64)]) : Sim tb ⟨argsT [(T.sl T.str), (T.int .i64), (T.int .i64)] 0 a, []⟩ c_r06_Large.body [] (QRes [T.b] c_r06_Large.res) :=
 Sim.seqI <| Sim.op1 (h_mv o_b) <|
 Sim.doneS <| Sim.seqI <| Sim.seqI <| Sim.op1 (h_mv (o_t rfl)) <|
 Sim.op (h_len (o_t rfl)) fun x1 =>
 Sim.op1 (h_mv (o_t rfl)) <|
 Sim.op (h_cmp (I := (IT.int .i64)) rfl (o_t rfl) (o_t rfl)) fun x2 =>
 Sim.doneS <| Sim.cond (o_t rfl) (
 Sim.seqI <| Sim.op1 (h_mv o_b) <|
 Sim.doneS <| Sim.ret (.one (res_t rfl))) (
 Sim.skip <| Sim.doneS <| Sim.seqI <| Sim.seqI <| Sim.op1 (h_mv o_i) <|
 Sim.doneS <| Sim.blkI <| Sim.loop (id := 0) (σ := Int) (τ := Unit) (fun s3 => ⟨[(0, .val (T.sl T.str) a.1), (2, .val (T.int .i64) a.2.2), (7, .val (T.int .i64) s3)], []⟩) (fun p4 => ⟨[], []⟩) 0 ⟨⟨⟨rfl, trivial⟩, ⟨⟨rfl, trivial⟩, ⟨⟨rfl, trivial⟩, trivial⟩⟩⟩, trivial⟩ (fun _ => rfl) (fun s3 =>
 Sim.seqI <| Sim.seqI <| Sim.op1 (h_mv (o_t rfl)) <|
 Sim.op1 (h_mv (o_t rfl)) <|
 Sim.op (h_len (o_t rfl)) fun x5 =>
 Sim.op (h_cmp (I := (IT.int .i64)) rfl (o_t rfl) (o_t rfl)) fun x6 =>
 Sim.doneS <| Sim.cond (o_t rfl) (
 Sim.skip <| Sim.doneS <| Sim.seqI <| Sim.blkI <| Sim.seqI <| Sim.op1 (h_mv (o_t rfl)) <|
 Sim.op1 (h_mv (o_t rfl)) <|
 Sim.op (h_ias rfl (o_t rfl) (o_t rfl)) fun x7 =>
 Sim.opn (h_ld rfl rfl (o_t rfl)) fun x8 =>
 Sim.op (h_lens (o_t rfl)) fun x9 =>
 Sim.op1 (h_mv (o_t rfl)) <|
 Sim.op (h_cmp (I := (IT.int .i64)) rfl (o_t rfl) (o_t rfl)) fun x10 =>
 Sim.doneS <| Sim.cond (o_t rfl) (
 Sim.seqI <| Sim.op1 (h_mv o_b) <|
 Sim.doneS <| Sim.outRet <| Sim.ret (.one (res_t rfl))) (
 Sim.skip <| Sim.doneB <| Sim.doneS <| Sim.op1 (h_mv (o_t rfl)) <|
 Sim.op (h_add (I := (IT.int .i64)) (o_t rfl) o_i) fun x11 =>
 Sim.op1 (h_mv (o_t rfl)) <|
 Sim.next x11 ⟨⟨⟨rfl, trivial⟩, ⟨⟨rfl, trivial⟩, ⟨⟨rfl, trivial⟩, trivial⟩⟩⟩, trivial⟩)) (
 Sim.exitS <| Sim.out () ⟨trivial, trivial⟩)) (fun p4 =>
 Sim.exitB <| Sim.doneS <| Sim.seqI <| Sim.op1 (h_mv o_b) <|
 Sim.doneS <| Sim.ret (.one (res_t rfl))))
theorem sp_r06_Large : Spec tb fn_r06_Large [(T.sl T.str), (T.int .i64), (T.int .i64)] [T.b] (fun a => r06_Large a.1 a.2.1 a.2.2) :=
  Spec.of f_r06_Large rfl rfl rfl sim_r06_Large

noncomputable def r06_Join (a0 : (GS Str)) : Option Str :=
 (iter (fun (s1 : (Str × Int)) =>
 if (decide (s1.2 < (a0.l.length : Int))) = true then
 (idx a0.l s1.2).bind fun x5 =>
 (if s1.1.length + x5.length ≤ 2 * most then some (s1.1 ++ x5) else none).bind fun x7 =>
 (if x7.length + [10].length ≤ 2 * most then some (x7 ++ [10]) else none).bind fun x8 =>
 some (.inl (x8, IntKind.i64.wrap (s1.2 + 1)))
 else
 some (.inr (.inl s1.1))) ([], 0)).bind (Sum.elim (fun (p2 : Str) =>
 some p2) some)
noncomputable def sim_r06_Join (a : Res [(T.sl T.str)]) : Sim tb ⟨argsT [(T.sl T.str)] 0 a, []⟩ c_r06_Join.body [] (QRes [T.str] c_r06_Join.res) :=
 Sim.seqI <| Sim.op1 (h_mv o_s) <|
 Sim.doneS <| Sim.seqI <| Sim.op1 (h_mv o_s) <|
 Sim.doneS <| Sim.seqI <| Sim.seqI <| Sim.op1 (h_mv o_i) <|
 Sim.doneS <| Sim.blkI <| Sim.loop (id := 0) (σ := (Str × Int)) (τ := Str) (fun s1 => ⟨[(0, .val (T.sl T.str) a), (3, .val T.str s1.1), (4, .val (T.int .i64) s1.2)], []⟩) (fun p2 => ⟨[(3, .val T.str p2)], []⟩) ([], 0) ⟨⟨⟨rfl, trivial⟩, ⟨⟨rfl, trivial⟩, ⟨⟨rfl, trivial⟩, trivial⟩⟩⟩, trivial⟩ (fun _ => rfl) (fun s1 =>
 Sim.seqI <| Sim.seqI <| Sim.op1 (h_mv (o_t rfl)) <|
 Sim.op1 (h_mv (o_t rfl)) <|
 Sim.op (h_len (o_t rfl)) fun x3 =>
 Sim.op (h_cmp (I := (IT.int .i64)) rfl (o_t rfl) (o_t rfl)) fun x4 =>
 Sim.doneS <| Sim.cond (o_t rfl) (
 Sim.skip <| Sim.doneS <| Sim.seqI <| Sim.blkI <| Sim.op1 (h_mv (o_t rfl)) <|
 Sim.op1 (h_mv (o_t rfl)) <|
 Sim.op1 (h_mv (o_t rfl)) <|
 Sim.op (h_ias rfl (o_t rfl) (o_t rfl)) fun x5 =>
 Sim.opn (h_ld rfl rfl (o_t rfl)) fun x6 =>
 Sim.op (h_sadd (o_t rfl) (o_t rfl)) fun x7 =>
 Sim.op (h_sadd (o_t rfl) o_s) fun x8 =>
 Sim.op1 (h_mv (o_t rfl)) <|
 Sim.doneB <| Sim.doneS <| Sim.op1 (h_mv (o_t rfl)) <|
 Sim.op (h_add (I := (IT.int .i64)) (o_t rfl) o_i) fun x9 =>
 Sim.op1 (h_mv (o_t rfl)) <|
 Sim.next (x8, x9) ⟨⟨⟨rfl, trivial⟩, ⟨⟨rfl, trivial⟩, ⟨⟨rfl, trivial⟩, trivial⟩⟩⟩, trivial⟩) (
 Sim.exitS <| Sim.out s1.1 ⟨⟨⟨rfl, trivial⟩, trivial⟩, trivial⟩)) (fun p2 =>
 Sim.exitB <| Sim.doneS <| Sim.seqI <| Sim.op1 (h_mv (o_t rfl)) <|
 Sim.op1 (h_mv (o_t rfl)) <|
 Sim.doneS <| Sim.ret (.one (res_t rfl)))
theorem sp_r06_Join : Spec tb fn_r06_Join [(T.sl T.str)] [T.str] (fun a => r06_Join a) :=
  Spec.of f_r06_Join rfl rfl rfl sim_r06_Join

noncomputable def l06_LinesJoin (a0 : (GS Str)) : Option Bool :=
 (r06_Large a0 20 60).bind fun x1 =>
 if x1 = true then
 (l06_alive ()).bind fun x2 =>
 some x2
 else
 (lines_Join a0).bind fun x3 =>
 (r06_Join a0).bind fun x4 =>
 if (!decide (x3 = x4)) = true then
 some false
 else
 (iter (fun (s6 : Int) =>
 if (decide (s6 < (a0.l.length : Int))) = true then
 (idx a0.l s6).bind fun x10 =>
 (r06_Parts x10 (10 : UInt8)).bind fun x12 =>
 if (decide (1 < (x12.l.length : Int))) = true then
 (l06_alive ()).bind fun x15 =>
 (some x15).map fun r => .inr (.inr r)
 else
 some (.inl (IntKind.i64.wrap (s6 + 1)))
 else
 some (.inr (.inl ()))) 0).bind (Sum.elim (fun (p7 : Unit) =>
 (lines_Split x3).bind fun x17 =>
 (andO x17.2 ((r06_Same x17.1 a0).bind fun x20 =>
 some x20)).bind fun x21 =>
 (andO x21 ((l06_alive ()).bind fun x22 =>
 some x22)).bind fun x23 =>
 some x23) some)
noncomputable def sim_l06_LinesJoin (a : Res [(T.sl T.str)]) : Sim tb ⟨argsT [(T.sl T.str)] 0 a, []⟩ c_l06_LinesJoin.body [] (QRes [T.b] c_l06_LinesJoin.res) :=
 Sim.seqI <| Sim.op1 (h_mv o_b) <|
 Sim.doneS <| Sim.seqI <| Sim.seqI <| Sim.op1 (h_mv (o_t rfl)) <|
 Sim.op (h_call1 sp_r06_Large (.cons (o_t rfl) <| .cons o_i <| .one o_i)) fun x1 =>
 Sim.doneS <| Sim.cond (o_t rfl) (
 Sim.seqI <| Sim.op (h_call1 sp_l06_alive (.nil)) fun x2 =>
 Sim.op1 (h_mv (o_t rfl)) <|
 Sim.doneS <| Sim.ret (.one (res_t rfl))) (
 Sim.skip <| Sim.doneS <| Sim.seqI <| Sim.op1 (h_mv (o_t rfl)) <|
 Sim.op (h_call1 sp_lines_Join (.one (o_t rfl))) fun x3 =>
 Sim.op1 (h_mv (o_t rfl)) <|
 Sim.doneS <| Sim.seqI <| Sim.seqI <| Sim.op1 (h_mv (o_t rfl)) <|
 Sim.op1 (h_mv (o_t rfl)) <|
 Sim.op (h_call1 sp_r06_Join (.one (o_t rfl))) fun x4 =>
 Sim.op (h_sneq (o_t rfl) (o_t rfl)) fun x5 =>
 Sim.doneS <| Sim.cond (o_t rfl) (
 Sim.seqI <| Sim.op1 (h_mv o_b) <|
 Sim.doneS <| Sim.ret (.one (res_t rfl))) (
 Sim.skip <| Sim.doneS <| Sim.seqI <| Sim.seqI <| Sim.op1 (h_mv o_i) <|
 Sim.doneS <| Sim.blkI <| Sim.loop (id := 0) (σ := Int) (τ := Unit) (fun s6 => ⟨[(0, .val (T.sl T.str) a), (3, .val T.str x3), (4, .val (T.int .i64) s6)], []⟩) (fun p7 => ⟨[(0, .val (T.sl T.str) a), (3, .val T.str x3)], []⟩) 0 ⟨⟨⟨rfl, trivial⟩, ⟨⟨rfl, trivial⟩, ⟨⟨rfl, trivial⟩, trivial⟩⟩⟩, trivial⟩ (fun _ => rfl) (fun s6 =>
 Sim.seqI <| Sim.seqI <| Sim.op1 (h_mv (o_t rfl)) <|
 Sim.op1 (h_mv (o_t rfl)) <|
 Sim.op (h_len (o_t rfl)) fun x8 =>
 Sim.op (h_cmp (I := (IT.int .i64)) rfl (o_t rfl) (o_t rfl)) fun x9 =>
 Sim.doneS <| Sim.cond (o_t rfl) (
 Sim.skip <| Sim.doneS <| Sim.seqI <| Sim.blkI <| Sim.seqI <| Sim.op1 (h_mv (o_t rfl)) <|
 Sim.op1 (h_mv (o_t rfl)) <|
 Sim.op (h_ias rfl (o_t rfl) (o_t rfl)) fun x10 =>
 Sim.opn (h_ld rfl rfl (o_t rfl)) fun x11 =>
 Sim.op (h_call1 sp_r06_Parts (.cons (o_t rfl) <| .one (o_u8 10 rfl))) fun x12 =>
 Sim.op (h_len (o_t rfl)) fun x13 =>
 Sim.op (h_cmp (I := (IT.int .i64)) rfl (o_t rfl) o_i) fun x14 =>
 Sim.doneS <| Sim.cond (o_t rfl) (
 Sim.seqI <| Sim.op (h_call1 sp_l06_alive (.nil)) fun x15 =>
 Sim.op1 (h_mv (o_t rfl)) <|
 Sim.doneS <| Sim.outRet <| Sim.ret (.one (res_t rfl))) (
 Sim.skip <| Sim.doneB <| Sim.doneS <| Sim.op1 (h_mv (o_t rfl)) <|
 Sim.op (h_add (I := (IT.int .i64)) (o_t rfl) o_i) fun x16 =>
 Sim.op1 (h_mv (o_t rfl)) <|
 Sim.next x16 ⟨⟨⟨rfl, trivial⟩, ⟨⟨rfl, trivial⟩, ⟨⟨rfl, trivial⟩, trivial⟩⟩⟩, trivial⟩)) (
 Sim.exitS <| Sim.out () ⟨⟨⟨rfl, trivial⟩, ⟨⟨rfl, trivial⟩, trivial⟩⟩, trivial⟩)) (fun p7 =>
 Sim.exitB <| Sim.doneS <| Sim.seqI <| Sim.op1 (h_mv (o_t rfl)) <|
 Sim.op (h_callN sp_lines_Split (.one (o_t rfl))) fun x17 =>
 Sim.op1 (h_mv (o_t rfl)) <|
 Sim.opn (h_ext (o_t rfl) rfl) fun x18 =>
 Sim.opn (h_ext (o_t rfl) rfl) fun x19 =>
 Sim.op1 (h_mv (o_t rfl)) <|
 Sim.op1 (h_mv (o_t rfl)) <|
 Sim.doneS <| Sim.seqI <| Sim.op1 (h_mv (o_t rfl)) <|
 Sim.op1 (h_mv (o_t rfl)) <|
 Sim.and 3 rfl rfl rfl (Grp.op1 (h_mv (o_t rfl)) <|
 Grp.op1 (h_mv (o_t rfl)) <|
 Grp.op (h_call1 sp_r06_Same (.cons (o_t rfl) <| .one (o_t rfl))) fun x20 =>
 Grp.nil (o_t rfl)) fun x21 =>
 Sim.op1 (h_mv (o_t rfl)) <|
 Sim.and 1 rfl rfl rfl (Grp.op (h_call1 sp_l06_alive (.nil)) fun x22 =>
 Grp.nil (o_t rfl)) fun x23 =>
 Sim.op1 (h_mv (o_t rfl)) <|
 Sim.doneS <| Sim.ret (.one (res_t rfl)))))
theorem sp_l06_LinesJoin : Spec tb fn_l06_LinesJoin [(T.sl T.str)] [T.b] (fun a => l06_LinesJoin a) :=
  Spec.of f_l06_LinesJoin rfl rfl rfl sim_l06_LinesJoin

noncomputable def slices_Index_string (a0 : (GS Str)) (a1 : Str) : Option Int :=
 (iter (fun (s2 : Int) =>
 if (decide (s2 < (a0.l.length : Int))) = true then
 (idx a0.l s2).bind fun x5 =>
 if (decide (a1 = x5)) = true then
 (some s2).map fun r => .inr (.inr r)
 else
 some (.inl (IntKind.i64.wrap (s2 + 1)))
 else
 some (.inr (.inl ()))) 0).bind (Sum.elim (fun (p3 : Unit) =>
 some (-1)) some)
noncomputable def sim_slices_Index_string (a : Res [(T.sl T.str), T.str]) : Sim tb ⟨argsT [(T.sl T.str), T.str] 0 a, []⟩ c_slices_Index_string.body [] (QRes [(T.int .i64)] c_slices_Index_string.res) :=
 Sim.seqI <| Sim.op1 (h_mv o_i) <|
 Sim.doneS <| Sim.seqI <| Sim.seqI <| Sim.op1 (h_mv (o_t rfl)) <|
 Sim.op (h_len (o_t rfl)) fun x1 =>
 Sim.op1 (h_mv o_i) <|
 Sim.doneS <| Sim.blkI <| Sim.loop (id := 0) (σ := Int) (τ := Unit) (fun s2 => ⟨[(0, .val (T.sl T.str) a.1), (1, .val T.str a.2), (7, .val (T.int .i64) x1), (8, .val (T.int .i64) s2)], []⟩) (fun p3 => ⟨[], []⟩) 0 ⟨⟨⟨rfl, trivial⟩, ⟨⟨rfl, trivial⟩, ⟨⟨rfl, trivial⟩, ⟨⟨rfl, trivial⟩, trivial⟩⟩⟩⟩, trivial⟩ (fun _ => rfl) (fun s2 =>
 Sim.seqI <| Sim.op (h_cmp (I := (IT.int .i64)) rfl (o_t rfl) (o_t rfl)) fun x4 =>
 Sim.doneS <| Sim.seqI <| Sim.cond (o_t rfl) (
 Sim.skip <| Sim.doneS <| Sim.seqI <| Sim.blkI <| Sim.seqI <| Sim.op1 (h_mv (o_t rfl)) <|
 Sim.op1 (h_mv (o_t rfl)) <|
 Sim.doneS <| Sim.seqI <| Sim.op1 (h_mv (o_t rfl)) <|
 Sim.op1 (h_mv (o_t rfl)) <|
 Sim.op1 (h_mv (o_t rfl)) <|
 Sim.op (h_ias rfl (o_t rfl) (o_t rfl)) fun x5 =>
 Sim.opn (h_ld rfl rfl (o_t rfl)) fun x6 =>
 Sim.op (h_seql (o_t rfl) (o_t rfl)) fun x7 =>
 Sim.doneS <| Sim.cond (o_t rfl) (
 Sim.seqI <| Sim.op1 (h_mv (o_t rfl)) <|
 Sim.op1 (h_mv (o_t rfl)) <|
 Sim.doneS <| Sim.outRet <| Sim.ret (.one (res_t rfl))) (
 Sim.skip <| Sim.doneB <| Sim.doneS <| Sim.op (h_add (I := (IT.int .i64)) (o_t rfl) o_i) fun x8 =>
 Sim.op1 (h_mv (o_t rfl)) <|
 Sim.next x8 ⟨⟨⟨rfl, trivial⟩, ⟨⟨rfl, trivial⟩, ⟨⟨rfl, trivial⟩, ⟨⟨rfl, trivial⟩, trivial⟩⟩⟩⟩, trivial⟩)) (
 Sim.exitS <| Sim.out () ⟨trivial, trivial⟩)) (fun p3 =>
 Sim.exitB <| Sim.doneS <| Sim.seqI <| Sim.op1 (h_mv o_i) <|
 Sim.doneS <| Sim.ret (.one (res_t rfl)))
theorem sp_slices_Index_string : Spec tb fn_slices_Index_string [(T.sl T.str), T.str] [(T.int .i64)] (fun a => slices_Index_string a.1 a.2) :=
  Spec.of f_slices_Index_string rfl rfl rfl sim_slices_Index_string

noncomputable def strings_Contains (a0 : Str) (a1 : Str) : Option Bool :=
 (strings_Index a0 a1).bind fun x1 =>
 some (decide (0 ≤ x1))
noncomputable def sim_strings_Contains (a : Res [T.str, T.str]) : Sim tb ⟨argsT [T.str, T.str] 0 a, []⟩ c_strings_Contains.body [] (QRes [T.b] c_strings_Contains.res) :=
 Sim.seqI <| Sim.op1 (h_mv o_b) <|
 Sim.doneS <| Sim.seqI <| Sim.op1 (h_mv (o_t rfl)) <|
 Sim.op1 (h_mv (o_t rfl)) <|
 Sim.op (h_call1 sp_strings_Index (.cons (o_t rfl) <| .one (o_t rfl))) fun x1 =>
 Sim.op (h_cmp (I := (IT.int .i64)) rfl (o_t rfl) o_i) fun x2 =>
 Sim.op1 (h_mv (o_t rfl)) <|
 Sim.doneS <| Sim.ret (.one (res_t rfl))
theorem sp_strings_Contains : Spec tb fn_strings_Contains [T.str, T.str] [T.b] (fun a => strings_Contains a.1 a.2) :=
  Spec.of f_strings_Contains rfl rfl rfl sim_strings_Contains

noncomputable def pairline_Parse (a0 : Str) : Option (S_pairline_Pair × Int) :=
 if (decide (512 < (a0.length : Int))) = true then
 some ((⟨[], []⟩ : S_pairline_Pair), 4)
 else
 (lines_Cut a0 (61 : UInt8)).bind fun x6 =>
 (orO (!x6.2.2) (some (decide (x6.1 = [])))).bind fun x12 =>
 (orO x12 ((strings_Contains a0 [10]).bind fun x13 =>
 some x13)).bind fun x14 =>
 if x14 = true then
 some ((⟨[], []⟩ : S_pairline_Pair), 5)
 else
 some ((⟨x6.1, x6.2.1⟩ : S_pairline_Pair), 0)
noncomputable def sim_pairline_Parse (a : Res [T.str]) : Sim tb ⟨argsT [T.str] 0 a, []⟩ c_pairline_Parse.body [] (QRes [T_pairline_Pair, (T.int .i64)] c_pairline_Parse.res) :=
 Sim.seqI <| Sim.opM (M_alloc (t := T_pairline_Pair) 2 rfl rfl) fun x1 =>
 Sim.op1 (h_mv o_i) <|
 Sim.doneS <| Sim.seqI <| Sim.seqI <| Sim.op1 (h_mv (o_t rfl)) <|
 Sim.op (h_lens (o_t rfl)) fun x2 =>
 Sim.op (h_cmp (I := (IT.int .i64)) rfl (o_t rfl) o_i) fun x3 =>
 Sim.doneS <| Sim.cond (o_t rfl) (
 Sim.seqI <| Sim.op (h_bld rfl rfl (.nil _)) fun x4 =>
 Sim.opM (M_stC (o_t rfl) (o_t rfl) rfl rfl (Fld.id _) rfl) fun x5 =>
 Sim.op1 (h_mv o_i) <|
 Sim.doneS <| Sim.ret (.cons (res_c rfl rfl rfl (Fld.id _) rfl rfl) <| .one (res_t rfl))) (
 Sim.skip <| Sim.doneS <| Sim.seqI <| Sim.op1 (h_mv (o_t rfl)) <|
 Sim.op (h_callN sp_lines_Cut (.cons (o_t rfl) <| .one (o_u8 61 rfl))) fun x6 =>
 Sim.op1 (h_mv (o_t rfl)) <|
 Sim.opn (h_ext (o_t rfl) rfl) fun x7 =>
 Sim.opn (h_ext (o_t rfl) rfl) fun x8 =>
 Sim.opn (h_ext (o_t rfl) rfl) fun x9 =>
 Sim.op1 (h_mv (o_t rfl)) <|
 Sim.op1 (h_mv (o_t rfl)) <|
 Sim.op1 (h_mv (o_t rfl)) <|
 Sim.doneS <| Sim.seqI <| Sim.seqI <| Sim.op1 (h_mv (o_t rfl)) <|
 Sim.op (h_not (o_t rfl)) fun x10 =>
 Sim.op1 (h_mv (o_t rfl)) <|
 Sim.or 2 rfl rfl rfl (Grp.op1 (h_mv (o_t rfl)) <|
 Grp.op (h_seql (o_t rfl) o_s) fun x11 =>
 Grp.nil (o_t rfl)) fun x12 =>
 Sim.op1 (h_mv (o_t rfl)) <|
 Sim.or 2 rfl rfl rfl (Grp.op1 (h_mv (o_t rfl)) <|
 Grp.op (h_call1 sp_strings_Contains (.cons (o_t rfl) <| .one o_s)) fun x13 =>
 Grp.nil (o_t rfl)) fun x14 =>
 Sim.doneS <| Sim.cond (o_t rfl) (
 Sim.seqI <| Sim.op (h_bld rfl rfl (.nil _)) fun x15 =>
 Sim.opM (M_stC (o_t rfl) (o_t rfl) rfl rfl (Fld.id _) rfl) fun x16 =>
 Sim.op1 (h_mv o_i) <|
 Sim.doneS <| Sim.ret (.cons (res_c rfl rfl rfl (Fld.id _) rfl rfl) <| .one (res_t rfl))) (
 Sim.skip <| Sim.doneS <| Sim.seqI <| Sim.op1 (h_mv (o_t rfl)) <|
 Sim.op1 (h_mv (o_t rfl)) <|
 Sim.op (h_bld rfl rfl (.cons F_pairline_Pair_Key rfl (o_t rfl) <| .cons F_pairline_Pair_Value rfl (o_t rfl) <| .nil _)) fun x17 =>
 Sim.opM (M_stC (o_t rfl) (o_t rfl) rfl rfl (Fld.id _) rfl) fun x18 =>
 Sim.op1 (h_mv o_i) <|
 Sim.doneS <| Sim.ret (.cons (res_c rfl rfl rfl (Fld.id _) rfl rfl) <| .one (res_t rfl))))
theorem sp_pairline_Parse : Spec tb fn_pairline_Parse [T.str] [T_pairline_Pair, (T.int .i64)] (fun a => pairline_Parse a) :=
  Spec.of f_pairline_Parse rfl rfl rfl sim_pairline_Parse

noncomputable def pairline_Read (a0 : Str) : Option ((GS S_pairline_Pair) × Int) :=
 (lines_Split a0).bind fun x1 =>
 (orO (!x1.2) (some (decide ((x1.1.l.length : Int) = 0)))).bind fun x7 =>
 (orO x7 ((slices_Index_string x1.1 []).bind fun x8 =>
 let x11 := !decide (x8 = IntKind.i64.wrap ((x1.1.l.length : Int) - 1))
 some x11)).bind fun x12 =>
 if x12 = true then
 some (.nil, 5)
 else
 (slG x1.1 none (some (IntKind.i64.wrap ((x1.1.l.length : Int) - 1)))).bind fun x15 =>
 if (decide (400 < (x15.l.length : Int))) = true then
 some (.nil, 4)
 else
 (iter (fun (s19 : (Int × (GS S_pairline_Pair))) =>
 if (decide (s19.1 < (x15.l.length : Int))) = true then
 (idx x15.l s19.1).bind fun x22 =>
 (pairline_Parse x22).bind fun x24 =>
 if (!decide (x24.2 = 0)) = true then
 (some (.nil, x24.2)).map fun r => .inr (.inr r)
 else
 (apG 32 s19.2 [x24.1]).bind fun x32 =>
 some (.inl (IntKind.i64.wrap (s19.1 + 1), x32))
 else
 some (.inr (.inl s19.2))) (0, .nil)).bind (Sum.elim (fun (p20 : (GS S_pairline_Pair)) =>
 some (p20, 0)) some)
noncomputable def sim_pairline_Read (a : Res [T.str]) : Sim tb ⟨argsT [T.str] 0 a, []⟩ c_pairline_Read.body [] (QRes [(T.sl T_pairline_Pair), (T.int .i64)] c_pairline_Read.res) :=
 Sim.seqI <| Sim.op1 (h_mv (o_nils (t := T_pairline_Pair))) <| Sim.turn (born (n := 2) (j := 1002) rfl rfl) <|
 Sim.op1 (h_mv o_i) <|
 Sim.doneS <| Sim.seqI <| Sim.op1 (h_mv (o_t rfl)) <|
 Sim.op (h_callN sp_lines_Split (.one (o_t rfl))) fun x1 =>
 Sim.op1 (h_mv (o_t rfl)) <|
 Sim.opn (h_ext (o_t rfl) rfl) fun x2 =>
 Sim.opn (h_ext (o_t rfl) rfl) fun x3 =>
 Sim.op1 (h_mv (o_t rfl)) <|
 Sim.op1 (h_mv (o_t rfl)) <|
 Sim.doneS <| Sim.seqI <| Sim.seqI <| Sim.op1 (h_mv (o_t rfl)) <|
 Sim.op (h_not (o_t rfl)) fun x4 =>
 Sim.op1 (h_mv (o_t rfl)) <|
 Sim.or 3 rfl rfl rfl (Grp.op1 (h_mv (o_t rfl)) <|
 Grp.op (h_len (o_t rfl)) fun x5 =>
 Grp.op (h_cmp (I := (IT.int .i64)) rfl (o_t rfl) o_i) fun x6 =>
 Grp.nil (o_t rfl)) fun x7 =>
 Sim.op1 (h_mv (o_t rfl)) <|
 Sim.or 6 rfl rfl rfl (Grp.op1 (h_mv (o_t rfl)) <|
 Grp.op (h_call1 sp_slices_Index_string (.cons (o_t rfl) <| .one o_s)) fun x8 =>
 Grp.op1 (h_mv (o_t rfl)) <|
 Grp.op (h_len (o_t rfl)) fun x9 =>
 Grp.op (h_sub (I := (IT.int .i64)) (o_t rfl) o_i) fun x10 =>
 Grp.op (h_cmp (I := (IT.int .i64)) rfl (o_t rfl) (o_t rfl)) fun x11 =>
 Grp.nil (o_t rfl)) fun x12 =>
 Sim.doneS <| Sim.cond (o_t rfl) (
 Sim.seqI <| Sim.op1 (h_mv (o_nils (t := T_pairline_Pair))) <| Sim.turn (born (n := 2) (j := 2002) rfl rfl) <|
 Sim.op1 (h_mv o_i) <|
 Sim.doneS <| Sim.frzRow 2002 rfl rfl <| Sim.ret (.cons (res_t rfl) <| .one (res_t rfl))) (
 Sim.skip <| Sim.doneS <| Sim.seqI <| Sim.op1 (h_mv (o_t rfl)) <|
 Sim.op1 (h_mv (o_t rfl)) <|
 Sim.op (h_len (o_t rfl)) fun x13 =>
 Sim.op (h_sub (I := (IT.int .i64)) (o_t rfl) o_i) fun x14 =>
 Sim.op (h_sll rfl (o_t rfl) .none (.some (o_t rfl))) fun x15 =>
 Sim.op1 (h_mv (o_t rfl)) <|
 Sim.doneS <| Sim.seqI <| Sim.seqI <| Sim.op1 (h_mv (o_t rfl)) <|
 Sim.op (h_len (o_t rfl)) fun x16 =>
 Sim.op (h_cmp (I := (IT.int .i64)) rfl (o_t rfl) o_i) fun x17 =>
 Sim.doneS <| Sim.cond (o_t rfl) (
 Sim.seqI <| Sim.op1 (h_mv (o_nils (t := T_pairline_Pair))) <| Sim.turn (born (n := 2) (j := 2002) rfl rfl) <|
 Sim.op1 (h_mv o_i) <|
 Sim.doneS <| Sim.frzRow 2002 rfl rfl <| Sim.ret (.cons (res_t rfl) <| .one (res_t rfl))) (
 Sim.skip <| Sim.doneS <| Sim.seqI <| Sim.op1 (h_mv (o_nils (t := T_pairline_Pair))) <| Sim.turn (born (n := 6) (j := 1006) rfl rfl) <|
 Sim.doneS <| Sim.seqI <| Sim.seqI <| Sim.op1 (h_mv (o_t rfl)) <|
 Sim.op (h_len (o_t rfl)) fun x18 =>
 Sim.op1 (h_mv o_i) <|
 Sim.doneS <| Sim.blkI <| Sim.loop (id := 0) (σ := (Int × (GS S_pairline_Pair))) (τ := (GS S_pairline_Pair)) (fun s19 => ⟨[(6, .own 1006), (39, .val (T.sl T.str) x15), (40, .val (T.int .i64) x18), (41, .val (T.int .i64) s19.1)], [(1006, .row T_pairline_Pair s19.2)]⟩) (fun p20 => ⟨[(6, .own 1006)], [(1006, .row T_pairline_Pair p20)]⟩) (0, .nil) ⟨⟨⟨rfl, trivial⟩, ⟨⟨rfl, trivial⟩, ⟨⟨rfl, trivial⟩, ⟨⟨rfl, trivial⟩, trivial⟩⟩⟩⟩, ⟨⟨rfl, trivial⟩, trivial⟩⟩ (fun _ => rfl) (fun s19 =>
 Sim.seqI <| Sim.op (h_cmp (I := (IT.int .i64)) rfl (o_t rfl) (o_t rfl)) fun x21 =>
 Sim.doneS <| Sim.seqI <| Sim.cond (o_t rfl) (
 Sim.skip <| Sim.doneS <| Sim.seqI <| Sim.blkI <| Sim.seqI <| Sim.op (h_ias rfl (o_t rfl) (o_t rfl)) fun x22 =>
 Sim.opn (h_ld rfl rfl (o_t rfl)) fun x23 =>
 Sim.op1 (h_mv (o_t rfl)) <|
 Sim.doneS <| Sim.seqI <| Sim.op1 (h_mv (o_t rfl)) <|
 Sim.op (h_callN sp_pairline_Parse (.one (o_t rfl))) fun x24 =>
 Sim.op1 (h_mv (o_t rfl)) <|
 Sim.opn (h_ext (o_t rfl) rfl) fun x25 =>
 Sim.opn (h_ext (o_t rfl) rfl) fun x26 =>
 Sim.opM (M_alloc (t := T_pairline_Pair) 9 rfl rfl) fun x27 =>
 Sim.opM (M_stC (o_t rfl) (o_t rfl) rfl rfl (Fld.id _) rfl) fun x28 =>
 Sim.op1 (h_mv (o_t rfl)) <|
 Sim.doneS <| Sim.seqI <| Sim.seqI <| Sim.op1 (h_mv (o_t rfl)) <|
 Sim.op (h_cmp (I := (IT.int .i64)) rfl (o_t rfl) o_i) fun x29 =>
 Sim.doneS <| Sim.cond (o_t rfl) (
 Sim.seqI <| Sim.op1 (h_mv (o_t rfl)) <|
 Sim.op1 (h_mv (o_nils (t := T_pairline_Pair))) <| Sim.turn (born (n := 2) (j := 1002) rfl rfl) <|
 Sim.op1 (h_mv (o_t rfl)) <|
 Sim.doneS <| Sim.outRet <| Sim.frzRow 1002 rfl rfl <| Sim.ret (.cons (res_t rfl) <| .one (res_t rfl))) (
 Sim.skip <| Sim.doneS <| Sim.op1 (h_mv (o_t rfl)) <|
 Sim.opn (h_ldC (t := T_pairline_Pair) (u := T_pairline_Pair) (o_t rfl) rfl rfl (Fld.id _) rfl rfl) fun x30 =>
 Sim.op (h_bll (t := T_pairline_Pair) (n := 1) rfl rfl (.cons rfl (o_t rfl) <| .nil _)) fun x31 =>
 Sim.opM (M_app rfl (o_t rfl) rfl (n_sl (o_t rfl))) fun x32 =>
 Sim.op1 (h_mv (o_t rfl)) <|
 Sim.doneB <| Sim.doneS <| Sim.op (h_add (I := (IT.int .i64)) (o_t rfl) o_i) fun x33 =>
 Sim.op1 (h_mv (o_t rfl)) <|
 Sim.next (x33, x32) ⟨⟨⟨rfl, trivial⟩, ⟨⟨rfl, trivial⟩, ⟨⟨rfl, trivial⟩, ⟨⟨rfl, trivial⟩, trivial⟩⟩⟩⟩, ⟨⟨rfl, trivial⟩, trivial⟩⟩)) (
 Sim.exitS <| Sim.out s19.2 ⟨⟨⟨rfl, trivial⟩, trivial⟩, ⟨⟨rfl, trivial⟩, trivial⟩⟩)) (fun p20 =>
 Sim.exitB <| Sim.doneS <| Sim.seqI <| Sim.op1 (h_mv (o_t rfl)) <|
 Sim.op1 (h_mv (o_t rfl)) <|
 Sim.op1 (h_mv o_i) <|
 Sim.doneS <| Sim.frzRow 1006 rfl rfl <| Sim.ret (.cons (res_t rfl) <| .one (res_t rfl)))))
theorem sp_pairline_Read : Spec tb fn_pairline_Read [T.str] [(T.sl T_pairline_Pair), (T.int .i64)] (fun a => pairline_Read a) :=
  Spec.of f_pairline_Read rfl rfl rfl sim_pairline_Read

noncomputable def l36_alive (_ : Unit) : Option Bool :=
 (pairline_Read [97, 61, 98, 10, 10]).bind fun x1 =>
 (pairline_Read []).bind fun x4 =>
 (andO (decide (x1.2 = 0)) (some (decide ((x1.1.l.length : Int) = 1)))).bind fun x10 =>
 (andO x10 ((idx x1.1.l 0).bind fun x11 =>
 some (decide (x11.Key = [97])))).bind fun x15 =>
 (andO x15 ((idx x1.1.l 0).bind fun x16 =>
 some (decide (x16.Value = [98])))).bind fun x20 =>
 (andO x20 (some (decide (x4.2 = 5)))).bind fun x22 =>
 some x22
noncomputable def sim_l36_alive (a : Res []) : Sim tb ⟨argsT [] 0 a, []⟩ c_l36_alive.body [] (QRes [T.b] c_l36_alive.res) :=
 Sim.seqI <| Sim.op1 (h_mv o_b) <|
 Sim.doneS <| Sim.seqI <| Sim.op (h_callN sp_pairline_Read (.one o_s)) fun x1 =>
 Sim.op1 (h_mv (o_t rfl)) <|
 Sim.opn (h_ext (o_t rfl) rfl) fun x2 =>
 Sim.opn (h_ext (o_t rfl) rfl) fun x3 =>
 Sim.op1 (h_mv (o_t rfl)) <|
 Sim.op1 (h_mv (o_t rfl)) <|
 Sim.doneS <| Sim.seqI <| Sim.op (h_callN sp_pairline_Read (.one o_s)) fun x4 =>
 Sim.op1 (h_mv (o_t rfl)) <|
 Sim.opn (h_ext (o_t rfl) rfl) fun x5 =>
 Sim.opn (h_ext (o_t rfl) rfl) fun x6 =>
 Sim.op1 (h_mv (o_t rfl)) <|
 Sim.op1 (h_mv (o_t rfl)) <|
 Sim.doneS <| Sim.seqI <| Sim.op1 (h_mv (o_t rfl)) <|
 Sim.op (h_cmp (I := (IT.int .i64)) rfl (o_t rfl) o_i) fun x7 =>
 Sim.op1 (h_mv (o_t rfl)) <|
 Sim.and 3 rfl rfl rfl (Grp.op1 (h_mv (o_t rfl)) <|
 Grp.op (h_len (o_t rfl)) fun x8 =>
 Grp.op (h_cmp (I := (IT.int .i64)) rfl (o_t rfl) o_i) fun x9 =>
 Grp.nil (o_t rfl)) fun x10 =>
 Sim.op1 (h_mv (o_t rfl)) <|
 Sim.and 5 rfl rfl rfl (Grp.op1 (h_mv (o_t rfl)) <|
 Grp.op (h_ias rfl (o_t rfl) o_i) fun x11 =>
 Grp.opr (h_fa F_pairline_Pair_Key (o_t rfl)) fun x12 =>
 Grp.opn (h_ld rfl rfl (o_t rfl)) fun x13 =>
 Grp.op (h_seql (o_t rfl) o_s) fun x14 =>
 Grp.nil (o_t rfl)) fun x15 =>
 Sim.op1 (h_mv (o_t rfl)) <|
 Sim.and 5 rfl rfl rfl (Grp.op1 (h_mv (o_t rfl)) <|
 Grp.op (h_ias rfl (o_t rfl) o_i) fun x16 =>
 Grp.opr (h_fa F_pairline_Pair_Value (o_t rfl)) fun x17 =>
 Grp.opn (h_ld rfl rfl (o_t rfl)) fun x18 =>
 Grp.op (h_seql (o_t rfl) o_s) fun x19 =>
 Grp.nil (o_t rfl)) fun x20 =>
 Sim.op1 (h_mv (o_t rfl)) <|
 Sim.and 2 rfl rfl rfl (Grp.op1 (h_mv (o_t rfl)) <|
 Grp.op (h_cmp (I := (IT.int .i64)) rfl (o_t rfl) o_i) fun x21 =>
 Grp.nil (o_t rfl)) fun x22 =>
 Sim.op1 (h_mv (o_t rfl)) <|
 Sim.doneS <| Sim.ret (.one (res_t rfl))
theorem sp_l36_alive : Spec tb fn_l36_alive [] [T.b] (fun a => l36_alive ()) :=
  Spec.of f_l36_alive rfl rfl rfl sim_l36_alive

noncomputable def unicode_utf8_ValidRune (a0 : Int) : Option Bool :=
 (andO (decide (0 ≤ a0)) (some (decide (a0 < 55296)))).bind fun x3 =>
 if x3 = true then
 some true
 else
 (andO (decide (57343 < a0)) (some (decide (a0 ≤ 1114111)))).bind fun x6 =>
 if x6 = true then
 some true
 else
 some false
noncomputable def sim_unicode_utf8_ValidRune (a : Res [(T.int .i32)]) : Sim tb ⟨argsT [(T.int .i32)] 0 a, []⟩ c_unicode_utf8_ValidRune.body [] (QRes [T.b] c_unicode_utf8_ValidRune.res) :=
 Sim.seqI <| Sim.op1 (h_mv o_b) <|
 Sim.doneS <| Sim.seqI <| Sim.blkI <| Sim.seqI <| Sim.op1 (h_mv (o_t rfl)) <|
 Sim.op (h_cmp (I := (IT.int .i32)) rfl o_i (o_t rfl)) fun x1 =>
 Sim.op1 (h_mv (o_t rfl)) <|
 Sim.and 2 rfl rfl rfl (Grp.op1 (h_mv (o_t rfl)) <|
 Grp.op (h_cmp (I := (IT.int .i32)) rfl (o_t rfl) o_i) fun x2 =>
 Grp.nil (o_t rfl)) fun x3 =>
 Sim.op1 (h_mv (o_t rfl)) <|
 Sim.doneS <| Sim.cond (o_t rfl) (
 Sim.seqI <| Sim.op1 (h_mv o_b) <|
 Sim.doneS <| Sim.ret (.one (res_t rfl))) (
 Sim.seqI <| Sim.op1 (h_mv (o_t rfl)) <|
 Sim.op (h_cmp (I := (IT.int .i32)) rfl o_i (o_t rfl)) fun x4 =>
 Sim.op1 (h_mv (o_t rfl)) <|
 Sim.and 2 rfl rfl rfl (Grp.op1 (h_mv (o_t rfl)) <|
 Grp.op (h_cmp (I := (IT.int .i32)) rfl (o_t rfl) o_i) fun x5 =>
 Grp.nil (o_t rfl)) fun x6 =>
 Sim.op1 (h_mv (o_t rfl)) <|
 Sim.doneS <| Sim.cond (o_t rfl) (
 Sim.seqI <| Sim.op1 (h_mv o_b) <|
 Sim.doneS <| Sim.ret (.one (res_t rfl))) (
 Sim.skip <| Sim.doneB <| Sim.doneS <| Sim.seqI <| Sim.op1 (h_mv o_b) <|
 Sim.doneS <| Sim.ret (.one (res_t rfl))))
theorem sp_unicode_utf8_ValidRune : Spec tb fn_unicode_utf8_ValidRune [(T.int .i32)] [T.b] (fun a => unicode_utf8_ValidRune a) :=
  Spec.of f_unicode_utf8_ValidRune rfl rfl rfl sim_unicode_utf8_ValidRune

noncomputable def strings_IndexRune (a0 : Str) (a1 : Int) : Option Int :=
 (andO (decide (0 ≤ a1)) (some (decide (a1 < 128)))).bind fun x3 =>
 if x3 = true then
 (strings_IndexByte a0 (IT.u8.ofI a1)).bind fun x5 =>
 some x5
 else
 if (decide (a1 = 65533)) = true then
 (iter (fun (s7 : Nat) =>
 if s7 < a0.length then
 let x9 := runeAt a0 s7
 if (decide (x9.1 = 65533)) = true then
 (some ((s7 : Nat) : Int)).map fun r => .inr (.inr r)
 else
 some (.inl (s7 + x9.2))
 else
 some (.inr (.inl ()))) 0).bind (Sum.elim (fun (p8 : Unit) =>
 some (-1)) some)
 else
 (unicode_utf8_ValidRune a1).bind fun x13 =>
 if (!x13) = true then
 some (-1)
 else
 let x17 := IntKind.i64.wrap ((((Utf8.encode a1).data.toList).length : Int) - 1)
 (iter (fun (s18 : Unit) =>
 if (decide (x17 < (a0.length : Int))) = true then
 (idx a0 x17).bind fun x22 =>
 (idx ((Utf8.encode a1).data.toList) x17).bind fun x23 =>
 (fun (k26 : Int → Option _) => if (!decide ((x22.toNat : Int) = (x23.toNat : Int))) = true then
 (subL a0 (some (IntKind.i64.wrap (x17 + 1))) none).bind fun x39 =>
 (idx ((Utf8.encode a1).data.toList) x17).bind fun x40 =>
 (strings_IndexByte x39 x40).bind fun x41 =>
 if (decide (x41 < 0)) = true then
 (some (-1)).map fun r => .inr (.inr r)
 else
 let x44 := IntKind.i64.wrap (x17 + IntKind.i64.wrap (x41 + 1))
 k26 x44
 else
 k26 x17) fun p25 =>
 (iter (fun (s27 : Int) =>
 let x30 := decide (s27 < (((Utf8.encode a1).data.toList).length : Int))
 if x30 = true then
 (idx a0 (IntKind.i64.wrap (p25 - s27))).bind fun x32 =>
 (idx ((Utf8.encode a1).data.toList) (IntKind.i64.wrap (x17 - s27))).bind fun x34 =>
 if (!decide ((x32.toNat : Int) = (x34.toNat : Int))) = true then
 none
 else
 some (.inl (IntKind.i64.wrap (s27 + 1)))
 else
 some (.inr (.inl ()))) 1).bind (Sum.elim (fun (p28 : Unit) =>
 (some (IntKind.i64.wrap (p25 - x17))).map fun r => .inr (.inr r)) some)
 else
 some (.inr (.inl ()))) ()).bind (Sum.elim (fun (p19 : Unit) =>
 some (-1)) some)
noncomputable def sim_strings_IndexRune (a : Res [T.str, (T.int .i32)]) : Sim tb ⟨argsT [T.str, (T.int .i32)] 0 a, []⟩ c_strings_IndexRune.body [] (QRes [(T.int .i64)] c_strings_IndexRune.res) :=
 Sim.seqI <| Sim.op1 (h_mv o_i) <|
 Sim.doneS <| Sim.blkI <| Sim.seqI <| Sim.op1 (h_mv (o_t rfl)) <|
 Sim.op (h_cmp (I := (IT.int .i32)) rfl o_i (o_t rfl)) fun x1 =>
 Sim.op1 (h_mv (o_t rfl)) <|
 Sim.and 2 rfl rfl rfl (Grp.op1 (h_mv (o_t rfl)) <|
 Grp.op (h_cmp (I := (IT.int .i32)) rfl (o_t rfl) o_i) fun x2 =>
 Grp.nil (o_t rfl)) fun x3 =>
 Sim.op1 (h_mv (o_t rfl)) <|
 Sim.doneS <| Sim.cond (o_t rfl) (
 Sim.seqI <| Sim.op1 (h_mv (o_t rfl)) <|
 Sim.op1 (h_mv (o_t rfl)) <|
 Sim.op (h_cvi (I := (IT.int .i32)) (J := IT.u8) rfl (o_t rfl)) fun x4 =>
 Sim.op (h_call1 sp_strings_IndexByte (.cons (o_t rfl) <| .one (o_t rfl))) fun x5 =>
 Sim.op1 (h_mv (o_t rfl)) <|
 Sim.doneS <| Sim.ret (.one (res_t rfl))) (
 Sim.seqI <| Sim.op1 (h_mv (o_t rfl)) <|
 Sim.op (h_cmp (I := (IT.int .i32)) rfl (o_t rfl) o_i) fun x6 =>
 Sim.op1 (h_mv (o_t rfl)) <|
 Sim.doneS <| Sim.cond (o_t rfl) (
 Sim.seqI <| Sim.seqI <| Sim.op1 (h_mv (o_t rfl)) <|
 Sim.opM (M_rng 1175 rfl (o_t rfl)) fun _ =>
 Sim.doneS <| Sim.blkI <| Sim.loop (id := 9) (σ := Nat) (τ := Unit) (fun s7 => ⟨[(175, .own 1175)], [(1175, .dom DIter (a.1, s7))]⟩) (fun p8 => ⟨[], []⟩) 0 ⟨⟨⟨rfl, trivial⟩, trivial⟩, ⟨⟨rfl, trivial⟩, trivial⟩⟩ (fun _ => rfl) (fun s7 =>
 Sim.seqI <| Sim.nxt (o_t rfl) rfl (fun x9 =>
 Sim.op1 (h_ext (o_t rfl) rfl) <|
 Sim.doneS <| Sim.seqI <| Sim.condT (o_t rfl) <|
 Sim.skip <| Sim.doneS <| Sim.blkI <| Sim.seqI <| Sim.opn (h_ext (o_t rfl) rfl) fun x10 =>
 Sim.opn (h_ext (o_t rfl) rfl) fun x11 =>
 Sim.op1 (h_mv (o_t rfl)) <|
 Sim.op1 (h_mv (o_t rfl)) <|
 Sim.doneS <| Sim.seqI <| Sim.op1 (h_mv (o_t rfl)) <|
 Sim.op (h_cmp (I := (IT.int .i32)) rfl (o_t rfl) o_i) fun x12 =>
 Sim.doneS <| Sim.cond (o_t rfl) (
 Sim.seqI <| Sim.op1 (h_mv (o_t rfl)) <|
 Sim.op1 (h_mv (o_t rfl)) <|
 Sim.doneS <| Sim.outRet <| Sim.ret (.one (res_t rfl))) (
 Sim.skip <| Sim.doneB <| Sim.next (s7 + x9.2) ⟨⟨⟨rfl, trivial⟩, trivial⟩, ⟨⟨rfl, trivial⟩, trivial⟩⟩)) (
 Sim.op1 (h_ext (o_t rfl) rfl) <|
 Sim.doneS <| Sim.seqI <| Sim.condF (o_t rfl) <|
 Sim.exitS <| Sim.out () ⟨trivial, trivial⟩)) (fun p8 =>
 Sim.exitB <| Sim.doneS <| Sim.seqI <| Sim.op1 (h_mv o_i) <|
 Sim.doneS <| Sim.ret (.one (res_t rfl)))) (
 Sim.seqI <| Sim.op1 (h_mv (o_t rfl)) <|
 Sim.op (h_call1 sp_unicode_utf8_ValidRune (.one (o_t rfl))) fun x13 =>
 Sim.op (h_not (o_t rfl)) fun x14 =>
 Sim.op1 (h_mv (o_t rfl)) <|
 Sim.doneS <| Sim.cond (o_t rfl) (
 Sim.seqI <| Sim.op1 (h_mv o_i) <|
 Sim.doneS <| Sim.ret (.one (res_t rfl))) (
 Sim.scope <| Sim.seqI <| Sim.op1 (h_mv (o_t rfl)) <|
 Sim.op (h_cvc (o_t rfl)) fun x15 =>
 Sim.op1 (h_mv (o_t rfl)) <|
 Sim.doneS <| Sim.seqI <| Sim.op1 (h_mv (o_t rfl)) <|
 Sim.op (h_lens (o_t rfl)) fun x16 =>
 Sim.op (h_sub (I := (IT.int .i64)) (o_t rfl) o_i) fun x17 =>
 Sim.op1 (h_mv (o_t rfl)) <|
 Sim.doneS <| Sim.seqI <| Sim.op1 (h_mv (o_t rfl)) <|
 Sim.op1 (h_mv (o_t rfl)) <|
 Sim.doneS <| Sim.seqI <| Sim.op1 (h_mv o_i) <|
 Sim.doneS <| Sim.seqI <| Sim.blkI <| Sim.loop (id := 1) (σ := Unit) (τ := Unit) (fun s18 => ⟨[(0, .val T.str a.1), (7, .val T.str x15), (8, .val (T.int .i64) x17), (9, .val (T.int .i64) x17)], []⟩) (fun p19 => ⟨[], []⟩) () ⟨⟨⟨rfl, trivial⟩, ⟨⟨rfl, trivial⟩, ⟨⟨rfl, trivial⟩, ⟨⟨rfl, trivial⟩, trivial⟩⟩⟩⟩, trivial⟩ (fun _ => rfl) (fun s18 =>
 Sim.seqI <| Sim.seqI <| Sim.op1 (h_mv (o_t rfl)) <|
 Sim.op1 (h_mv (o_t rfl)) <|
 Sim.op (h_lens (o_t rfl)) fun x20 =>
 Sim.op (h_cmp (I := (IT.int .i64)) rfl (o_t rfl) (o_t rfl)) fun x21 =>
 Sim.doneS <| Sim.cond (o_t rfl) (
 Sim.skip <| Sim.doneS <| Sim.blkI <| Sim.scope <| Sim.seqI <| Sim.seqI <| Sim.op1 (h_mv (o_t rfl)) <|
 Sim.op1 (h_mv (o_t rfl)) <|
 Sim.op (h_ixs (o_t rfl) (o_t rfl)) fun x22 =>
 Sim.op1 (h_mv (o_t rfl)) <|
 Sim.op1 (h_mv (o_t rfl)) <|
 Sim.op (h_ixs (o_t rfl) (o_t rfl)) fun x23 =>
 Sim.op (h_cmp (I := IT.u8) rfl (o_t rfl) (o_t rfl)) fun x24 =>
 Sim.doneS <| Sim.join (τ := Int) (fun p25 => ⟨[(0, .val T.str a.1), (7, .val T.str x15), (8, .val (T.int .i64) x17), (9, .val (T.int .i64) p25)], []⟩) (fun p25 =>
 Sim.doneS <| Sim.seqI <| Sim.seqI <| Sim.op1 (h_mv o_i) <|
 Sim.doneS <| Sim.blkI <| Sim.loop (id := 3) (σ := Int) (τ := Unit) (fun s27 => ⟨[(0, .val T.str a.1), (7, .val T.str x15), (8, .val (T.int .i64) x17), (9, .val (T.int .i64) p25), (12, .val (T.int .i64) s27)], []⟩) (fun p28 => ⟨[(8, .val (T.int .i64) x17), (9, .val (T.int .i64) p25)], []⟩) 1 ⟨⟨⟨rfl, trivial⟩, ⟨⟨rfl, trivial⟩, ⟨⟨rfl, trivial⟩, ⟨⟨rfl, trivial⟩, ⟨⟨rfl, trivial⟩, trivial⟩⟩⟩⟩⟩, trivial⟩ (fun _ => rfl) (fun s27 =>
 Sim.seqI <| Sim.seqI <| Sim.op1 (h_mv (o_t rfl)) <|
 Sim.op1 (h_mv (o_t rfl)) <|
 Sim.op (h_lens (o_t rfl)) fun x29 =>
 Sim.op (h_cmp (I := (IT.int .i64)) rfl (o_t rfl) (o_t rfl)) fun x30 =>
 Sim.doneS <| Sim.cond (o_t rfl) (
 Sim.skip <| Sim.doneS <| Sim.seqI <| Sim.blkI <| Sim.seqI <| Sim.op1 (h_mv (o_t rfl)) <|
 Sim.op1 (h_mv (o_t rfl)) <|
 Sim.op1 (h_mv (o_t rfl)) <|
 Sim.op (h_sub (I := (IT.int .i64)) (o_t rfl) (o_t rfl)) fun x31 =>
 Sim.op (h_ixs (o_t rfl) (o_t rfl)) fun x32 =>
 Sim.op1 (h_mv (o_t rfl)) <|
 Sim.op1 (h_mv (o_t rfl)) <|
 Sim.op1 (h_mv (o_t rfl)) <|
 Sim.op (h_sub (I := (IT.int .i64)) (o_t rfl) (o_t rfl)) fun x33 =>
 Sim.op (h_ixs (o_t rfl) (o_t rfl)) fun x34 =>
 Sim.op (h_cmp (I := IT.u8) rfl (o_t rfl) (o_t rfl)) fun x35 =>
 Sim.doneS <| Sim.cond (o_t rfl) (
 Sim.stop) (
 Sim.skip <| Sim.doneB <| Sim.doneS <| Sim.op1 (h_mv (o_t rfl)) <|
 Sim.op (h_add (I := (IT.int .i64)) (o_t rfl) o_i) fun x36 =>
 Sim.op1 (h_mv (o_t rfl)) <|
 Sim.next x36 ⟨⟨⟨rfl, trivial⟩, ⟨⟨rfl, trivial⟩, ⟨⟨rfl, trivial⟩, ⟨⟨rfl, trivial⟩, ⟨⟨rfl, trivial⟩, trivial⟩⟩⟩⟩⟩, trivial⟩)) (
 Sim.exitS <| Sim.out () ⟨⟨⟨rfl, trivial⟩, ⟨⟨rfl, trivial⟩, trivial⟩⟩, trivial⟩)) (fun p28 =>
 Sim.exitB <| Sim.doneS <| Sim.seqI <| Sim.seqI <| Sim.op1 (h_mv (o_t rfl)) <|
 Sim.op1 (h_mv (o_t rfl)) <|
 Sim.op (h_sub (I := (IT.int .i64)) (o_t rfl) (o_t rfl)) fun x37 =>
 Sim.op1 (h_mv (o_t rfl)) <|
 Sim.doneS <| Sim.outRet <| Sim.ret (.one (res_t rfl)))) fun k26 => Sim.cond (o_t rfl) (
 Sim.seqI <| Sim.op1 (h_mv (o_t rfl)) <|
 Sim.op1 (h_mv (o_t rfl)) <|
 Sim.op (h_add (I := (IT.int .i64)) (o_t rfl) o_i) fun x38 =>
 Sim.op (h_sls (o_t rfl) (.some (o_t rfl)) .none) fun x39 =>
 Sim.op1 (h_mv (o_t rfl)) <|
 Sim.op1 (h_mv (o_t rfl)) <|
 Sim.op (h_ixs (o_t rfl) (o_t rfl)) fun x40 =>
 Sim.op (h_call1 sp_strings_IndexByte (.cons (o_t rfl) <| .one (o_t rfl))) fun x41 =>
 Sim.op1 (h_mv (o_t rfl)) <|
 Sim.doneS <| Sim.seqI <| Sim.seqI <| Sim.op1 (h_mv (o_t rfl)) <|
 Sim.op (h_cmp (I := (IT.int .i64)) rfl (o_t rfl) o_i) fun x42 =>
 Sim.doneS <| Sim.cond (o_t rfl) (
 Sim.seqI <| Sim.op1 (h_mv o_i) <|
 Sim.doneS <| Sim.outRet <| Sim.ret (.one (res_t rfl))) (
 Sim.skip <| Sim.doneS <| Sim.op1 (h_mv (o_t rfl)) <|
 Sim.op1 (h_mv (o_t rfl)) <|
 Sim.op (h_add (I := (IT.int .i64)) (o_t rfl) o_i) fun x43 =>
 Sim.op (h_add (I := (IT.int .i64)) (o_t rfl) (o_t rfl)) fun x44 =>
 Sim.op1 (h_mv (o_t rfl)) <|
 Sim.weak (k26 x44) ⟨⟨⟨rfl, trivial⟩, ⟨⟨rfl, trivial⟩, ⟨⟨rfl, trivial⟩, ⟨⟨rfl, trivial⟩, trivial⟩⟩⟩⟩, trivial⟩)) (
 Sim.skip <| Sim.weak (k26 x17) ⟨⟨⟨rfl, trivial⟩, ⟨⟨rfl, trivial⟩, ⟨⟨rfl, trivial⟩, ⟨⟨rfl, trivial⟩, trivial⟩⟩⟩⟩, trivial⟩)) (
 Sim.exitS <| Sim.out () ⟨trivial, trivial⟩)) (fun p19 =>
 Sim.exitB <| Sim.doneS <| Sim.seqI <| Sim.seqI <| Sim.op1 (h_mv o_i) <|
 Sim.doneS <| Sim.ret (.one (res_t rfl))))))
theorem sp_strings_IndexRune : Spec tb fn_strings_IndexRune [T.str, (T.int .i32)] [(T.int .i64)] (fun a => strings_IndexRune a.1 a.2) :=
  Spec.of f_strings_IndexRune rfl rfl rfl sim_strings_IndexRune

noncomputable def strings_shouldUseASCIISet (a0 : Int) : Option Bool :=
 some (decide (8 < a0))
noncomputable def sim_strings_shouldUseASCIISet (a : Res [(T.int .i64)]) : Sim tb ⟨argsT [(T.int .i64)] 0 a, []⟩ c_strings_shouldUseASCIISet.body [] (QRes [T.b] c_strings_shouldUseASCIISet.res) :=
 Sim.seqI <| Sim.op1 (h_mv o_b) <|
 Sim.doneS <| Sim.seqI <| Sim.op1 (h_mv (o_t rfl)) <|
 Sim.op (h_cmp (I := (IT.int .i64)) rfl (o_t rfl) o_i) fun x1 =>
 Sim.op1 (h_mv (o_t rfl)) <|
 Sim.doneS <| Sim.ret (.one (res_t rfl))
theorem sp_strings_shouldUseASCIISet : Spec tb fn_strings_shouldUseASCIISet [(T.int .i64)] [T.b] (fun a => strings_shouldUseASCIISet a) :=
  Spec.of f_strings_shouldUseASCIISet rfl rfl rfl sim_strings_shouldUseASCIISet

noncomputable def strings_makeASCIISet (a0 : Str) : Option ((Ar Bool 256) × Bool) :=
 (iter (fun (s2 : (Int × (Ar Bool 256))) =>
 if (decide (s2.1 < (a0.length : Int))) = true then
 (idx a0 s2.1).bind fun x6 =>
 let x7 := decide (((128 : UInt8).toNat : Int) ≤ (x6.toNat : Int))
 if x7 = true then
 (some (s2.2, false)).map fun r => .inr (.inr r)
 else
 (idxN 256 (x6.toNat : Int)).bind fun x10 =>
 (if x10 < 256 then some (s2.2.set x10 true) else none).bind fun x11 =>
 some (.inl (IntKind.i64.wrap (s2.1 + 1), x11))
 else
 some (.inr (.inl s2.2))) (0, (T.arr 256 T.b).z)).bind (Sum.elim (fun (p3 : (Ar Bool 256)) =>
 some (p3, true)) some)
noncomputable def sim_strings_makeASCIISet (a : Res [T.str]) : Sim tb ⟨argsT [T.str] 0 a, []⟩ c_strings_makeASCIISet.body [] (QRes [(T.arr 256 T.b), T.b] c_strings_makeASCIISet.res) :=
 Sim.seqI <| Sim.opM (M_alloc (t := (T.arr 256 T.b)) 2 rfl rfl) fun x1 =>
 Sim.op1 (h_mv o_b) <|
 Sim.doneS <| Sim.seqI <| Sim.seqI <| Sim.op1 (h_mv o_i) <|
 Sim.doneS <| Sim.blkI <| Sim.loop (id := 0) (σ := (Int × (Ar Bool 256))) (τ := (Ar Bool 256)) (fun s2 => ⟨[(0, .val T.str a), (2, .cp 2 0), (4, .val (T.int .i64) s2.1)], [(2, .cells [(256, .val (T.arr 256 T.b) s2.2)])]⟩) (fun p3 => ⟨[(2, .cp 2 0)], [(2, .cells [(256, .val (T.arr 256 T.b) p3)])]⟩) (0, x1) ⟨⟨⟨rfl, trivial⟩, ⟨⟨rfl, trivial⟩, ⟨⟨rfl, trivial⟩, trivial⟩⟩⟩, ⟨⟨rfl, ⟨trivial, trivial⟩⟩, trivial⟩⟩ (fun _ => rfl) (fun s2 =>
 Sim.seqI <| Sim.seqI <| Sim.op1 (h_mv (o_t rfl)) <|
 Sim.op1 (h_mv (o_t rfl)) <|
 Sim.op (h_lens (o_t rfl)) fun x4 =>
 Sim.op (h_cmp (I := (IT.int .i64)) rfl (o_t rfl) (o_t rfl)) fun x5 =>
 Sim.doneS <| Sim.cond (o_t rfl) (
 Sim.skip <| Sim.doneS <| Sim.seqI <| Sim.blkI <| Sim.seqI <| Sim.op1 (h_mv (o_t rfl)) <|
 Sim.op1 (h_mv (o_t rfl)) <|
 Sim.op (h_ixs (o_t rfl) (o_t rfl)) fun x6 =>
 Sim.op1 (h_mv (o_t rfl)) <|
 Sim.doneS <| Sim.seqI <| Sim.seqI <| Sim.op1 (h_mv (o_t rfl)) <|
 Sim.op (h_cmp (I := IT.u8) rfl (o_t rfl) (o_u8 128 rfl)) fun x7 =>
 Sim.doneS <| Sim.cond (o_t rfl) (
 Sim.seqI <| Sim.opn (h_ldC (t := (T.arr 256 T.b)) (u := (T.arr 256 T.b)) (o_t rfl) rfl rfl (Fld.id _) rfl rfl) fun x8 =>
 Sim.opM (M_stC (o_t rfl) (o_t rfl) rfl rfl (Fld.id _) rfl) fun x9 =>
 Sim.op1 (h_mv o_b) <|
 Sim.doneS <| Sim.outRet <| Sim.ret (.cons (res_c rfl rfl rfl (Fld.id _) rfl rfl) <| .one (res_t rfl))) (
 Sim.skip <| Sim.doneS <| Sim.op1 (h_mv (o_t rfl)) <|
 Sim.op (h_iaaC (o_t rfl) (o_n8 (o_t rfl))) fun x10 =>
 Sim.opM (M_stA (s := (T.arr 256 T.b)) (Fld.id _) rfl (o_t rfl) o_b rfl rfl) fun x11 =>
 Sim.doneB <| Sim.doneS <| Sim.op1 (h_mv (o_t rfl)) <|
 Sim.op (h_add (I := (IT.int .i64)) (o_t rfl) o_i) fun x12 =>
 Sim.op1 (h_mv (o_t rfl)) <|
 Sim.next (x12, x11) ⟨⟨⟨rfl, trivial⟩, ⟨⟨rfl, trivial⟩, ⟨⟨rfl, trivial⟩, trivial⟩⟩⟩, ⟨⟨rfl, ⟨trivial, trivial⟩⟩, trivial⟩⟩)) (
 Sim.exitS <| Sim.out s2.2 ⟨⟨⟨rfl, trivial⟩, trivial⟩, ⟨⟨rfl, ⟨trivial, trivial⟩⟩, trivial⟩⟩)) (fun p3 =>
 Sim.exitB <| Sim.doneS <| Sim.seqI <| Sim.opn (h_ldC (t := (T.arr 256 T.b)) (u := (T.arr 256 T.b)) (o_t rfl) rfl rfl (Fld.id _) rfl rfl) fun x13 =>
 Sim.opM (M_stC (o_t rfl) (o_t rfl) rfl rfl (Fld.id _) rfl) fun x14 =>
 Sim.op1 (h_mv o_b) <|
 Sim.doneS <| Sim.ret (.cons (res_c rfl rfl rfl (Fld.id _) rfl rfl) <| .one (res_t rfl)))
theorem sp_strings_makeASCIISet : Spec tb fn_strings_makeASCIISet [T.str] [(T.arr 256 T.b), T.b] (fun a => strings_makeASCIISet a) :=
  Spec.of f_strings_makeASCIISet rfl rfl rfl sim_strings_makeASCIISet

noncomputable def p_strings_asciiSet_contains (a0 : (Option (Ar Bool 256))) (a1 : UInt8) : Option Bool :=
 (a0).bind fun x1 =>
 (idx x1.l (a1.toNat : Int)).bind fun x2 =>
 some x2
noncomputable def sim_p_strings_asciiSet_contains (a : Res [(T.ref (T.arr 256 T.b)), T.u8]) : Sim tb ⟨argsT [(T.ref (T.arr 256 T.b)), T.u8] 0 a, []⟩ c_p_strings_asciiSet_contains.body [] (QRes [T.b] c_p_strings_asciiSet_contains.res) :=
 Sim.seqI <| Sim.op1 (h_mv o_b) <|
 Sim.doneS <| Sim.seqI <| Sim.op1 (h_mv (o_t rfl)) <|
 Sim.op1 (h_mv (o_t rfl)) <|
 Sim.op (h_nilR (o_t rfl)) fun x1 =>
 Sim.op (h_iaa rfl rfl (o_t rfl) (o_n8 (o_t rfl))) fun x2 =>
 Sim.opn (h_ld rfl rfl (o_t rfl)) fun x3 =>
 Sim.op1 (h_mv (o_t rfl)) <|
 Sim.doneS <| Sim.ret (.one (res_t rfl))
theorem sp_p_strings_asciiSet_contains : Spec tb fn_p_strings_asciiSet_contains [(T.ref (T.arr 256 T.b)), T.u8] [T.b] (fun a => p_strings_asciiSet_contains a.1 a.2) :=
  Spec.of f_p_strings_asciiSet_contains rfl rfl rfl sim_p_strings_asciiSet_contains

noncomputable def strings_IndexAny (a0 : Str) (a1 : Str) : Option Int :=
 if (decide (a1 = [])) = true then
 some (-1)
 else
 if (decide ((a1.length : Int) = 1)) = true then
 (idx a1 0).bind fun x4 =>
 (fun (k8 : Int → Option _) => if (decide (128 ≤ IntKind.i32.wrap (x4.toNat : Int))) = true then
 k8 65533
 else
 k8 (IntKind.i32.wrap (x4.toNat : Int))) fun p7 =>
 (strings_IndexRune a0 p7).bind fun x9 =>
 some x9
 else
 (strings_shouldUseASCIISet (a0.length : Int)).bind fun x11 =>
 (fun (k13 : Unit → Option _) => if x11 = true then
 (strings_makeASCIISet a1).bind fun x21 =>
 if x21.2 = true then
 (iter (fun (s26 : Int) =>
 if (decide (s26 < (a0.length : Int))) = true then
 (idx a0 s26).bind fun x30 =>
 (p_strings_asciiSet_contains (some x21.1) x30).bind fun x31 =>
 if x31 = true then
 (some s26).map fun r => .inr (.inr r)
 else
 some (.inl (IntKind.i64.wrap (s26 + 1)))
 else
 some (.inr (.inl ()))) 0).bind (Sum.elim (fun (p27 : Unit) =>
 some (-1)) some)
 else
 k13 ()
 else
 k13 ()) fun p12 =>
 (iter (fun (s14 : Nat) =>
 if s14 < a0.length then
 let x16 := runeAt a0 s14
 (strings_IndexRune a1 x16.1).bind fun x19 =>
 if (decide (0 ≤ x19)) = true then
 (some ((s14 : Nat) : Int)).map fun r => .inr (.inr r)
 else
 some (.inl (s14 + x16.2))
 else
 some (.inr (.inl ()))) 0).bind (Sum.elim (fun (p15 : Unit) =>
 some (-1)) some)
noncomputable def sim_strings_IndexAny (a : Res [T.str, T.str]) : Sim tb ⟨argsT [T.str, T.str] 0 a, []⟩ c_strings_IndexAny.body [] (QRes [(T.int .i64)] c_strings_IndexAny.res) :=
 Sim.seqI <| Sim.op1 (h_mv o_i) <|
 Sim.doneS <| Sim.seqI <| Sim.seqI <| Sim.op1 (h_mv (o_t rfl)) <|
 Sim.op (h_seql (o_t rfl) o_s) fun x1 =>
 Sim.doneS <| Sim.cond (o_t rfl) (
 Sim.seqI <| Sim.op1 (h_mv o_i) <|
 Sim.doneS <| Sim.ret (.one (res_t rfl))) (
 Sim.skip <| Sim.doneS <| Sim.seqI <| Sim.seqI <| Sim.op1 (h_mv (o_t rfl)) <|
 Sim.op (h_lens (o_t rfl)) fun x2 =>
 Sim.op (h_cmp (I := (IT.int .i64)) rfl (o_t rfl) o_i) fun x3 =>
 Sim.doneS <| Sim.cond (o_t rfl) (
 Sim.seqI <| Sim.op1 (h_mv (o_t rfl)) <|
 Sim.op (h_ixs (o_t rfl) o_i) fun x4 =>
 Sim.op (h_cvi (I := IT.u8) (J := (IT.int .i32)) rfl (o_t rfl)) fun x5 =>
 Sim.op1 (h_mv (o_t rfl)) <|
 Sim.doneS <| Sim.seqI <| Sim.seqI <| Sim.op1 (h_mv (o_t rfl)) <|
 Sim.op (h_cmp (I := (IT.int .i32)) rfl (o_t rfl) o_i) fun x6 =>
 Sim.doneS <| Sim.join (τ := Int) (fun p7 => ⟨[(0, .val T.str a.1), (5, .val (T.int .i32) p7)], []⟩) (fun p7 =>
 Sim.doneS <| Sim.seqI <| Sim.op1 (h_mv (o_t rfl)) <|
 Sim.op1 (h_mv (o_t rfl)) <|
 Sim.op (h_call1 sp_strings_IndexRune (.cons (o_t rfl) <| .one (o_t rfl))) fun x9 =>
 Sim.op1 (h_mv (o_t rfl)) <|
 Sim.doneS <| Sim.ret (.one (res_t rfl))) fun k8 => Sim.cond (o_t rfl) (
 Sim.op1 (h_mv o_i) <|
 Sim.weak (k8 65533) ⟨⟨⟨rfl, trivial⟩, ⟨⟨rfl, trivial⟩, trivial⟩⟩, trivial⟩) (
 Sim.skip <| Sim.weak (k8 x5) ⟨⟨⟨rfl, trivial⟩, ⟨⟨rfl, trivial⟩, trivial⟩⟩, trivial⟩)) (
 Sim.skip <| Sim.doneS <| Sim.seqI <| Sim.seqI <| Sim.op1 (h_mv (o_t rfl)) <|
 Sim.op (h_lens (o_t rfl)) fun x10 =>
 Sim.op (h_call1 sp_strings_shouldUseASCIISet (.one (o_t rfl))) fun x11 =>
 Sim.doneS <| Sim.join (τ := Unit) (fun p12 => ⟨[(0, .val T.str a.1), (1, .val T.str a.2)], []⟩) (fun p12 =>
 Sim.doneS <| Sim.seqI <| Sim.seqI <| Sim.op1 (h_mv (o_t rfl)) <|
 Sim.opM (M_rng 1045 rfl (o_t rfl)) fun _ =>
 Sim.doneS <| Sim.blkI <| Sim.loop (id := 2) (σ := Nat) (τ := Unit) (fun s14 => ⟨[(1, .val T.str a.2), (45, .own 1045)], [(1045, .dom DIter (a.1, s14))]⟩) (fun p15 => ⟨[], []⟩) 0 ⟨⟨⟨rfl, trivial⟩, ⟨⟨rfl, trivial⟩, trivial⟩⟩, ⟨⟨rfl, trivial⟩, trivial⟩⟩ (fun _ => rfl) (fun s14 =>
 Sim.seqI <| Sim.nxt (o_t rfl) rfl (fun x16 =>
 Sim.op1 (h_ext (o_t rfl) rfl) <|
 Sim.doneS <| Sim.seqI <| Sim.condT (o_t rfl) <|
 Sim.skip <| Sim.doneS <| Sim.blkI <| Sim.seqI <| Sim.opn (h_ext (o_t rfl) rfl) fun x17 =>
 Sim.opn (h_ext (o_t rfl) rfl) fun x18 =>
 Sim.op1 (h_mv (o_t rfl)) <|
 Sim.op1 (h_mv (o_t rfl)) <|
 Sim.doneS <| Sim.seqI <| Sim.op1 (h_mv (o_t rfl)) <|
 Sim.op1 (h_mv (o_t rfl)) <|
 Sim.op (h_call1 sp_strings_IndexRune (.cons (o_t rfl) <| .one (o_t rfl))) fun x19 =>
 Sim.op (h_cmp (I := (IT.int .i64)) rfl (o_t rfl) o_i) fun x20 =>
 Sim.doneS <| Sim.cond (o_t rfl) (
 Sim.seqI <| Sim.op1 (h_mv (o_t rfl)) <|
 Sim.op1 (h_mv (o_t rfl)) <|
 Sim.doneS <| Sim.outRet <| Sim.ret (.one (res_t rfl))) (
 Sim.skip <| Sim.doneB <| Sim.next (s14 + x16.2) ⟨⟨⟨rfl, trivial⟩, ⟨⟨rfl, trivial⟩, trivial⟩⟩, ⟨⟨rfl, trivial⟩, trivial⟩⟩)) (
 Sim.op1 (h_ext (o_t rfl) rfl) <|
 Sim.doneS <| Sim.seqI <| Sim.condF (o_t rfl) <|
 Sim.exitS <| Sim.out () ⟨trivial, trivial⟩)) (fun p15 =>
 Sim.exitB <| Sim.doneS <| Sim.seqI <| Sim.op1 (h_mv o_i) <|
 Sim.doneS <| Sim.ret (.one (res_t rfl)))) fun k13 => Sim.cond (o_t rfl) (
 Sim.seqI <| Sim.op1 (h_mv (o_t rfl)) <|
 Sim.op (h_callN sp_strings_makeASCIISet (.one (o_t rfl))) fun x21 =>
 Sim.op1 (h_mv (o_t rfl)) <|
 Sim.opn (h_ext (o_t rfl) rfl) fun x22 =>
 Sim.opn (h_ext (o_t rfl) rfl) fun x23 =>
 Sim.opM (M_alloc (t := (T.arr 256 T.b)) 6 rfl rfl) fun x24 =>
 Sim.opM (M_stC (o_t rfl) (o_t rfl) rfl rfl (Fld.id _) rfl) fun x25 =>
 Sim.op1 (h_mv (o_t rfl)) <|
 Sim.doneS <| Sim.seqI <| Sim.op1 (h_mv (o_t rfl)) <|
 Sim.doneS <| Sim.cond (o_t rfl) (
 Sim.seqI <| Sim.seqI <| Sim.op1 (h_mv o_i) <|
 Sim.doneS <| Sim.blkI <| Sim.loop (id := 0) (σ := Int) (τ := Unit) (fun s26 => ⟨[(0, .val T.str a.1), (6, .cp 6 0), (8, .val (T.int .i64) s26)], [(6, .cells [(256, .val (T.arr 256 T.b) x25)])]⟩) (fun p27 => ⟨[], []⟩) 0 ⟨⟨⟨rfl, trivial⟩, ⟨⟨rfl, trivial⟩, ⟨⟨rfl, trivial⟩, trivial⟩⟩⟩, ⟨⟨rfl, ⟨trivial, trivial⟩⟩, trivial⟩⟩ (fun _ => rfl) (fun s26 =>
 Sim.seqI <| Sim.seqI <| Sim.op1 (h_mv (o_t rfl)) <|
 Sim.op1 (h_mv (o_t rfl)) <|
 Sim.op (h_lens (o_t rfl)) fun x28 =>
 Sim.op (h_cmp (I := (IT.int .i64)) rfl (o_t rfl) (o_t rfl)) fun x29 =>
 Sim.doneS <| Sim.cond (o_t rfl) (
 Sim.skip <| Sim.doneS <| Sim.seqI <| Sim.blkI <| Sim.seqI <| Sim.op1 (h_mv (o_t rfl)) <|
 Sim.op1 (h_mv (o_t rfl)) <|
 Sim.op (h_ixs (o_t rfl) (o_t rfl)) fun x30 =>
 Sim.op (h_callR1 sp_p_strings_asciiSet_contains (.cons flat_b .nil) (.cons (a_p (o_t rfl) rfl rfl) <| .one (a_v (o_t rfl)))) fun x31 =>
 Sim.doneS <| Sim.cond (o_t rfl) (
 Sim.seqI <| Sim.op1 (h_mv (o_t rfl)) <|
 Sim.op1 (h_mv (o_t rfl)) <|
 Sim.doneS <| Sim.outRet <| Sim.ret (.one (res_t rfl))) (
 Sim.skip <| Sim.doneB <| Sim.doneS <| Sim.op1 (h_mv (o_t rfl)) <|
 Sim.op (h_add (I := (IT.int .i64)) (o_t rfl) o_i) fun x32 =>
 Sim.op1 (h_mv (o_t rfl)) <|
 Sim.next x32 ⟨⟨⟨rfl, trivial⟩, ⟨⟨rfl, trivial⟩, ⟨⟨rfl, trivial⟩, trivial⟩⟩⟩, ⟨⟨rfl, ⟨trivial, trivial⟩⟩, trivial⟩⟩)) (
 Sim.exitS <| Sim.out () ⟨trivial, trivial⟩)) (fun p27 =>
 Sim.exitB <| Sim.doneS <| Sim.seqI <| Sim.op1 (h_mv o_i) <|
 Sim.doneS <| Sim.ret (.one (res_t rfl)))) (
 Sim.skip <| Sim.weak (k13 ()) ⟨⟨⟨rfl, trivial⟩, ⟨⟨rfl, trivial⟩, trivial⟩⟩, trivial⟩)) (
 Sim.skip <| Sim.weak (k13 ()) ⟨⟨⟨rfl, trivial⟩, ⟨⟨rfl, trivial⟩, trivial⟩⟩, trivial⟩)))
theorem sp_strings_IndexAny : Spec tb fn_strings_IndexAny [T.str, T.str] [(T.int .i64)] (fun a => strings_IndexAny a.1 a.2) :=
  Spec.of f_strings_IndexAny rfl rfl rfl sim_strings_IndexAny

end Go.Proofs.YtopgecohakediaaDoor.Am
