/-
  What functions compute, and that they do. Printed by mkwalk.py.
-/
import Derived.Test.YtggdinpopddhnaaDoorWk2
set_option linter.unusedVariables false
set_option maxRecDepth 100000
namespace Go.Proofs.YtggdinpopddhnaaDoor.Am

noncomputable def r06_blank (a0 : UInt8) : Option Bool :=
 let x1 := decide ((a0.toNat : Int) = ((32 : UInt8).toNat : Int))
 (orO x1 (let x2 := decide ((a0.toNat : Int) = ((9 : UInt8).toNat : Int))
 some x2)).bind fun x3 =>
 (orO x3 (let x4 := decide ((a0.toNat : Int) = ((13 : UInt8).toNat : Int))
 some x4)).bind fun x5 =>
 some x5
noncomputable def sim_r06_blank (a : Res [T.u8]) : Sim tb ⟨argsT [T.u8] 0 a, []⟩ c_r06_blank.body [] (QRes [T.b] c_r06_blank.res) :=
 Sim.seqI <| Sim.op1 (h_mv o_b) <|
 Sim.doneS <| Sim.seqI <| Sim.op1 (h_mv (o_t rfl)) <|
 Sim.op (h_cmp (I := IT.u8) rfl (o_t rfl) (o_u8 32 rfl)) fun x1 =>
 Sim.op1 (h_mv (o_t rfl)) <|
 Sim.or 2 rfl rfl rfl (Grp.op1 (h_mv (o_t rfl)) <|
 Grp.op (h_cmp (I := IT.u8) rfl (o_t rfl) (o_u8 9 rfl)) fun x2 =>
 Grp.nil (o_t rfl)) fun x3 =>
 Sim.op1 (h_mv (o_t rfl)) <|
 Sim.or 2 rfl rfl rfl (Grp.op1 (h_mv (o_t rfl)) <|
 Grp.op (h_cmp (I := IT.u8) rfl (o_t rfl) (o_u8 13 rfl)) fun x4 =>
 Grp.nil (o_t rfl)) fun x5 =>
 Sim.op1 (h_mv (o_t rfl)) <|
 Sim.doneS <| Sim.ret (.one (res_t rfl))
theorem sp_r06_blank : Spec tb fn_r06_blank [T.u8] [T.b] (fun a => r06_blank a) :=
  Spec.of f_r06_blank rfl rfl rfl sim_r06_blank

noncomputable def r06_Trim (a0 : Str) : Option Str :=
 (iter (fun (s1 : Str) =>
 (andO (decide (0 < (s1.length : Int))) ((idx s1 0).bind fun x5 =>
 (r06_blank x5).bind fun x6 =>
 some x6)).bind fun x7 =>
 if x7 = true then
 (subL s1 (some 1) none).bind fun x8 =>
 some (.inl x8)
 else
 some (.inr (.inl s1))) a0).bind (Sum.elim (fun (p2 : Str) =>
 (iter (fun (s9 : Str) =>
 (andO (decide (0 < (s9.length : Int))) ((idx s9 (IntKind.i64.wrap ((s9.length : Int) - 1))).bind fun x15 =>
 (r06_blank x15).bind fun x16 =>
 some x16)).bind fun x17 =>
 if x17 = true then
 (subL s9 none (some (IntKind.i64.wrap ((s9.length : Int) - 1)))).bind fun x20 =>
 some (.inl x20)
 else
 some (.inr (.inl s9))) p2).bind (Sum.elim (fun (p10 : Str) =>
 some p10) some)) some)
noncomputable def sim_r06_Trim (a : Res [T.str]) : Sim tb ⟨argsT [T.str] 0 a, []⟩ c_r06_Trim.body [] (QRes [T.str] c_r06_Trim.res) :=
 Sim.seqI <| Sim.op1 (h_mv o_s) <|
 Sim.doneS <| Sim.seqI <| Sim.blkI <| Sim.loop (id := 0) (σ := Str) (τ := Str) (fun s1 => ⟨[(0, .val T.str s1)], []⟩) (fun p2 => ⟨[(0, .val T.str p2)], []⟩) a ⟨⟨⟨rfl, trivial⟩, trivial⟩, trivial⟩ (fun _ => rfl) (fun s1 =>
 Sim.seqI <| Sim.seqI <| Sim.op1 (h_mv (o_t rfl)) <|
 Sim.op (h_lens (o_t rfl)) fun x3 =>
 Sim.op (h_cmp (I := (IT.int .i64)) rfl (o_t rfl) o_i) fun x4 =>
 Sim.op1 (h_mv (o_t rfl)) <|
 Sim.and 3 rfl rfl rfl (Grp.op1 (h_mv (o_t rfl)) <|
 Grp.op (h_ixs (o_t rfl) o_i) fun x5 =>
 Grp.op (h_call1 sp_r06_blank (.one (o_t rfl))) fun x6 =>
 Grp.nil (o_t rfl)) fun x7 =>
 Sim.doneS <| Sim.cond (o_t rfl) (
 Sim.skip <| Sim.doneS <| Sim.blkI <| Sim.op1 (h_mv (o_t rfl)) <|
 Sim.op (h_sls (o_t rfl) (.some o_i) .none) fun x8 =>
 Sim.op1 (h_mv (o_t rfl)) <|
 Sim.doneB <| Sim.next x8 ⟨⟨⟨rfl, trivial⟩, trivial⟩, trivial⟩) (
 Sim.exitS <| Sim.out s1 ⟨⟨⟨rfl, trivial⟩, trivial⟩, trivial⟩)) (fun p2 =>
 Sim.exitB <| Sim.doneS <| Sim.seqI <| Sim.blkI <| Sim.loop (id := 2) (σ := Str) (τ := Str) (fun s9 => ⟨[(0, .val T.str s9)], []⟩) (fun p10 => ⟨[(0, .val T.str p10)], []⟩) p2 ⟨⟨⟨rfl, trivial⟩, trivial⟩, trivial⟩ (fun _ => rfl) (fun s9 =>
 Sim.seqI <| Sim.seqI <| Sim.op1 (h_mv (o_t rfl)) <|
 Sim.op (h_lens (o_t rfl)) fun x11 =>
 Sim.op (h_cmp (I := (IT.int .i64)) rfl (o_t rfl) o_i) fun x12 =>
 Sim.op1 (h_mv (o_t rfl)) <|
 Sim.and 6 rfl rfl rfl (Grp.op1 (h_mv (o_t rfl)) <|
 Grp.op1 (h_mv (o_t rfl)) <|
 Grp.op (h_lens (o_t rfl)) fun x13 =>
 Grp.op (h_sub (I := (IT.int .i64)) (o_t rfl) o_i) fun x14 =>
 Grp.op (h_ixs (o_t rfl) (o_t rfl)) fun x15 =>
 Grp.op (h_call1 sp_r06_blank (.one (o_t rfl))) fun x16 =>
 Grp.nil (o_t rfl)) fun x17 =>
 Sim.doneS <| Sim.cond (o_t rfl) (
 Sim.skip <| Sim.doneS <| Sim.blkI <| Sim.op1 (h_mv (o_t rfl)) <|
 Sim.op1 (h_mv (o_t rfl)) <|
 Sim.op (h_lens (o_t rfl)) fun x18 =>
 Sim.op (h_sub (I := (IT.int .i64)) (o_t rfl) o_i) fun x19 =>
 Sim.op (h_sls (o_t rfl) .none (.some (o_t rfl))) fun x20 =>
 Sim.op1 (h_mv (o_t rfl)) <|
 Sim.doneB <| Sim.next x20 ⟨⟨⟨rfl, trivial⟩, trivial⟩, trivial⟩) (
 Sim.exitS <| Sim.out s9 ⟨⟨⟨rfl, trivial⟩, trivial⟩, trivial⟩)) (fun p10 =>
 Sim.exitB <| Sim.doneS <| Sim.seqI <| Sim.op1 (h_mv (o_t rfl)) <|
 Sim.op1 (h_mv (o_t rfl)) <|
 Sim.doneS <| Sim.ret (.one (res_t rfl))))
theorem sp_r06_Trim : Spec tb fn_r06_Trim [T.str] [T.str] (fun a => r06_Trim a) :=
  Spec.of f_r06_Trim rfl rfl rfl sim_r06_Trim

noncomputable def r06_Fold (a0 : Str) : Option Str :=
 (iter (fun (s1 : (Str × Int)) =>
 if (decide (s1.2 < (a0.length : Int))) = true then
 (idx a0 s1.2).bind fun x5 =>
 let x6 := decide (((65 : UInt8).toNat : Int) ≤ (x5.toNat : Int))
 (andO x6 (let x7 := decide ((x5.toNat : Int) ≤ ((90 : UInt8).toNat : Int))
 some x7)).bind fun x8 =>
 (fun (k10 : UInt8 → Option _) => if x8 = true then
 let x15 := IT.u8.ofI ((x5.toNat : Int) + ((32 : UInt8).toNat : Int))
 k10 x15
 else
 k10 x5) fun p9 =>
 (if s1.1.length + ([p9]).length ≤ 2 * most then some (s1.1 ++ [p9]) else none).bind fun x13 =>
 some (.inl (x13, IntKind.i64.wrap (s1.2 + 1)))
 else
 some (.inr (.inl s1.1))) ([], 0)).bind (Sum.elim (fun (p2 : Str) =>
 some p2) some)
noncomputable def sim_r06_Fold (a : Res [T.str]) : Sim tb ⟨argsT [T.str] 0 a, []⟩ c_r06_Fold.body [] (QRes [T.str] c_r06_Fold.res) :=
 Sim.seqI <| Sim.op1 (h_mv o_s) <|
 Sim.doneS <| Sim.seqI <| Sim.op1 (h_mv o_s) <|
 Sim.doneS <| Sim.seqI <| Sim.seqI <| Sim.op1 (h_mv o_i) <|
 Sim.doneS <| Sim.blkI <| Sim.loop (id := 0) (σ := (Str × Int)) (τ := Str) (fun s1 => ⟨[(0, .val T.str a), (3, .val T.str s1.1), (4, .val (T.int .i64) s1.2)], []⟩) (fun p2 => ⟨[(3, .val T.str p2)], []⟩) ([], 0) ⟨⟨⟨rfl, trivial⟩, ⟨⟨rfl, trivial⟩, ⟨⟨rfl, trivial⟩, trivial⟩⟩⟩, trivial⟩ (fun _ => rfl) (fun s1 =>
 Sim.seqI <| Sim.seqI <| Sim.op1 (h_mv (o_t rfl)) <|
 Sim.op1 (h_mv (o_t rfl)) <|
 Sim.op (h_lens (o_t rfl)) fun x3 =>
 Sim.op (h_cmp (I := (IT.int .i64)) rfl (o_t rfl) (o_t rfl)) fun x4 =>
 Sim.doneS <| Sim.cond (o_t rfl) (
 Sim.skip <| Sim.doneS <| Sim.seqI <| Sim.blkI <| Sim.seqI <| Sim.op1 (h_mv (o_t rfl)) <|
 Sim.op1 (h_mv (o_t rfl)) <|
 Sim.op (h_ixs (o_t rfl) (o_t rfl)) fun x5 =>
 Sim.op1 (h_mv (o_t rfl)) <|
 Sim.doneS <| Sim.seqI <| Sim.seqI <| Sim.op1 (h_mv (o_t rfl)) <|
 Sim.op (h_cmp (I := IT.u8) rfl (o_t rfl) (o_u8 65 rfl)) fun x6 =>
 Sim.op1 (h_mv (o_t rfl)) <|
 Sim.and 2 rfl rfl rfl (Grp.op1 (h_mv (o_t rfl)) <|
 Grp.op (h_cmp (I := IT.u8) rfl (o_t rfl) (o_u8 90 rfl)) fun x7 =>
 Grp.nil (o_t rfl)) fun x8 =>
 Sim.doneS <| Sim.join (τ := UInt8) (fun p9 => ⟨[(0, .val T.str a), (3, .val T.str s1.1), (4, .val (T.int .i64) s1.2), (5, .val T.u8 p9)], []⟩) (fun p9 =>
 Sim.doneS <| Sim.op1 (h_mv (o_t rfl)) <|
 Sim.op1 (h_mv (o_t rfl)) <|
 Sim.opM (M_bls (t := T.u8) (n := 1) 1025 rfl rfl (.cons rfl (o_t rfl) <| .nil _) rfl) fun x11 =>
 Sim.op (h_cvsO (o_t rfl) rfl) fun x12 =>
 Sim.op (h_sadd (o_t rfl) (o_t rfl)) fun x13 =>
 Sim.op1 (h_mv (o_t rfl)) <|
 Sim.doneB <| Sim.doneS <| Sim.op1 (h_mv (o_t rfl)) <|
 Sim.op (h_add (I := (IT.int .i64)) (o_t rfl) o_i) fun x14 =>
 Sim.op1 (h_mv (o_t rfl)) <|
 Sim.next (x13, x14) ⟨⟨⟨rfl, trivial⟩, ⟨⟨rfl, trivial⟩, ⟨⟨rfl, trivial⟩, trivial⟩⟩⟩, trivial⟩) fun k10 => Sim.cond (o_t rfl) (
 Sim.op1 (h_mv (o_t rfl)) <|
 Sim.op (h_add (I := IT.u8) (o_t rfl) (o_u8 32 rfl)) fun x15 =>
 Sim.op1 (h_mv (o_t rfl)) <|
 Sim.weak (k10 x15) ⟨⟨⟨rfl, trivial⟩, ⟨⟨rfl, trivial⟩, ⟨⟨rfl, trivial⟩, ⟨⟨rfl, trivial⟩, trivial⟩⟩⟩⟩, trivial⟩) (
 Sim.skip <| Sim.weak (k10 x5) ⟨⟨⟨rfl, trivial⟩, ⟨⟨rfl, trivial⟩, ⟨⟨rfl, trivial⟩, ⟨⟨rfl, trivial⟩, trivial⟩⟩⟩⟩, trivial⟩)) (
 Sim.exitS <| Sim.out s1.1 ⟨⟨⟨rfl, trivial⟩, trivial⟩, trivial⟩)) (fun p2 =>
 Sim.exitB <| Sim.doneS <| Sim.seqI <| Sim.op1 (h_mv (o_t rfl)) <|
 Sim.op1 (h_mv (o_t rfl)) <|
 Sim.doneS <| Sim.ret (.one (res_t rfl)))
theorem sp_r06_Fold : Spec tb fn_r06_Fold [T.str] [T.str] (fun a => r06_Fold a) :=
  Spec.of f_r06_Fold rfl rfl rfl sim_r06_Fold

noncomputable def l06_LinesTrim (a0 : Str) : Option Bool :=
 if (decide (300 < (a0.length : Int))) = true then
 (l06_alive ()).bind fun x3 =>
 some x3
 else
 (lines_Trim a0).bind fun x4 =>
 (lines_Fold a0).bind fun x5 =>
 (r06_Trim a0).bind fun x6 =>
 (andO (decide (x4 = x6)) ((lines_Trim x4).bind fun x8 =>
 some (decide (x8 = x4)))).bind fun x10 =>
 (andO x10 ((r06_Fold a0).bind fun x11 =>
 some (decide (x5 = x11)))).bind fun x13 =>
 (andO x13 ((lines_Fold x5).bind fun x14 =>
 some (decide (x14 = x5)))).bind fun x16 =>
 (andO x16 ((l06_alive ()).bind fun x17 =>
 some x17)).bind fun x18 =>
 some x18
noncomputable def sim_l06_LinesTrim (a : Res [T.str]) : Sim tb ⟨argsT [T.str] 0 a, []⟩ c_l06_LinesTrim.body [] (QRes [T.b] c_l06_LinesTrim.res) :=
 Sim.seqI <| Sim.op1 (h_mv o_b) <|
 Sim.doneS <| Sim.seqI <| Sim.seqI <| Sim.op1 (h_mv (o_t rfl)) <|
 Sim.op (h_lens (o_t rfl)) fun x1 =>
 Sim.op (h_cmp (I := (IT.int .i64)) rfl (o_t rfl) o_i) fun x2 =>
 Sim.doneS <| Sim.cond (o_t rfl) (
 Sim.seqI <| Sim.op (h_call1 sp_l06_alive (.nil)) fun x3 =>
 Sim.op1 (h_mv (o_t rfl)) <|
 Sim.doneS <| Sim.ret (.one (res_t rfl))) (
 Sim.skip <| Sim.doneS <| Sim.seqI <| Sim.op1 (h_mv (o_t rfl)) <|
 Sim.op (h_call1 sp_lines_Trim (.one (o_t rfl))) fun x4 =>
 Sim.op1 (h_mv (o_t rfl)) <|
 Sim.doneS <| Sim.seqI <| Sim.op1 (h_mv (o_t rfl)) <|
 Sim.op (h_call1 sp_lines_Fold (.one (o_t rfl))) fun x5 =>
 Sim.op1 (h_mv (o_t rfl)) <|
 Sim.doneS <| Sim.seqI <| Sim.op1 (h_mv (o_t rfl)) <|
 Sim.op1 (h_mv (o_t rfl)) <|
 Sim.op (h_call1 sp_r06_Trim (.one (o_t rfl))) fun x6 =>
 Sim.op (h_seql (o_t rfl) (o_t rfl)) fun x7 =>
 Sim.op1 (h_mv (o_t rfl)) <|
 Sim.and 4 rfl rfl rfl (Grp.op1 (h_mv (o_t rfl)) <|
 Grp.op (h_call1 sp_lines_Trim (.one (o_t rfl))) fun x8 =>
 Grp.op1 (h_mv (o_t rfl)) <|
 Grp.op (h_seql (o_t rfl) (o_t rfl)) fun x9 =>
 Grp.nil (o_t rfl)) fun x10 =>
 Sim.op1 (h_mv (o_t rfl)) <|
 Sim.and 4 rfl rfl rfl (Grp.op1 (h_mv (o_t rfl)) <|
 Grp.op1 (h_mv (o_t rfl)) <|
 Grp.op (h_call1 sp_r06_Fold (.one (o_t rfl))) fun x11 =>
 Grp.op (h_seql (o_t rfl) (o_t rfl)) fun x12 =>
 Grp.nil (o_t rfl)) fun x13 =>
 Sim.op1 (h_mv (o_t rfl)) <|
 Sim.and 4 rfl rfl rfl (Grp.op1 (h_mv (o_t rfl)) <|
 Grp.op (h_call1 sp_lines_Fold (.one (o_t rfl))) fun x14 =>
 Grp.op1 (h_mv (o_t rfl)) <|
 Grp.op (h_seql (o_t rfl) (o_t rfl)) fun x15 =>
 Grp.nil (o_t rfl)) fun x16 =>
 Sim.op1 (h_mv (o_t rfl)) <|
 Sim.and 1 rfl rfl rfl (Grp.op (h_call1 sp_l06_alive (.nil)) fun x17 =>
 Grp.nil (o_t rfl)) fun x18 =>
 Sim.op1 (h_mv (o_t rfl)) <|
 Sim.doneS <| Sim.ret (.one (res_t rfl)))
theorem sp_l06_LinesTrim : Spec tb fn_l06_LinesTrim [T.str] [T.b] (fun a => l06_LinesTrim a) :=
  Spec.of f_l06_LinesTrim rfl rfl rfl sim_l06_LinesTrim

noncomputable def slices_Index_string (a0 : (GS Str)) (a1 : Str) : Option Int :=
 (iter (fun (s2 : Int) =>
 if (decide (s2 < (a0.l.length : Int))) = true then
 (idx a0.l s2).bind fun x5 =>
 if (decide (a1 = x5)) = true then
 (some s2).map fun r => .inr (.inr r)
 else
 some (.inl (IntKind.i64.wrap (s2 + 1)))
 else
 some (.inr (.inl ()))) 0).bind (Sum.elim (fun (p3 : Unit) =>
 some (-1)) some)
noncomputable def sim_slices_Index_string (a : Res [(T.sl T.str), T.str]) : Sim tb ⟨argsT [(T.sl T.str), T.str] 0 a, []⟩ c_slices_Index_string.body [] (QRes [(T.int .i64)] c_slices_Index_string.res) :=
 Sim.seqI <| Sim.op1 (h_mv o_i) <|
 Sim.doneS <| Sim.seqI <| Sim.seqI <| Sim.op1 (h_mv (o_t rfl)) <|
 Sim.op (h_len (o_t rfl)) fun x1 =>
 Sim.op1 (h_mv o_i) <|
 Sim.doneS <| Sim.blkI <| Sim.loop (id := 0) (σ := Int) (τ := Unit) (fun s2 => ⟨[(0, .val (T.sl T.str) a.1), (1, .val T.str a.2), (7, .val (T.int .i64) x1), (8, .val (T.int .i64) s2)], []⟩) (fun p3 => ⟨[], []⟩) 0 ⟨⟨⟨rfl, trivial⟩, ⟨⟨rfl, trivial⟩, ⟨⟨rfl, trivial⟩, ⟨⟨rfl, trivial⟩, trivial⟩⟩⟩⟩, trivial⟩ (fun _ => rfl) (fun s2 =>
 Sim.seqI <| Sim.op (h_cmp (I := (IT.int .i64)) rfl (o_t rfl) (o_t rfl)) fun x4 =>
 Sim.doneS <| Sim.seqI <| Sim.cond (o_t rfl) (
 Sim.skip <| Sim.doneS <| Sim.seqI <| Sim.blkI <| Sim.seqI <| Sim.op1 (h_mv (o_t rfl)) <|
 Sim.op1 (h_mv (o_t rfl)) <|
 Sim.doneS <| Sim.seqI <| Sim.op1 (h_mv (o_t rfl)) <|
 Sim.op1 (h_mv (o_t rfl)) <|
 Sim.op1 (h_mv (o_t rfl)) <|
 Sim.op (h_ias rfl (o_t rfl) (o_t rfl)) fun x5 =>
 Sim.opn (h_ld rfl rfl (o_t rfl)) fun x6 =>
 Sim.op (h_seql (o_t rfl) (o_t rfl)) fun x7 =>
 Sim.doneS <| Sim.cond (o_t rfl) (
 Sim.seqI <| Sim.op1 (h_mv (o_t rfl)) <|
 Sim.op1 (h_mv (o_t rfl)) <|
 Sim.doneS <| Sim.outRet <| Sim.ret (.one (res_t rfl))) (
 Sim.skip <| Sim.doneB <| Sim.doneS <| Sim.op (h_add (I := (IT.int .i64)) (o_t rfl) o_i) fun x8 =>
 Sim.op1 (h_mv (o_t rfl)) <|
 Sim.next x8 ⟨⟨⟨rfl, trivial⟩, ⟨⟨rfl, trivial⟩, ⟨⟨rfl, trivial⟩, ⟨⟨rfl, trivial⟩, trivial⟩⟩⟩⟩, trivial⟩)) (
 Sim.exitS <| Sim.out () ⟨trivial, trivial⟩)) (fun p3 =>
 Sim.exitB <| Sim.doneS <| Sim.seqI <| Sim.op1 (h_mv o_i) <|
 Sim.doneS <| Sim.ret (.one (res_t rfl)))
theorem sp_slices_Index_string : Spec tb fn_slices_Index_string [(T.sl T.str), T.str] [(T.int .i64)] (fun a => slices_Index_string a.1 a.2) :=
  Spec.of f_slices_Index_string rfl rfl rfl sim_slices_Index_string

noncomputable def strings_Contains (a0 : Str) (a1 : Str) : Option Bool :=
 (strings_Index a0 a1).bind fun x1 =>
 some (decide (0 ≤ x1))
noncomputable def sim_strings_Contains (a : Res [T.str, T.str]) : Sim tb ⟨argsT [T.str, T.str] 0 a, []⟩ c_strings_Contains.body [] (QRes [T.b] c_strings_Contains.res) :=
 Sim.seqI <| Sim.op1 (h_mv o_b) <|
 Sim.doneS <| Sim.seqI <| Sim.op1 (h_mv (o_t rfl)) <|
 Sim.op1 (h_mv (o_t rfl)) <|
 Sim.op (h_call1 sp_strings_Index (.cons (o_t rfl) <| .one (o_t rfl))) fun x1 =>
 Sim.op (h_cmp (I := (IT.int .i64)) rfl (o_t rfl) o_i) fun x2 =>
 Sim.op1 (h_mv (o_t rfl)) <|
 Sim.doneS <| Sim.ret (.one (res_t rfl))
theorem sp_strings_Contains : Spec tb fn_strings_Contains [T.str, T.str] [T.b] (fun a => strings_Contains a.1 a.2) :=
  Spec.of f_strings_Contains rfl rfl rfl sim_strings_Contains

noncomputable def pairline_Parse (a0 : Str) : Option (S_pairline_Pair × Int) :=
 if (decide (512 < (a0.length : Int))) = true then
 some ((⟨[], []⟩ : S_pairline_Pair), 4)
 else
 (lines_Cut a0 (61 : UInt8)).bind fun x6 =>
 (orO (!x6.2.2) (some (decide (x6.1 = [])))).bind fun x12 =>
 (orO x12 ((strings_Contains a0 [10]).bind fun x13 =>
 some x13)).bind fun x14 =>
 if x14 = true then
 some ((⟨[], []⟩ : S_pairline_Pair), 5)
 else
 some ((⟨x6.1, x6.2.1⟩ : S_pairline_Pair), 0)
noncomputable def sim_pairline_Parse (a : Res [T.str]) : Sim tb ⟨argsT [T.str] 0 a, []⟩ c_pairline_Parse.body [] (QRes [T_pairline_Pair, (T.int .i64)] c_pairline_Parse.res) :=
 Sim.seqI <| Sim.opM (M_alloc (t := T_pairline_Pair) 2 rfl rfl) fun x1 =>
 Sim.op1 (h_mv o_i) <|
 Sim.doneS <| Sim.seqI <| Sim.seqI <| Sim.op1 (h_mv (o_t rfl)) <|
 Sim.op (h_lens (o_t rfl)) fun x2 =>
 Sim.op (h_cmp (I := (IT.int .i64)) rfl (o_t rfl) o_i) fun x3 =>
 Sim.doneS <| Sim.cond (o_t rfl) (
 Sim.seqI <| Sim.op (h_bld rfl rfl (.nil _)) fun x4 =>
 Sim.opM (M_stC (o_t rfl) (o_t rfl) rfl rfl (Fld.id _) rfl) fun x5 =>
 Sim.op1 (h_mv o_i) <|
 Sim.doneS <| Sim.ret (.cons (res_c rfl rfl rfl (Fld.id _) rfl rfl) <| .one (res_t rfl))) (
 Sim.skip <| Sim.doneS <| Sim.seqI <| Sim.op1 (h_mv (o_t rfl)) <|
 Sim.op (h_callN sp_lines_Cut (.cons (o_t rfl) <| .one (o_u8 61 rfl))) fun x6 =>
 Sim.op1 (h_mv (o_t rfl)) <|
 Sim.opn (h_ext (o_t rfl) rfl) fun x7 =>
 Sim.opn (h_ext (o_t rfl) rfl) fun x8 =>
 Sim.opn (h_ext (o_t rfl) rfl) fun x9 =>
 Sim.op1 (h_mv (o_t rfl)) <|
 Sim.op1 (h_mv (o_t rfl)) <|
 Sim.op1 (h_mv (o_t rfl)) <|
 Sim.doneS <| Sim.seqI <| Sim.seqI <| Sim.op1 (h_mv (o_t rfl)) <|
 Sim.op (h_not (o_t rfl)) fun x10 =>
 Sim.op1 (h_mv (o_t rfl)) <|
 Sim.or 2 rfl rfl rfl (Grp.op1 (h_mv (o_t rfl)) <|
 Grp.op (h_seql (o_t rfl) o_s) fun x11 =>
 Grp.nil (o_t rfl)) fun x12 =>
 Sim.op1 (h_mv (o_t rfl)) <|
 Sim.or 2 rfl rfl rfl (Grp.op1 (h_mv (o_t rfl)) <|
 Grp.op (h_call1 sp_strings_Contains (.cons (o_t rfl) <| .one o_s)) fun x13 =>
 Grp.nil (o_t rfl)) fun x14 =>
 Sim.doneS <| Sim.cond (o_t rfl) (
 Sim.seqI <| Sim.op (h_bld rfl rfl (.nil _)) fun x15 =>
 Sim.opM (M_stC (o_t rfl) (o_t rfl) rfl rfl (Fld.id _) rfl) fun x16 =>
 Sim.op1 (h_mv o_i) <|
 Sim.doneS <| Sim.ret (.cons (res_c rfl rfl rfl (Fld.id _) rfl rfl) <| .one (res_t rfl))) (
 Sim.skip <| Sim.doneS <| Sim.seqI <| Sim.op1 (h_mv (o_t rfl)) <|
 Sim.op1 (h_mv (o_t rfl)) <|
 Sim.op (h_bld rfl rfl (.cons F_pairline_Pair_Key rfl (o_t rfl) <| .cons F_pairline_Pair_Value rfl (o_t rfl) <| .nil _)) fun x17 =>
 Sim.opM (M_stC (o_t rfl) (o_t rfl) rfl rfl (Fld.id _) rfl) fun x18 =>
 Sim.op1 (h_mv o_i) <|
 Sim.doneS <| Sim.ret (.cons (res_c rfl rfl rfl (Fld.id _) rfl rfl) <| .one (res_t rfl))))
theorem sp_pairline_Parse : Spec tb fn_pairline_Parse [T.str] [T_pairline_Pair, (T.int .i64)] (fun a => pairline_Parse a) :=
  Spec.of f_pairline_Parse rfl rfl rfl sim_pairline_Parse

noncomputable def pairline_Read (a0 : Str) : Option ((GS S_pairline_Pair) × Int) :=
 (lines_Split a0).bind fun x1 =>
 (orO (!x1.2) (some (decide ((x1.1.l.length : Int) = 0)))).bind fun x7 =>
 (orO x7 ((slices_Index_string x1.1 []).bind fun x8 =>
 let x11 := !decide (x8 = IntKind.i64.wrap ((x1.1.l.length : Int) - 1))
 some x11)).bind fun x12 =>
 if x12 = true then
 some (.nil, 5)
 else
 (slG x1.1 none (some (IntKind.i64.wrap ((x1.1.l.length : Int) - 1)))).bind fun x15 =>
 if (decide (400 < (x15.l.length : Int))) = true then
 some (.nil, 4)
 else
 (iter (fun (s19 : (Int × (GS S_pairline_Pair))) =>
 if (decide (s19.1 < (x15.l.length : Int))) = true then
 (idx x15.l s19.1).bind fun x22 =>
 (pairline_Parse x22).bind fun x24 =>
 if (!decide (x24.2 = 0)) = true then
 (some (.nil, x24.2)).map fun r => .inr (.inr r)
 else
 (apG 32 s19.2 [x24.1]).bind fun x32 =>
 some (.inl (IntKind.i64.wrap (s19.1 + 1), x32))
 else
 some (.inr (.inl s19.2))) (0, .nil)).bind (Sum.elim (fun (p20 : (GS S_pairline_Pair)) =>
 some (p20, 0)) some)
noncomputable def sim_pairline_Read (a : Res [T.str]) : Sim tb ⟨argsT [T.str] 0 a, []⟩ c_pairline_Read.body [] (QRes [(T.sl T_pairline_Pair), (T.int .i64)] c_pairline_Read.res) :=
 Sim.seqI <| Sim.op1 (h_mv (o_nils (t := T_pairline_Pair))) <| Sim.turn (born (n := 2) (j := 1002) rfl rfl) <|
 Sim.op1 (h_mv o_i) <|
 Sim.doneS <| Sim.seqI <| Sim.op1 (h_mv (o_t rfl)) <|
 Sim.op (h_callN sp_lines_Split (.one (o_t rfl))) fun x1 =>
 Sim.op1 (h_mv (o_t rfl)) <|
 Sim.opn (h_ext (o_t rfl) rfl) fun x2 =>
 Sim.opn (h_ext (o_t rfl) rfl) fun x3 =>
 Sim.op1 (h_mv (o_t rfl)) <|
 Sim.op1 (h_mv (o_t rfl)) <|
 Sim.doneS <| Sim.seqI <| Sim.seqI <| Sim.op1 (h_mv (o_t rfl)) <|
 Sim.op (h_not (o_t rfl)) fun x4 =>
 Sim.op1 (h_mv (o_t rfl)) <|
 Sim.or 3 rfl rfl rfl (Grp.op1 (h_mv (o_t rfl)) <|
 Grp.op (h_len (o_t rfl)) fun x5 =>
 Grp.op (h_cmp (I := (IT.int .i64)) rfl (o_t rfl) o_i) fun x6 =>
 Grp.nil (o_t rfl)) fun x7 =>
 Sim.op1 (h_mv (o_t rfl)) <|
 Sim.or 6 rfl rfl rfl (Grp.op1 (h_mv (o_t rfl)) <|
 Grp.op (h_call1 sp_slices_Index_string (.cons (o_t rfl) <| .one o_s)) fun x8 =>
 Grp.op1 (h_mv (o_t rfl)) <|
 Grp.op (h_len (o_t rfl)) fun x9 =>
 Grp.op (h_sub (I := (IT.int .i64)) (o_t rfl) o_i) fun x10 =>
 Grp.op (h_cmp (I := (IT.int .i64)) rfl (o_t rfl) (o_t rfl)) fun x11 =>
 Grp.nil (o_t rfl)) fun x12 =>
 Sim.doneS <| Sim.cond (o_t rfl) (
 Sim.seqI <| Sim.op1 (h_mv (o_nils (t := T_pairline_Pair))) <| Sim.turn (born (n := 2) (j := 2002) rfl rfl) <|
 Sim.op1 (h_mv o_i) <|
 Sim.doneS <| Sim.frzRow 2002 rfl rfl <| Sim.ret (.cons (res_t rfl) <| .one (res_t rfl))) (
 Sim.skip <| Sim.doneS <| Sim.seqI <| Sim.op1 (h_mv (o_t rfl)) <|
 Sim.op1 (h_mv (o_t rfl)) <|
 Sim.op (h_len (o_t rfl)) fun x13 =>
 Sim.op (h_sub (I := (IT.int .i64)) (o_t rfl) o_i) fun x14 =>
 Sim.op (h_sll rfl (o_t rfl) .none (.some (o_t rfl))) fun x15 =>
 Sim.op1 (h_mv (o_t rfl)) <|
 Sim.doneS <| Sim.seqI <| Sim.seqI <| Sim.op1 (h_mv (o_t rfl)) <|
 Sim.op (h_len (o_t rfl)) fun x16 =>
 Sim.op (h_cmp (I := (IT.int .i64)) rfl (o_t rfl) o_i) fun x17 =>
 Sim.doneS <| Sim.cond (o_t rfl) (
 Sim.seqI <| Sim.op1 (h_mv (o_nils (t := T_pairline_Pair))) <| Sim.turn (born (n := 2) (j := 2002) rfl rfl) <|
 Sim.op1 (h_mv o_i) <|
 Sim.doneS <| Sim.frzRow 2002 rfl rfl <| Sim.ret (.cons (res_t rfl) <| .one (res_t rfl))) (
 Sim.skip <| Sim.doneS <| Sim.seqI <| Sim.op1 (h_mv (o_nils (t := T_pairline_Pair))) <| Sim.turn (born (n := 6) (j := 1006) rfl rfl) <|
 Sim.doneS <| Sim.seqI <| Sim.seqI <| Sim.op1 (h_mv (o_t rfl)) <|
 Sim.op (h_len (o_t rfl)) fun x18 =>
 Sim.op1 (h_mv o_i) <|
 Sim.doneS <| Sim.blkI <| Sim.loop (id := 0) (σ := (Int × (GS S_pairline_Pair))) (τ := (GS S_pairline_Pair)) (fun s19 => ⟨[(6, .own 1006), (39, .val (T.sl T.str) x15), (40, .val (T.int .i64) x18), (41, .val (T.int .i64) s19.1)], [(1006, .row T_pairline_Pair s19.2)]⟩) (fun p20 => ⟨[(6, .own 1006)], [(1006, .row T_pairline_Pair p20)]⟩) (0, .nil) ⟨⟨⟨rfl, trivial⟩, ⟨⟨rfl, trivial⟩, ⟨⟨rfl, trivial⟩, ⟨⟨rfl, trivial⟩, trivial⟩⟩⟩⟩, ⟨⟨rfl, trivial⟩, trivial⟩⟩ (fun _ => rfl) (fun s19 =>
 Sim.seqI <| Sim.op (h_cmp (I := (IT.int .i64)) rfl (o_t rfl) (o_t rfl)) fun x21 =>
 Sim.doneS <| Sim.seqI <| Sim.cond (o_t rfl) (
 Sim.skip <| Sim.doneS <| Sim.seqI <| Sim.blkI <| Sim.seqI <| Sim.op (h_ias rfl (o_t rfl) (o_t rfl)) fun x22 =>
 Sim.opn (h_ld rfl rfl (o_t rfl)) fun x23 =>
 Sim.op1 (h_mv (o_t rfl)) <|
 Sim.doneS <| Sim.seqI <| Sim.op1 (h_mv (o_t rfl)) <|
 Sim.op (h_callN sp_pairline_Parse (.one (o_t rfl))) fun x24 =>
 Sim.op1 (h_mv (o_t rfl)) <|
 Sim.opn (h_ext (o_t rfl) rfl) fun x25 =>
 Sim.opn (h_ext (o_t rfl) rfl) fun x26 =>
 Sim.opM (M_alloc (t := T_pairline_Pair) 9 rfl rfl) fun x27 =>
 Sim.opM (M_stC (o_t rfl) (o_t rfl) rfl rfl (Fld.id _) rfl) fun x28 =>
 Sim.op1 (h_mv (o_t rfl)) <|
 Sim.doneS <| Sim.seqI <| Sim.seqI <| Sim.op1 (h_mv (o_t rfl)) <|
 Sim.op (h_cmp (I := (IT.int .i64)) rfl (o_t rfl) o_i) fun x29 =>
 Sim.doneS <| Sim.cond (o_t rfl) (
 Sim.seqI <| Sim.op1 (h_mv (o_t rfl)) <|
 Sim.op1 (h_mv (o_nils (t := T_pairline_Pair))) <| Sim.turn (born (n := 2) (j := 1002) rfl rfl) <|
 Sim.op1 (h_mv (o_t rfl)) <|
 Sim.doneS <| Sim.outRet <| Sim.frzRow 1002 rfl rfl <| Sim.ret (.cons (res_t rfl) <| .one (res_t rfl))) (
 Sim.skip <| Sim.doneS <| Sim.op1 (h_mv (o_t rfl)) <|
 Sim.opn (h_ldC (t := T_pairline_Pair) (u := T_pairline_Pair) (o_t rfl) rfl rfl (Fld.id _) rfl rfl) fun x30 =>
 Sim.op (h_bll (t := T_pairline_Pair) (n := 1) rfl rfl (.cons rfl (o_t rfl) <| .nil _)) fun x31 =>
 Sim.opM (M_app rfl (o_t rfl) rfl (n_sl (o_t rfl))) fun x32 =>
 Sim.op1 (h_mv (o_t rfl)) <|
 Sim.doneB <| Sim.doneS <| Sim.op (h_add (I := (IT.int .i64)) (o_t rfl) o_i) fun x33 =>
 Sim.op1 (h_mv (o_t rfl)) <|
 Sim.next (x33, x32) ⟨⟨⟨rfl, trivial⟩, ⟨⟨rfl, trivial⟩, ⟨⟨rfl, trivial⟩, ⟨⟨rfl, trivial⟩, trivial⟩⟩⟩⟩, ⟨⟨rfl, trivial⟩, trivial⟩⟩)) (
 Sim.exitS <| Sim.out s19.2 ⟨⟨⟨rfl, trivial⟩, trivial⟩, ⟨⟨rfl, trivial⟩, trivial⟩⟩)) (fun p20 =>
 Sim.exitB <| Sim.doneS <| Sim.seqI <| Sim.op1 (h_mv (o_t rfl)) <|
 Sim.op1 (h_mv (o_t rfl)) <|
 Sim.op1 (h_mv o_i) <|
 Sim.doneS <| Sim.frzRow 1006 rfl rfl <| Sim.ret (.cons (res_t rfl) <| .one (res_t rfl)))))
theorem sp_pairline_Read : Spec tb fn_pairline_Read [T.str] [(T.sl T_pairline_Pair), (T.int .i64)] (fun a => pairline_Read a) :=
  Spec.of f_pairline_Read rfl rfl rfl sim_pairline_Read

noncomputable def l36_alive (_ : Unit) : Option Bool :=
 (pairline_Read [97, 61, 98, 10, 10]).bind fun x1 =>
 (pairline_Read []).bind fun x4 =>
 (andO (decide (x1.2 = 0)) (some (decide ((x1.1.l.length : Int) = 1)))).bind fun x10 =>
 (andO x10 ((idx x1.1.l 0).bind fun x11 =>
 some (decide (x11.Key = [97])))).bind fun x15 =>
 (andO x15 ((idx x1.1.l 0).bind fun x16 =>
 some (decide (x16.Value = [98])))).bind fun x20 =>
 (andO x20 (some (decide (x4.2 = 5)))).bind fun x22 =>
 some x22
noncomputable def sim_l36_alive (a : Res []) : Sim tb ⟨argsT [] 0 a, []⟩ c_l36_alive.body [] (QRes [T.b] c_l36_alive.res) :=
 Sim.seqI <| Sim.op1 (h_mv o_b) <|
 Sim.doneS <| Sim.seqI <| Sim.op (h_callN sp_pairline_Read (.one o_s)) fun x1 =>
 Sim.op1 (h_mv (o_t rfl)) <|
 Sim.opn (h_ext (o_t rfl) rfl) fun x2 =>
 Sim.opn (h_ext (o_t rfl) rfl) fun x3 =>
 Sim.op1 (h_mv (o_t rfl)) <|
 Sim.op1 (h_mv (o_t rfl)) <|
 Sim.doneS <| Sim.seqI <| Sim.op (h_callN sp_pairline_Read (.one o_s)) fun x4 =>
 Sim.op1 (h_mv (o_t rfl)) <|
 Sim.opn (h_ext (o_t rfl) rfl) fun x5 =>
 Sim.opn (h_ext (o_t rfl) rfl) fun x6 =>
 Sim.op1 (h_mv (o_t rfl)) <|
 Sim.op1 (h_mv (o_t rfl)) <|
 Sim.doneS <| Sim.seqI <| Sim.op1 (h_mv (o_t rfl)) <|
 Sim.op (h_cmp (I := (IT.int .i64)) rfl (o_t rfl) o_i) fun x7 =>
 Sim.op1 (h_mv (o_t rfl)) <|
 Sim.and 3 rfl rfl rfl (Grp.op1 (h_mv (o_t rfl)) <|
 Grp.op (h_len (o_t rfl)) fun x8 =>
 Grp.op (h_cmp (I := (IT.int .i64)) rfl (o_t rfl) o_i) fun x9 =>
 Grp.nil (o_t rfl)) fun x10 =>
 Sim.op1 (h_mv (o_t rfl)) <|
 Sim.and 5 rfl rfl rfl (Grp.op1 (h_mv (o_t rfl)) <|
 Grp.op (h_ias rfl (o_t rfl) o_i) fun x11 =>
 Grp.opr (h_fa F_pairline_Pair_Key (o_t rfl)) fun x12 =>
 Grp.opn (h_ld rfl rfl (o_t rfl)) fun x13 =>
 Grp.op (h_seql (o_t rfl) o_s) fun x14 =>
 Grp.nil (o_t rfl)) fun x15 =>
 Sim.op1 (h_mv (o_t rfl)) <|
 Sim.and 5 rfl rfl rfl (Grp.op1 (h_mv (o_t rfl)) <|
 Grp.op (h_ias rfl (o_t rfl) o_i) fun x16 =>
 Grp.opr (h_fa F_pairline_Pair_Value (o_t rfl)) fun x17 =>
 Grp.opn (h_ld rfl rfl (o_t rfl)) fun x18 =>
 Grp.op (h_seql (o_t rfl) o_s) fun x19 =>
 Grp.nil (o_t rfl)) fun x20 =>
 Sim.op1 (h_mv (o_t rfl)) <|
 Sim.and 2 rfl rfl rfl (Grp.op1 (h_mv (o_t rfl)) <|
 Grp.op (h_cmp (I := (IT.int .i64)) rfl (o_t rfl) o_i) fun x21 =>
 Grp.nil (o_t rfl)) fun x22 =>
 Sim.op1 (h_mv (o_t rfl)) <|
 Sim.doneS <| Sim.ret (.one (res_t rfl))
theorem sp_l36_alive : Spec tb fn_l36_alive [] [T.b] (fun a => l36_alive ()) :=
  Spec.of f_l36_alive rfl rfl rfl sim_l36_alive

noncomputable def strings_shouldUseASCIISet (a0 : Int) : Option Bool :=
 some (decide (8 < a0))
noncomputable def sim_strings_shouldUseASCIISet (a : Res [(T.int .i64)]) : Sim tb ⟨argsT [(T.int .i64)] 0 a, []⟩ c_strings_shouldUseASCIISet.body [] (QRes [T.b] c_strings_shouldUseASCIISet.res) :=
 Sim.seqI <| Sim.op1 (h_mv o_b) <|
 Sim.doneS <| Sim.seqI <| Sim.op1 (h_mv (o_t rfl)) <|
 Sim.op (h_cmp (I := (IT.int .i64)) rfl (o_t rfl) o_i) fun x1 =>
 Sim.op1 (h_mv (o_t rfl)) <|
 Sim.doneS <| Sim.ret (.one (res_t rfl))
theorem sp_strings_shouldUseASCIISet : Spec tb fn_strings_shouldUseASCIISet [(T.int .i64)] [T.b] (fun a => strings_shouldUseASCIISet a) :=
  Spec.of f_strings_shouldUseASCIISet rfl rfl rfl sim_strings_shouldUseASCIISet

noncomputable def strings_IndexAny (a0 : Str) (a1 : Str) : Option Int :=
 if (decide (a1 = [])) = true then
 some (-1)
 else
 if (decide ((a1.length : Int) = 1)) = true then
 (idx a1 0).bind fun x4 =>
 (fun (k8 : Int → Option _) => if (decide (128 ≤ IntKind.i32.wrap (x4.toNat : Int))) = true then
 k8 65533
 else
 k8 (IntKind.i32.wrap (x4.toNat : Int))) fun p7 =>
 (strings_IndexRune a0 p7).bind fun x9 =>
 some x9
 else
 (strings_shouldUseASCIISet (a0.length : Int)).bind fun x11 =>
 (fun (k13 : Unit → Option _) => if x11 = true then
 (strings_makeASCIISet a1).bind fun x21 =>
 if x21.2 = true then
 (iter (fun (s26 : Int) =>
 if (decide (s26 < (a0.length : Int))) = true then
 (idx a0 s26).bind fun x30 =>
 (p_strings_asciiSet_contains (some x21.1) x30).bind fun x31 =>
 if x31 = true then
 (some s26).map fun r => .inr (.inr r)
 else
 some (.inl (IntKind.i64.wrap (s26 + 1)))
 else
 some (.inr (.inl ()))) 0).bind (Sum.elim (fun (p27 : Unit) =>
 some (-1)) some)
 else
 k13 ()
 else
 k13 ()) fun p12 =>
 (iter (fun (s14 : Nat) =>
 if s14 < a0.length then
 let x16 := runeAt a0 s14
 (strings_IndexRune a1 x16.1).bind fun x19 =>
 if (decide (0 ≤ x19)) = true then
 (some ((s14 : Nat) : Int)).map fun r => .inr (.inr r)
 else
 some (.inl (s14 + x16.2))
 else
 some (.inr (.inl ()))) 0).bind (Sum.elim (fun (p15 : Unit) =>
 some (-1)) some)
noncomputable def sim_strings_IndexAny (a : Res [T.str, T.str]) : Sim tb ⟨argsT [T.str, T.str] 0 a, []⟩ c_strings_IndexAny.body [] (QRes [(T.int .i64)] c_strings_IndexAny.res) :=
 Sim.seqI <| Sim.op1 (h_mv o_i) <|
 Sim.doneS <| Sim.seqI <| Sim.seqI <| Sim.op1 (h_mv (o_t rfl)) <|
 Sim.op (h_seql (o_t rfl) o_s) fun x1 =>
 Sim.doneS <| Sim.cond (o_t rfl) (
 Sim.seqI <| Sim.op1 (h_mv o_i) <|
 Sim.doneS <| Sim.ret (.one (res_t rfl))) (
 Sim.skip <| Sim.doneS <| Sim.seqI <| Sim.seqI <| Sim.op1 (h_mv (o_t rfl)) <|
 Sim.op (h_lens (o_t rfl)) fun x2 =>
 Sim.op (h_cmp (I := (IT.int .i64)) rfl (o_t rfl) o_i) fun x3 =>
 Sim.doneS <| Sim.cond (o_t rfl) (
 Sim.seqI <| Sim.op1 (h_mv (o_t rfl)) <|
 Sim.op (h_ixs (o_t rfl) o_i) fun x4 =>
 Sim.op (h_cvi (I := IT.u8) (J := (IT.int .i32)) rfl (o_t rfl)) fun x5 =>
 Sim.op1 (h_mv (o_t rfl)) <|
 Sim.doneS <| Sim.seqI <| Sim.seqI <| Sim.op1 (h_mv (o_t rfl)) <|
 Sim.op (h_cmp (I := (IT.int .i32)) rfl (o_t rfl) o_i) fun x6 =>
 Sim.doneS <| Sim.join (τ := Int) (fun p7 => ⟨[(0, .val T.str a.1), (5, .val (T.int .i32) p7)], []⟩) (fun p7 =>
 Sim.doneS <| Sim.seqI <| Sim.op1 (h_mv (o_t rfl)) <|
 Sim.op1 (h_mv (o_t rfl)) <|
 Sim.op (h_call1 sp_strings_IndexRune (.cons (o_t rfl) <| .one (o_t rfl))) fun x9 =>
 Sim.op1 (h_mv (o_t rfl)) <|
 Sim.doneS <| Sim.ret (.one (res_t rfl))) fun k8 => Sim.cond (o_t rfl) (
 Sim.op1 (h_mv o_i) <|
 Sim.weak (k8 65533) ⟨⟨⟨rfl, trivial⟩, ⟨⟨rfl, trivial⟩, trivial⟩⟩, trivial⟩) (
 Sim.skip <| Sim.weak (k8 x5) ⟨⟨⟨rfl, trivial⟩, ⟨⟨rfl, trivial⟩, trivial⟩⟩, trivial⟩)) (
 Sim.skip <| Sim.doneS <| Sim.seqI <| Sim.seqI <| Sim.op1 (h_mv (o_t rfl)) <|
 Sim.op (h_lens (o_t rfl)) fun x10 =>
 Sim.op (h_call1 sp_strings_shouldUseASCIISet (.one (o_t rfl))) fun x11 =>
 Sim.doneS <| Sim.join (τ := Unit) (fun p12 => ⟨[(0, .val T.str a.1), (1, .val T.str a.2)], []⟩) (fun p12 =>
 Sim.doneS <| Sim.seqI <| Sim.seqI <| Sim.op1 (h_mv (o_t rfl)) <|
 Sim.opM (M_rng 1045 rfl (o_t rfl)) fun _ =>
 Sim.doneS <| Sim.blkI <| Sim.loop (id := 2) (σ := Nat) (τ := Unit) (fun s14 => ⟨[(1, .val T.str a.2), (45, .own 1045)], [(1045, .dom DIter (a.1, s14))]⟩) (fun p15 => ⟨[], []⟩) 0 ⟨⟨⟨rfl, trivial⟩, ⟨⟨rfl, trivial⟩, trivial⟩⟩, ⟨⟨rfl, trivial⟩, trivial⟩⟩ (fun _ => rfl) (fun s14 =>
 Sim.seqI <| Sim.nxt (o_t rfl) rfl (fun x16 =>
 Sim.op1 (h_ext (o_t rfl) rfl) <|
 Sim.doneS <| Sim.seqI <| Sim.condT (o_t rfl) <|
 Sim.skip <| Sim.doneS <| Sim.blkI <| Sim.seqI <| Sim.opn (h_ext (o_t rfl) rfl) fun x17 =>
 Sim.opn (h_ext (o_t rfl) rfl) fun x18 =>
 Sim.op1 (h_mv (o_t rfl)) <|
 Sim.op1 (h_mv (o_t rfl)) <|
 Sim.doneS <| Sim.seqI <| Sim.op1 (h_mv (o_t rfl)) <|
 Sim.op1 (h_mv (o_t rfl)) <|
 Sim.op (h_call1 sp_strings_IndexRune (.cons (o_t rfl) <| .one (o_t rfl))) fun x19 =>
 Sim.op (h_cmp (I := (IT.int .i64)) rfl (o_t rfl) o_i) fun x20 =>
 Sim.doneS <| Sim.cond (o_t rfl) (
 Sim.seqI <| Sim.op1 (h_mv (o_t rfl)) <|
 Sim.op1 (h_mv (o_t rfl)) <|
 Sim.doneS <| Sim.outRet <| Sim.ret (.one (res_t rfl))) (
 Sim.skip <| Sim.doneB <| Sim.next (s14 + x16.2) ⟨⟨⟨rfl, trivial⟩, ⟨⟨rfl, trivial⟩, trivial⟩⟩, ⟨⟨rfl, trivial⟩, trivial⟩⟩)) (
 Sim.op1 (h_ext (o_t rfl) rfl) <|
 Sim.doneS <| Sim.seqI <| Sim.condF (o_t rfl) <|
 Sim.exitS <| Sim.out () ⟨trivial, trivial⟩)) (fun p15 =>
 Sim.exitB <| Sim.doneS <| Sim.seqI <| Sim.op1 (h_mv o_i) <|
 Sim.doneS <| Sim.ret (.one (res_t rfl)))) fun k13 => Sim.cond (o_t rfl) (
 Sim.seqI <| Sim.op1 (h_mv (o_t rfl)) <|
 Sim.op (h_callN sp_strings_makeASCIISet (.one (o_t rfl))) fun x21 =>
 Sim.op1 (h_mv (o_t rfl)) <|
 Sim.opn (h_ext (o_t rfl) rfl) fun x22 =>
 Sim.opn (h_ext (o_t rfl) rfl) fun x23 =>
 Sim.opM (M_alloc (t := (T.arr 256 T.b)) 6 rfl rfl) fun x24 =>
 Sim.opM (M_stC (o_t rfl) (o_t rfl) rfl rfl (Fld.id _) rfl) fun x25 =>
 Sim.op1 (h_mv (o_t rfl)) <|
 Sim.doneS <| Sim.seqI <| Sim.op1 (h_mv (o_t rfl)) <|
 Sim.doneS <| Sim.cond (o_t rfl) (
 Sim.seqI <| Sim.seqI <| Sim.op1 (h_mv o_i) <|
 Sim.doneS <| Sim.blkI <| Sim.loop (id := 0) (σ := Int) (τ := Unit) (fun s26 => ⟨[(0, .val T.str a.1), (6, .cp 6 0), (8, .val (T.int .i64) s26)], [(6, .cells [(256, .val (T.arr 256 T.b) x25)])]⟩) (fun p27 => ⟨[], []⟩) 0 ⟨⟨⟨rfl, trivial⟩, ⟨⟨rfl, trivial⟩, ⟨⟨rfl, trivial⟩, trivial⟩⟩⟩, ⟨⟨rfl, ⟨trivial, trivial⟩⟩, trivial⟩⟩ (fun _ => rfl) (fun s26 =>
 Sim.seqI <| Sim.seqI <| Sim.op1 (h_mv (o_t rfl)) <|
 Sim.op1 (h_mv (o_t rfl)) <|
 Sim.op (h_lens (o_t rfl)) fun x28 =>
 Sim.op (h_cmp (I := (IT.int .i64)) rfl (o_t rfl) (o_t rfl)) fun x29 =>
 Sim.doneS <| Sim.cond (o_t rfl) (
 Sim.skip <| Sim.doneS <| Sim.seqI <| Sim.blkI <| Sim.seqI <| Sim.op1 (h_mv (o_t rfl)) <|
 Sim.op1 (h_mv (o_t rfl)) <|
 Sim.op (h_ixs (o_t rfl) (o_t rfl)) fun x30 =>
 Sim.op (h_callR1 sp_p_strings_asciiSet_contains (.cons flat_b .nil) (.cons (a_p (o_t rfl) rfl rfl) <| .one (a_v (o_t rfl)))) fun x31 =>
 Sim.doneS <| Sim.cond (o_t rfl) (
 Sim.seqI <| Sim.op1 (h_mv (o_t rfl)) <|
 Sim.op1 (h_mv (o_t rfl)) <|
 Sim.doneS <| Sim.outRet <| Sim.ret (.one (res_t rfl))) (
 Sim.skip <| Sim.doneB <| Sim.doneS <| Sim.op1 (h_mv (o_t rfl)) <|
 Sim.op (h_add (I := (IT.int .i64)) (o_t rfl) o_i) fun x32 =>
 Sim.op1 (h_mv (o_t rfl)) <|
 Sim.next x32 ⟨⟨⟨rfl, trivial⟩, ⟨⟨rfl, trivial⟩, ⟨⟨rfl, trivial⟩, trivial⟩⟩⟩, ⟨⟨rfl, ⟨trivial, trivial⟩⟩, trivial⟩⟩)) (
 Sim.exitS <| Sim.out () ⟨trivial, trivial⟩)) (fun p27 =>
 Sim.exitB <| Sim.doneS <| Sim.seqI <| Sim.op1 (h_mv o_i) <|
 Sim.doneS <| Sim.ret (.one (res_t rfl)))) (
 Sim.skip <| Sim.weak (k13 ()) ⟨⟨⟨rfl, trivial⟩, ⟨⟨rfl, trivial⟩, trivial⟩⟩, trivial⟩)) (
 Sim.skip <| Sim.weak (k13 ()) ⟨⟨⟨rfl, trivial⟩, ⟨⟨rfl, trivial⟩, trivial⟩⟩, trivial⟩)))
theorem sp_strings_IndexAny : Spec tb fn_strings_IndexAny [T.str, T.str] [(T.int .i64)] (fun a => strings_IndexAny a.1 a.2) :=
  Spec.of f_strings_IndexAny rfl rfl rfl sim_strings_IndexAny

noncomputable def strings_ContainsAny (a0 : Str) (a1 : Str) : Option Bool :=
 (strings_IndexAny a0 a1).bind fun x1 =>
 some (decide (0 ≤ x1))
noncomputable def sim_strings_ContainsAny (a : Res [T.str, T.str]) : Sim tb ⟨argsT [T.str, T.str] 0 a, []⟩ c_strings_ContainsAny.body [] (QRes [T.b] c_strings_ContainsAny.res) :=
 Sim.seqI <| Sim.op1 (h_mv o_b) <|
 Sim.doneS <| Sim.seqI <| Sim.op1 (h_mv (o_t rfl)) <|
 Sim.op1 (h_mv (o_t rfl)) <|
 Sim.op (h_call1 sp_strings_IndexAny (.cons (o_t rfl) <| .one (o_t rfl))) fun x1 =>
 Sim.op (h_cmp (I := (IT.int .i64)) rfl (o_t rfl) o_i) fun x2 =>
 Sim.op1 (h_mv (o_t rfl)) <|
 Sim.doneS <| Sim.ret (.one (res_t rfl))
theorem sp_strings_ContainsAny : Spec tb fn_strings_ContainsAny [T.str, T.str] [T.b] (fun a => strings_ContainsAny a.1 a.2) :=
  Spec.of f_strings_ContainsAny rfl rfl rfl sim_strings_ContainsAny

noncomputable def pairline_Text (a0 : S_pairline_Pair) : Option (Str × Int) :=
 (orO (decide (a0.Key = [])) ((strings_ContainsAny a0.Key [61, 10]).bind fun x4 =>
 some x4)).bind fun x5 =>
 (orO x5 ((strings_Contains a0.Value [10]).bind fun x7 =>
 some x7)).bind fun x8 =>
 if x8 = true then
 some ([], 5)
 else
 (if a0.Key.length + [61].length ≤ 2 * most then some (a0.Key ++ [61]) else none).bind fun x10 =>
 (if x10.length + a0.Value.length ≤ 2 * most then some (x10 ++ a0.Value) else none).bind fun x12 =>
 if (decide (512 < (x12.length : Int))) = true then
 some ([], 4)
 else
 some (x12, 0)
noncomputable def sim_pairline_Text (a : Res [T_pairline_Pair]) : Sim tb ⟨argsT [T_pairline_Pair] 0 a, []⟩ c_pairline_Text.body [] (QRes [T.str, (T.int .i64)] c_pairline_Text.res) :=
 Sim.seqI <| Sim.opM (M_box (t := T_pairline_Pair) 1 rfl rfl (o_t rfl)) fun _ =>
 Sim.op1 (h_mv o_s) <|
 Sim.op1 (h_mv o_i) <|
 Sim.doneS <| Sim.seqI <| Sim.seqI <| Sim.op1 (h_faC (o_t rfl)) <|
 Sim.opn (h_ldC (t := T_pairline_Pair) (u := T.str) (o_t rfl) rfl rfl F_pairline_Pair_Key rfl rfl) fun x1 =>
 Sim.op (h_seql (o_t rfl) o_s) fun x2 =>
 Sim.op1 (h_mv (o_t rfl)) <|
 Sim.or 3 rfl rfl rfl (Grp.op1 (h_faC (o_t rfl)) <|
 Grp.opn (h_ldC (t := T_pairline_Pair) (u := T.str) (o_t rfl) rfl rfl F_pairline_Pair_Key rfl rfl) fun x3 =>
 Grp.op (h_call1 sp_strings_ContainsAny (.cons (o_t rfl) <| .one o_s)) fun x4 =>
 Grp.nil (o_t rfl)) fun x5 =>
 Sim.op1 (h_mv (o_t rfl)) <|
 Sim.or 3 rfl rfl rfl (Grp.op1 (h_faC (o_t rfl)) <|
 Grp.opn (h_ldC (t := T_pairline_Pair) (u := T.str) (o_t rfl) rfl rfl F_pairline_Pair_Value rfl rfl) fun x6 =>
 Grp.op (h_call1 sp_strings_Contains (.cons (o_t rfl) <| .one o_s)) fun x7 =>
 Grp.nil (o_t rfl)) fun x8 =>
 Sim.doneS <| Sim.cond (o_t rfl) (
 Sim.seqI <| Sim.op1 (h_mv o_s) <|
 Sim.op1 (h_mv o_i) <|
 Sim.doneS <| Sim.ret (.cons (res_t rfl) <| .one (res_t rfl))) (
 Sim.skip <| Sim.doneS <| Sim.seqI <| Sim.op1 (h_faC (o_t rfl)) <|
 Sim.opn (h_ldC (t := T_pairline_Pair) (u := T.str) (o_t rfl) rfl rfl F_pairline_Pair_Key rfl rfl) fun x9 =>
 Sim.op (h_sadd (o_t rfl) o_s) fun x10 =>
 Sim.op1 (h_faC (o_t rfl)) <|
 Sim.opn (h_ldC (t := T_pairline_Pair) (u := T.str) (o_t rfl) rfl rfl F_pairline_Pair_Value rfl rfl) fun x11 =>
 Sim.op (h_sadd (o_t rfl) (o_t rfl)) fun x12 =>
 Sim.op1 (h_mv (o_t rfl)) <|
 Sim.doneS <| Sim.seqI <| Sim.seqI <| Sim.op1 (h_mv (o_t rfl)) <|
 Sim.op (h_lens (o_t rfl)) fun x13 =>
 Sim.op (h_cmp (I := (IT.int .i64)) rfl (o_t rfl) o_i) fun x14 =>
 Sim.doneS <| Sim.cond (o_t rfl) (
 Sim.seqI <| Sim.op1 (h_mv o_s) <|
 Sim.op1 (h_mv o_i) <|
 Sim.doneS <| Sim.ret (.cons (res_t rfl) <| .one (res_t rfl))) (
 Sim.skip <| Sim.doneS <| Sim.seqI <| Sim.op1 (h_mv (o_t rfl)) <|
 Sim.op1 (h_mv (o_t rfl)) <|
 Sim.op1 (h_mv o_i) <|
 Sim.doneS <| Sim.ret (.cons (res_t rfl) <| .one (res_t rfl))))
theorem sp_pairline_Text : Spec tb fn_pairline_Text [T_pairline_Pair] [T.str, (T.int .i64)] (fun a => pairline_Text a) :=
  Spec.of f_pairline_Text rfl rfl rfl sim_pairline_Text

noncomputable def r36_has (a0 : Str) (a1 : UInt8) : Option Bool :=
 (r06_Parts a0 a1).bind fun x1 =>
 some (decide (1 < (x1.l.length : Int)))
noncomputable def sim_r36_has (a : Res [T.str, T.u8]) : Sim tb ⟨argsT [T.str, T.u8] 0 a, []⟩ c_r36_has.body [] (QRes [T.b] c_r36_has.res) :=
 Sim.seqI <| Sim.op1 (h_mv o_b) <|
 Sim.doneS <| Sim.seqI <| Sim.op1 (h_mv (o_t rfl)) <|
 Sim.op1 (h_mv (o_t rfl)) <|
 Sim.op (h_call1 sp_r06_Parts (.cons (o_t rfl) <| .one (o_t rfl))) fun x1 =>
 Sim.op (h_len (o_t rfl)) fun x2 =>
 Sim.op (h_cmp (I := (IT.int .i64)) rfl (o_t rfl) o_i) fun x3 =>
 Sim.op1 (h_mv (o_t rfl)) <|
 Sim.doneS <| Sim.ret (.one (res_t rfl))
theorem sp_r36_has : Spec tb fn_r36_has [T.str, T.u8] [T.b] (fun a => r36_has a.1 a.2) :=
  Spec.of f_r36_has rfl rfl rfl sim_r36_has

end Go.Proofs.YtggdinpopddhnaaDoor.Am
