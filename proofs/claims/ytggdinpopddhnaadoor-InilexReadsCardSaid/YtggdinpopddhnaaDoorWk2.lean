/-
  What functions compute, and that they do. Printed by mkwalk.py.
-/
import Derived.Test.YtggdinpopddhnaaDoorWk1
set_option linter.unusedVariables false
set_option maxRecDepth 100000
namespace Go.Proofs.YtggdinpopddhnaaDoor.Am

noncomputable def strings_makeASCIISet (a0 : Str) : Option ((Ar Bool 256) × Bool) :=
 (iter (fun (s2 : (Int × (Ar Bool 256))) =>
 if (decide (s2.1 < (a0.length : Int))) = true then
 (idx a0 s2.1).bind fun x6 =>
 let x7 := decide (((128 : UInt8).toNat : Int) ≤ (x6.toNat : Int))
 if x7 = true then
 (some (s2.2, false)).map fun r => .inr (.inr r)
 else
 (idxN 256 (x6.toNat : Int)).bind fun x10 =>
 (if x10 < 256 then some (s2.2.set x10 true) else none).bind fun x11 =>
 some (.inl (IntKind.i64.wrap (s2.1 + 1), x11))
 else
 some (.inr (.inl s2.2))) (0, (T.arr 256 T.b).z)).bind (Sum.elim (fun (p3 : (Ar Bool 256)) =>
 some (p3, true)) some)
noncomputable def sim_strings_makeASCIISet (a : Res [T.str]) : Sim tb ⟨argsT [T.str] 0 a, []⟩ c_strings_makeASCIISet.body [] (QRes [(T.arr 256 T.b), T.b] c_strings_makeASCIISet.res) :=
 Sim.seqI <| Sim.opM (M_alloc (t := (T.arr 256 T.b)) 2 rfl rfl) fun x1 =>
 Sim.op1 (h_mv o_b) <|
 Sim.doneS <| Sim.seqI <| Sim.seqI <| Sim.op1 (h_mv o_i) <|
 Sim.doneS <| Sim.blkI <| Sim.loop (id := 0) (σ := (Int × (Ar Bool 256))) (τ := (Ar Bool 256)) (fun s2 => ⟨[(0, .val T.str a), (2, .cp 2 0), (4, .val (T.int .i64) s2.1)], [(2, .cells [(256, .val (T.arr 256 T.b) s2.2)])]⟩) (fun p3 => ⟨[(2, .cp 2 0)], [(2, .cells [(256, .val (T.arr 256 T.b) p3)])]⟩) (0, x1) ⟨⟨⟨rfl, trivial⟩, ⟨⟨rfl, trivial⟩, ⟨⟨rfl, trivial⟩, trivial⟩⟩⟩, ⟨⟨rfl, ⟨trivial, trivial⟩⟩, trivial⟩⟩ (fun _ => rfl) (fun s2 =>
 Sim.seqI <| Sim.seqI <| Sim.op1 (h_mv (o_t rfl)) <|
 Sim.op1 (h_mv (o_t rfl)) <|
 Sim.op (h_lens (o_t rfl)) fun x4 =>
 Sim.op (h_cmp (I := (IT.int .i64)) rfl (o_t rfl) (o_t rfl)) fun x5 =>
 Sim.doneS <| Sim.cond (o_t rfl) (
 Sim.skip <| Sim.doneS <| Sim.seqI <| Sim.blkI <| Sim.seqI <| Sim.op1 (h_mv (o_t rfl)) <|
 Sim.op1 (h_mv (o_t rfl)) <|
 Sim.op (h_ixs (o_t rfl) (o_t rfl)) fun x6 =>
 Sim.op1 (h_mv (o_t rfl)) <|
 Sim.doneS <| Sim.seqI <| Sim.seqI <| Sim.op1 (h_mv (o_t rfl)) <|
 Sim.op (h_cmp (I := IT.u8) rfl (o_t rfl) (o_u8 128 rfl)) fun x7 =>
 Sim.doneS <| Sim.cond (o_t rfl) (
 Sim.seqI <| Sim.opn (h_ldC (t := (T.arr 256 T.b)) (u := (T.arr 256 T.b)) (o_t rfl) rfl rfl (Fld.id _) rfl rfl) fun x8 =>
 Sim.opM (M_stC (o_t rfl) (o_t rfl) rfl rfl (Fld.id _) rfl) fun x9 =>
 Sim.op1 (h_mv o_b) <|
 Sim.doneS <| Sim.outRet <| Sim.ret (.cons (res_c rfl rfl rfl (Fld.id _) rfl rfl) <| .one (res_t rfl))) (
 Sim.skip <| Sim.doneS <| Sim.op1 (h_mv (o_t rfl)) <|
 Sim.op (h_iaaC (o_t rfl) (o_n8 (o_t rfl))) fun x10 =>
 Sim.opM (M_stA (s := (T.arr 256 T.b)) (Fld.id _) rfl (o_t rfl) o_b rfl rfl) fun x11 =>
 Sim.doneB <| Sim.doneS <| Sim.op1 (h_mv (o_t rfl)) <|
 Sim.op (h_add (I := (IT.int .i64)) (o_t rfl) o_i) fun x12 =>
 Sim.op1 (h_mv (o_t rfl)) <|
 Sim.next (x12, x11) ⟨⟨⟨rfl, trivial⟩, ⟨⟨rfl, trivial⟩, ⟨⟨rfl, trivial⟩, trivial⟩⟩⟩, ⟨⟨rfl, ⟨trivial, trivial⟩⟩, trivial⟩⟩)) (
 Sim.exitS <| Sim.out s2.2 ⟨⟨⟨rfl, trivial⟩, trivial⟩, ⟨⟨rfl, ⟨trivial, trivial⟩⟩, trivial⟩⟩)) (fun p3 =>
 Sim.exitB <| Sim.doneS <| Sim.seqI <| Sim.opn (h_ldC (t := (T.arr 256 T.b)) (u := (T.arr 256 T.b)) (o_t rfl) rfl rfl (Fld.id _) rfl rfl) fun x13 =>
 Sim.opM (M_stC (o_t rfl) (o_t rfl) rfl rfl (Fld.id _) rfl) fun x14 =>
 Sim.op1 (h_mv o_b) <|
 Sim.doneS <| Sim.ret (.cons (res_c rfl rfl rfl (Fld.id _) rfl rfl) <| .one (res_t rfl)))
theorem sp_strings_makeASCIISet : Spec tb fn_strings_makeASCIISet [T.str] [(T.arr 256 T.b), T.b] (fun a => strings_makeASCIISet a) :=
  Spec.of f_strings_makeASCIISet rfl rfl rfl sim_strings_makeASCIISet

noncomputable def p_strings_asciiSet_contains (a0 : (Option (Ar Bool 256))) (a1 : UInt8) : Option Bool :=
 (a0).bind fun x1 =>
 (idx x1.l (a1.toNat : Int)).bind fun x2 =>
 some x2
noncomputable def sim_p_strings_asciiSet_contains (a : Res [(T.ref (T.arr 256 T.b)), T.u8]) : Sim tb ⟨argsT [(T.ref (T.arr 256 T.b)), T.u8] 0 a, []⟩ c_p_strings_asciiSet_contains.body [] (QRes [T.b] c_p_strings_asciiSet_contains.res) :=
 Sim.seqI <| Sim.op1 (h_mv o_b) <|
 Sim.doneS <| Sim.seqI <| Sim.op1 (h_mv (o_t rfl)) <|
 Sim.op1 (h_mv (o_t rfl)) <|
 Sim.op (h_nilR (o_t rfl)) fun x1 =>
 Sim.op (h_iaa rfl rfl (o_t rfl) (o_n8 (o_t rfl))) fun x2 =>
 Sim.opn (h_ld rfl rfl (o_t rfl)) fun x3 =>
 Sim.op1 (h_mv (o_t rfl)) <|
 Sim.doneS <| Sim.ret (.one (res_t rfl))
theorem sp_p_strings_asciiSet_contains : Spec tb fn_p_strings_asciiSet_contains [(T.ref (T.arr 256 T.b)), T.u8] [T.b] (fun a => p_strings_asciiSet_contains a.1 a.2) :=
  Spec.of f_p_strings_asciiSet_contains rfl rfl rfl sim_p_strings_asciiSet_contains

noncomputable def strings_trimRightASCII (a0 : Str) (a1 : (Option (Ar Bool 256))) : Option Str :=
 (iter (fun (s1 : Str) =>
 if (decide (0 < (s1.length : Int))) = true then
 (idx s1 (IntKind.i64.wrap ((s1.length : Int) - 1))).bind fun x7 =>
 (p_strings_asciiSet_contains a1 x7).bind fun x8 =>
 if (!x8) = true then
 some (.inr (.inl s1))
 else
 (subL s1 none (some (IntKind.i64.wrap ((s1.length : Int) - 1)))).bind fun x12 =>
 some (.inl x12)
 else
 some (.inr (.inl s1))) a0).bind (Sum.elim (fun (p2 : Str) =>
 some p2) some)
noncomputable def sim_strings_trimRightASCII (a : Res [T.str, (T.ref (T.arr 256 T.b))]) : Sim tb ⟨argsT [T.str, (T.ref (T.arr 256 T.b))] 0 a, []⟩ c_strings_trimRightASCII.body [] (QRes [T.str] c_strings_trimRightASCII.res) :=
 Sim.seqI <| Sim.op1 (h_mv o_s) <|
 Sim.doneS <| Sim.seqI <| Sim.blkI <| Sim.loop (id := 0) (σ := Str) (τ := Str) (fun s1 => ⟨[(0, .val T.str s1), (1, .val (T.ref (T.arr 256 T.b)) a.2)], []⟩) (fun p2 => ⟨[(0, .val T.str p2)], []⟩) a.1 ⟨⟨⟨rfl, trivial⟩, ⟨⟨rfl, trivial⟩, trivial⟩⟩, trivial⟩ (fun _ => rfl) (fun s1 =>
 Sim.seqI <| Sim.seqI <| Sim.op1 (h_mv (o_t rfl)) <|
 Sim.op (h_lens (o_t rfl)) fun x3 =>
 Sim.op (h_cmp (I := (IT.int .i64)) rfl (o_t rfl) o_i) fun x4 =>
 Sim.doneS <| Sim.cond (o_t rfl) (
 Sim.skip <| Sim.doneS <| Sim.blkI <| Sim.seqI <| Sim.seqI <| Sim.op1 (h_mv (o_t rfl)) <|
 Sim.op1 (h_mv (o_t rfl)) <|
 Sim.op1 (h_mv (o_t rfl)) <|
 Sim.op (h_lens (o_t rfl)) fun x5 =>
 Sim.op (h_sub (I := (IT.int .i64)) (o_t rfl) o_i) fun x6 =>
 Sim.op (h_ixs (o_t rfl) (o_t rfl)) fun x7 =>
 Sim.op (h_callR1 sp_p_strings_asciiSet_contains (.cons flat_b .nil) (.cons (a_v (o_t rfl)) <| .one (a_v (o_t rfl)))) fun x8 =>
 Sim.op (h_not (o_t rfl)) fun x9 =>
 Sim.doneS <| Sim.cond (o_t rfl) (
 Sim.exitS <| Sim.exitO rfl <| Sim.out s1 ⟨⟨⟨rfl, trivial⟩, trivial⟩, trivial⟩) (
 Sim.skip <| Sim.doneS <| Sim.op1 (h_mv (o_t rfl)) <|
 Sim.op1 (h_mv (o_t rfl)) <|
 Sim.op (h_lens (o_t rfl)) fun x10 =>
 Sim.op (h_sub (I := (IT.int .i64)) (o_t rfl) o_i) fun x11 =>
 Sim.op (h_sls (o_t rfl) .none (.some (o_t rfl))) fun x12 =>
 Sim.op1 (h_mv (o_t rfl)) <|
 Sim.doneB <| Sim.next x12 ⟨⟨⟨rfl, trivial⟩, ⟨⟨rfl, trivial⟩, trivial⟩⟩, trivial⟩)) (
 Sim.exitS <| Sim.out s1 ⟨⟨⟨rfl, trivial⟩, trivial⟩, trivial⟩)) (fun p2 =>
 Sim.exitB <| Sim.doneS <| Sim.seqI <| Sim.op1 (h_mv (o_t rfl)) <|
 Sim.op1 (h_mv (o_t rfl)) <|
 Sim.doneS <| Sim.ret (.one (res_t rfl)))
theorem sp_strings_trimRightASCII : Spec tb fn_strings_trimRightASCII [T.str, (T.ref (T.arr 256 T.b))] [T.str] (fun a => strings_trimRightASCII a.1 a.2) :=
  Spec.of f_strings_trimRightASCII rfl rfl rfl sim_strings_trimRightASCII

noncomputable def strings_trimLeftASCII (a0 : Str) (a1 : (Option (Ar Bool 256))) : Option Str :=
 (iter (fun (s1 : Str) =>
 if (decide (0 < (s1.length : Int))) = true then
 (idx s1 0).bind fun x5 =>
 (p_strings_asciiSet_contains a1 x5).bind fun x6 =>
 if (!x6) = true then
 some (.inr (.inl s1))
 else
 (subL s1 (some 1) none).bind fun x8 =>
 some (.inl x8)
 else
 some (.inr (.inl s1))) a0).bind (Sum.elim (fun (p2 : Str) =>
 some p2) some)
noncomputable def sim_strings_trimLeftASCII (a : Res [T.str, (T.ref (T.arr 256 T.b))]) : Sim tb ⟨argsT [T.str, (T.ref (T.arr 256 T.b))] 0 a, []⟩ c_strings_trimLeftASCII.body [] (QRes [T.str] c_strings_trimLeftASCII.res) :=
 Sim.seqI <| Sim.op1 (h_mv o_s) <|
 Sim.doneS <| Sim.seqI <| Sim.blkI <| Sim.loop (id := 0) (σ := Str) (τ := Str) (fun s1 => ⟨[(0, .val T.str s1), (1, .val (T.ref (T.arr 256 T.b)) a.2)], []⟩) (fun p2 => ⟨[(0, .val T.str p2)], []⟩) a.1 ⟨⟨⟨rfl, trivial⟩, ⟨⟨rfl, trivial⟩, trivial⟩⟩, trivial⟩ (fun _ => rfl) (fun s1 =>
 Sim.seqI <| Sim.seqI <| Sim.op1 (h_mv (o_t rfl)) <|
 Sim.op (h_lens (o_t rfl)) fun x3 =>
 Sim.op (h_cmp (I := (IT.int .i64)) rfl (o_t rfl) o_i) fun x4 =>
 Sim.doneS <| Sim.cond (o_t rfl) (
 Sim.skip <| Sim.doneS <| Sim.blkI <| Sim.seqI <| Sim.seqI <| Sim.op1 (h_mv (o_t rfl)) <|
 Sim.op1 (h_mv (o_t rfl)) <|
 Sim.op (h_ixs (o_t rfl) o_i) fun x5 =>
 Sim.op (h_callR1 sp_p_strings_asciiSet_contains (.cons flat_b .nil) (.cons (a_v (o_t rfl)) <| .one (a_v (o_t rfl)))) fun x6 =>
 Sim.op (h_not (o_t rfl)) fun x7 =>
 Sim.doneS <| Sim.cond (o_t rfl) (
 Sim.exitS <| Sim.exitO rfl <| Sim.out s1 ⟨⟨⟨rfl, trivial⟩, trivial⟩, trivial⟩) (
 Sim.skip <| Sim.doneS <| Sim.op1 (h_mv (o_t rfl)) <|
 Sim.op (h_sls (o_t rfl) (.some o_i) .none) fun x8 =>
 Sim.op1 (h_mv (o_t rfl)) <|
 Sim.doneB <| Sim.next x8 ⟨⟨⟨rfl, trivial⟩, ⟨⟨rfl, trivial⟩, trivial⟩⟩, trivial⟩)) (
 Sim.exitS <| Sim.out s1 ⟨⟨⟨rfl, trivial⟩, trivial⟩, trivial⟩)) (fun p2 =>
 Sim.exitB <| Sim.doneS <| Sim.seqI <| Sim.op1 (h_mv (o_t rfl)) <|
 Sim.op1 (h_mv (o_t rfl)) <|
 Sim.doneS <| Sim.ret (.one (res_t rfl)))
theorem sp_strings_trimLeftASCII : Spec tb fn_strings_trimLeftASCII [T.str, (T.ref (T.arr 256 T.b))] [T.str] (fun a => strings_trimLeftASCII a.1 a.2) :=
  Spec.of f_strings_trimLeftASCII rfl rfl rfl sim_strings_trimLeftASCII

noncomputable def unicode_utf8_RuneStart (a0 : UInt8) : Option Bool :=
 let x1 := IT.u8.ofI (bitsR .and .u8 (a0.toNat : Int) ((192 : UInt8).toNat : Int))
 let x2 := !decide ((x1.toNat : Int) = ((128 : UInt8).toNat : Int))
 some x2
noncomputable def sim_unicode_utf8_RuneStart (a : Res [T.u8]) : Sim tb ⟨argsT [T.u8] 0 a, []⟩ c_unicode_utf8_RuneStart.body [] (QRes [T.b] c_unicode_utf8_RuneStart.res) :=
 Sim.seqI <| Sim.op1 (h_mv o_b) <|
 Sim.doneS <| Sim.seqI <| Sim.op1 (h_mv (o_t rfl)) <|
 Sim.op (h_and (I := IT.u8) (o_t rfl) (o_u8 192 rfl)) fun x1 =>
 Sim.op (h_cmp (I := IT.u8) rfl (o_t rfl) (o_u8 128 rfl)) fun x2 =>
 Sim.op1 (h_mv (o_t rfl)) <|
 Sim.doneS <| Sim.ret (.one (res_t rfl))
theorem sp_unicode_utf8_RuneStart : Spec tb fn_unicode_utf8_RuneStart [T.u8] [T.b] (fun a => unicode_utf8_RuneStart a) :=
  Spec.of f_unicode_utf8_RuneStart rfl rfl rfl sim_unicode_utf8_RuneStart

noncomputable def unicode_utf8_DecodeLastRuneInString (a0 : Str) : Option (Int × Int) :=
 if (decide ((a0.length : Int) = 0)) = true then
 some (65533, 0)
 else
 (idx a0 (IntKind.i64.wrap ((a0.length : Int) - 1))).bind fun x4 =>
 if (decide (IntKind.i32.wrap (x4.toNat : Int) < 128)) = true then
 some (IntKind.i32.wrap (x4.toNat : Int), 1)
 else
 let x8 := if 0 > IntKind.i64.wrap ((a0.length : Int) - 4) then 0 else IntKind.i64.wrap ((a0.length : Int) - 4)
 let x9 := IntKind.i64.wrap (IntKind.i64.wrap ((a0.length : Int) - 1) - 1)
 (iter (fun (s10 : Int) =>
 if (decide (x8 ≤ s10)) = true then
 (idx a0 s10).bind fun x13 =>
 (unicode_utf8_RuneStart x13).bind fun x14 =>
 if x14 = true then
 some (.inr (.inl s10))
 else
 some (.inl (IntKind.i64.wrap (s10 - 1)))
 else
 some (.inr (.inl s10))) x9).bind (Sum.elim (fun (p11 : Int) =>
 (fun (k18 : Int → Option _) => if (decide (p11 < 0)) = true then
 k18 0
 else
 k18 p11) fun p17 =>
 (subL a0 (some p17) (some (a0.length : Int))).bind fun x19 =>
 (unicode_utf8_DecodeRuneInString x19).bind fun x20 =>
 let x24 := !decide (IntKind.i64.wrap (p17 + x20.2) = (a0.length : Int))
 if x24 = true then
 some (65533, 1)
 else
 some (x20.1, x20.2)) some)
noncomputable def sim_unicode_utf8_DecodeLastRuneInString (a : Res [T.str]) : Sim tb ⟨argsT [T.str] 0 a, []⟩ c_unicode_utf8_DecodeLastRuneInString.body [] (QRes [(T.int .i32), (T.int .i64)] c_unicode_utf8_DecodeLastRuneInString.res) :=
 Sim.seqI <| Sim.op1 (h_mv o_i) <|
 Sim.op1 (h_mv o_i) <|
 Sim.doneS <| Sim.seqI <| Sim.op1 (h_mv (o_t rfl)) <|
 Sim.op (h_lens (o_t rfl)) fun x1 =>
 Sim.op1 (h_mv (o_t rfl)) <|
 Sim.doneS <| Sim.seqI <| Sim.seqI <| Sim.op1 (h_mv (o_t rfl)) <|
 Sim.op (h_cmp (I := (IT.int .i64)) rfl (o_t rfl) o_i) fun x2 =>
 Sim.doneS <| Sim.cond (o_t rfl) (
 Sim.seqI <| Sim.op1 (h_mv o_i) <|
 Sim.op1 (h_mv o_i) <|
 Sim.doneS <| Sim.ret (.cons (res_t rfl) <| .one (res_t rfl))) (
 Sim.skip <| Sim.doneS <| Sim.seqI <| Sim.op1 (h_mv (o_t rfl)) <|
 Sim.op (h_sub (I := (IT.int .i64)) (o_t rfl) o_i) fun x3 =>
 Sim.op1 (h_mv (o_t rfl)) <|
 Sim.doneS <| Sim.seqI <| Sim.op1 (h_mv (o_t rfl)) <|
 Sim.op1 (h_mv (o_t rfl)) <|
 Sim.op (h_ixs (o_t rfl) (o_t rfl)) fun x4 =>
 Sim.op (h_cvi (I := IT.u8) (J := (IT.int .i32)) rfl (o_t rfl)) fun x5 =>
 Sim.op1 (h_mv (o_t rfl)) <|
 Sim.doneS <| Sim.seqI <| Sim.seqI <| Sim.op1 (h_mv (o_t rfl)) <|
 Sim.op (h_cmp (I := (IT.int .i32)) rfl (o_t rfl) o_i) fun x6 =>
 Sim.doneS <| Sim.cond (o_t rfl) (
 Sim.seqI <| Sim.op1 (h_mv (o_t rfl)) <|
 Sim.op1 (h_mv (o_t rfl)) <|
 Sim.op1 (h_mv o_i) <|
 Sim.doneS <| Sim.ret (.cons (res_t rfl) <| .one (res_t rfl))) (
 Sim.skip <| Sim.doneS <| Sim.seqI <| Sim.op1 (h_mv (o_t rfl)) <|
 Sim.op (h_sub (I := (IT.int .i64)) (o_t rfl) o_i) fun x7 =>
 Sim.op (h_max (I := (IT.int .i64)) (mx := true) (o_t rfl) o_i) fun x8 =>
 Sim.op1 (h_mv (o_t rfl)) <|
 Sim.doneS <| Sim.seqI <| Sim.seqI <| Sim.op1 (h_mv (o_t rfl)) <|
 Sim.op (h_sub (I := (IT.int .i64)) (o_t rfl) o_i) fun x9 =>
 Sim.op1 (h_mv (o_t rfl)) <|
 Sim.doneS <| Sim.blkI <| Sim.loop (id := 0) (σ := Int) (τ := Int) (fun s10 => ⟨[(0, .val T.str a), (4, .val (T.int .i64) x1), (5, .val (T.int .i64) s10), (6, .val (T.int .i64) x8)], []⟩) (fun p11 => ⟨[(0, .val T.str a), (4, .val (T.int .i64) x1), (5, .val (T.int .i64) p11)], []⟩) x9 ⟨⟨⟨rfl, trivial⟩, ⟨⟨rfl, trivial⟩, ⟨⟨rfl, trivial⟩, ⟨⟨rfl, trivial⟩, trivial⟩⟩⟩⟩, trivial⟩ (fun _ => rfl) (fun s10 =>
 Sim.seqI <| Sim.seqI <| Sim.op1 (h_mv (o_t rfl)) <|
 Sim.op1 (h_mv (o_t rfl)) <|
 Sim.op (h_cmp (I := (IT.int .i64)) rfl (o_t rfl) (o_t rfl)) fun x12 =>
 Sim.doneS <| Sim.cond (o_t rfl) (
 Sim.skip <| Sim.doneS <| Sim.seqI <| Sim.blkI <| Sim.seqI <| Sim.op1 (h_mv (o_t rfl)) <|
 Sim.op1 (h_mv (o_t rfl)) <|
 Sim.op (h_ixs (o_t rfl) (o_t rfl)) fun x13 =>
 Sim.op (h_call1 sp_unicode_utf8_RuneStart (.one (o_t rfl))) fun x14 =>
 Sim.doneS <| Sim.cond (o_t rfl) (
 Sim.exitO rfl <| Sim.exitS <| Sim.out s10 ⟨⟨⟨rfl, trivial⟩, ⟨⟨rfl, trivial⟩, ⟨⟨rfl, trivial⟩, trivial⟩⟩⟩, trivial⟩) (
 Sim.skip <| Sim.doneB <| Sim.doneS <| Sim.op1 (h_mv (o_t rfl)) <|
 Sim.op (h_sub (I := (IT.int .i64)) (o_t rfl) o_i) fun x15 =>
 Sim.op1 (h_mv (o_t rfl)) <|
 Sim.next x15 ⟨⟨⟨rfl, trivial⟩, ⟨⟨rfl, trivial⟩, ⟨⟨rfl, trivial⟩, ⟨⟨rfl, trivial⟩, trivial⟩⟩⟩⟩, trivial⟩)) (
 Sim.exitS <| Sim.out s10 ⟨⟨⟨rfl, trivial⟩, ⟨⟨rfl, trivial⟩, ⟨⟨rfl, trivial⟩, trivial⟩⟩⟩, trivial⟩)) (fun p11 =>
 Sim.exitB <| Sim.doneS <| Sim.seqI <| Sim.seqI <| Sim.op1 (h_mv (o_t rfl)) <|
 Sim.op (h_cmp (I := (IT.int .i64)) rfl (o_t rfl) o_i) fun x16 =>
 Sim.doneS <| Sim.join (τ := Int) (fun p17 => ⟨[(0, .val T.str a), (4, .val (T.int .i64) x1), (5, .val (T.int .i64) p17)], []⟩) (fun p17 =>
 Sim.doneS <| Sim.seqI <| Sim.op1 (h_mv (o_t rfl)) <|
 Sim.op1 (h_mv (o_t rfl)) <|
 Sim.op1 (h_mv (o_t rfl)) <|
 Sim.op (h_sls (o_t rfl) (.some (o_t rfl)) (.some (o_t rfl))) fun x19 =>
 Sim.op (h_callN sp_unicode_utf8_DecodeRuneInString (.one (o_t rfl))) fun x20 =>
 Sim.op1 (h_mv (o_t rfl)) <|
 Sim.opn (h_ext (o_t rfl) rfl) fun x21 =>
 Sim.opn (h_ext (o_t rfl) rfl) fun x22 =>
 Sim.op1 (h_mv (o_t rfl)) <|
 Sim.op1 (h_mv (o_t rfl)) <|
 Sim.doneS <| Sim.seqI <| Sim.seqI <| Sim.op1 (h_mv (o_t rfl)) <|
 Sim.op1 (h_mv (o_t rfl)) <|
 Sim.op (h_add (I := (IT.int .i64)) (o_t rfl) (o_t rfl)) fun x23 =>
 Sim.op1 (h_mv (o_t rfl)) <|
 Sim.op (h_cmp (I := (IT.int .i64)) rfl (o_t rfl) (o_t rfl)) fun x24 =>
 Sim.doneS <| Sim.cond (o_t rfl) (
 Sim.seqI <| Sim.op1 (h_mv o_i) <|
 Sim.op1 (h_mv o_i) <|
 Sim.doneS <| Sim.ret (.cons (res_t rfl) <| .one (res_t rfl))) (
 Sim.skip <| Sim.doneS <| Sim.seqI <| Sim.op1 (h_mv (o_t rfl)) <|
 Sim.op1 (h_mv (o_t rfl)) <|
 Sim.op1 (h_mv (o_t rfl)) <|
 Sim.op1 (h_mv (o_t rfl)) <|
 Sim.doneS <| Sim.ret (.cons (res_t rfl) <| .one (res_t rfl)))) fun k18 => Sim.cond (o_t rfl) (
 Sim.op1 (h_mv o_i) <|
 Sim.weak (k18 0) ⟨⟨⟨rfl, trivial⟩, ⟨⟨rfl, trivial⟩, ⟨⟨rfl, trivial⟩, trivial⟩⟩⟩, trivial⟩) (
 Sim.skip <| Sim.weak (k18 p11) ⟨⟨⟨rfl, trivial⟩, ⟨⟨rfl, trivial⟩, ⟨⟨rfl, trivial⟩, trivial⟩⟩⟩, trivial⟩))))
theorem sp_unicode_utf8_DecodeLastRuneInString : Spec tb fn_unicode_utf8_DecodeLastRuneInString [T.str] [(T.int .i32), (T.int .i64)] (fun a => unicode_utf8_DecodeLastRuneInString a) :=
  Spec.of f_unicode_utf8_DecodeLastRuneInString rfl rfl rfl sim_unicode_utf8_DecodeLastRuneInString

noncomputable def unicode_utf8_ValidRune (a0 : Int) : Option Bool :=
 (andO (decide (0 ≤ a0)) (some (decide (a0 < 55296)))).bind fun x3 =>
 if x3 = true then
 some true
 else
 (andO (decide (57343 < a0)) (some (decide (a0 ≤ 1114111)))).bind fun x6 =>
 if x6 = true then
 some true
 else
 some false
noncomputable def sim_unicode_utf8_ValidRune (a : Res [(T.int .i32)]) : Sim tb ⟨argsT [(T.int .i32)] 0 a, []⟩ c_unicode_utf8_ValidRune.body [] (QRes [T.b] c_unicode_utf8_ValidRune.res) :=
 Sim.seqI <| Sim.op1 (h_mv o_b) <|
 Sim.doneS <| Sim.seqI <| Sim.blkI <| Sim.seqI <| Sim.op1 (h_mv (o_t rfl)) <|
 Sim.op (h_cmp (I := (IT.int .i32)) rfl o_i (o_t rfl)) fun x1 =>
 Sim.op1 (h_mv (o_t rfl)) <|
 Sim.and 2 rfl rfl rfl (Grp.op1 (h_mv (o_t rfl)) <|
 Grp.op (h_cmp (I := (IT.int .i32)) rfl (o_t rfl) o_i) fun x2 =>
 Grp.nil (o_t rfl)) fun x3 =>
 Sim.op1 (h_mv (o_t rfl)) <|
 Sim.doneS <| Sim.cond (o_t rfl) (
 Sim.seqI <| Sim.op1 (h_mv o_b) <|
 Sim.doneS <| Sim.ret (.one (res_t rfl))) (
 Sim.seqI <| Sim.op1 (h_mv (o_t rfl)) <|
 Sim.op (h_cmp (I := (IT.int .i32)) rfl o_i (o_t rfl)) fun x4 =>
 Sim.op1 (h_mv (o_t rfl)) <|
 Sim.and 2 rfl rfl rfl (Grp.op1 (h_mv (o_t rfl)) <|
 Grp.op (h_cmp (I := (IT.int .i32)) rfl (o_t rfl) o_i) fun x5 =>
 Grp.nil (o_t rfl)) fun x6 =>
 Sim.op1 (h_mv (o_t rfl)) <|
 Sim.doneS <| Sim.cond (o_t rfl) (
 Sim.seqI <| Sim.op1 (h_mv o_b) <|
 Sim.doneS <| Sim.ret (.one (res_t rfl))) (
 Sim.skip <| Sim.doneB <| Sim.doneS <| Sim.seqI <| Sim.op1 (h_mv o_b) <|
 Sim.doneS <| Sim.ret (.one (res_t rfl))))
theorem sp_unicode_utf8_ValidRune : Spec tb fn_unicode_utf8_ValidRune [(T.int .i32)] [T.b] (fun a => unicode_utf8_ValidRune a) :=
  Spec.of f_unicode_utf8_ValidRune rfl rfl rfl sim_unicode_utf8_ValidRune

noncomputable def strings_IndexRune (a0 : Str) (a1 : Int) : Option Int :=
 (andO (decide (0 ≤ a1)) (some (decide (a1 < 128)))).bind fun x3 =>
 if x3 = true then
 (strings_IndexByte a0 (IT.u8.ofI a1)).bind fun x5 =>
 some x5
 else
 if (decide (a1 = 65533)) = true then
 (iter (fun (s7 : Nat) =>
 if s7 < a0.length then
 let x9 := runeAt a0 s7
 if (decide (x9.1 = 65533)) = true then
 (some ((s7 : Nat) : Int)).map fun r => .inr (.inr r)
 else
 some (.inl (s7 + x9.2))
 else
 some (.inr (.inl ()))) 0).bind (Sum.elim (fun (p8 : Unit) =>
 some (-1)) some)
 else
 (unicode_utf8_ValidRune a1).bind fun x13 =>
 if (!x13) = true then
 some (-1)
 else
 let x17 := IntKind.i64.wrap ((((Utf8.encode a1).data.toList).length : Int) - 1)
 (iter (fun (s18 : Unit) =>
 if (decide (x17 < (a0.length : Int))) = true then
 (idx a0 x17).bind fun x22 =>
 (idx ((Utf8.encode a1).data.toList) x17).bind fun x23 =>
 (fun (k26 : Int → Option _) => if (!decide ((x22.toNat : Int) = (x23.toNat : Int))) = true then
 (subL a0 (some (IntKind.i64.wrap (x17 + 1))) none).bind fun x39 =>
 (idx ((Utf8.encode a1).data.toList) x17).bind fun x40 =>
 (strings_IndexByte x39 x40).bind fun x41 =>
 if (decide (x41 < 0)) = true then
 (some (-1)).map fun r => .inr (.inr r)
 else
 let x44 := IntKind.i64.wrap (x17 + IntKind.i64.wrap (x41 + 1))
 k26 x44
 else
 k26 x17) fun p25 =>
 (iter (fun (s27 : Int) =>
 let x30 := decide (s27 < (((Utf8.encode a1).data.toList).length : Int))
 if x30 = true then
 (idx a0 (IntKind.i64.wrap (p25 - s27))).bind fun x32 =>
 (idx ((Utf8.encode a1).data.toList) (IntKind.i64.wrap (x17 - s27))).bind fun x34 =>
 if (!decide ((x32.toNat : Int) = (x34.toNat : Int))) = true then
 none
 else
 some (.inl (IntKind.i64.wrap (s27 + 1)))
 else
 some (.inr (.inl ()))) 1).bind (Sum.elim (fun (p28 : Unit) =>
 (some (IntKind.i64.wrap (p25 - x17))).map fun r => .inr (.inr r)) some)
 else
 some (.inr (.inl ()))) ()).bind (Sum.elim (fun (p19 : Unit) =>
 some (-1)) some)
noncomputable def sim_strings_IndexRune (a : Res [T.str, (T.int .i32)]) : Sim tb ⟨argsT [T.str, (T.int .i32)] 0 a, []⟩ c_strings_IndexRune.body [] (QRes [(T.int .i64)] c_strings_IndexRune.res) :=
 Sim.seqI <| Sim.op1 (h_mv o_i) <|
 Sim.doneS <| Sim.blkI <| Sim.seqI <| Sim.op1 (h_mv (o_t rfl)) <|
 Sim.op (h_cmp (I := (IT.int .i32)) rfl o_i (o_t rfl)) fun x1 =>
 Sim.op1 (h_mv (o_t rfl)) <|
 Sim.and 2 rfl rfl rfl (Grp.op1 (h_mv (o_t rfl)) <|
 Grp.op (h_cmp (I := (IT.int .i32)) rfl (o_t rfl) o_i) fun x2 =>
 Grp.nil (o_t rfl)) fun x3 =>
 Sim.op1 (h_mv (o_t rfl)) <|
 Sim.doneS <| Sim.cond (o_t rfl) (
 Sim.seqI <| Sim.op1 (h_mv (o_t rfl)) <|
 Sim.op1 (h_mv (o_t rfl)) <|
 Sim.op (h_cvi (I := (IT.int .i32)) (J := IT.u8) rfl (o_t rfl)) fun x4 =>
 Sim.op (h_call1 sp_strings_IndexByte (.cons (o_t rfl) <| .one (o_t rfl))) fun x5 =>
 Sim.op1 (h_mv (o_t rfl)) <|
 Sim.doneS <| Sim.ret (.one (res_t rfl))) (
 Sim.seqI <| Sim.op1 (h_mv (o_t rfl)) <|
 Sim.op (h_cmp (I := (IT.int .i32)) rfl (o_t rfl) o_i) fun x6 =>
 Sim.op1 (h_mv (o_t rfl)) <|
 Sim.doneS <| Sim.cond (o_t rfl) (
 Sim.seqI <| Sim.seqI <| Sim.op1 (h_mv (o_t rfl)) <|
 Sim.opM (M_rng 1175 rfl (o_t rfl)) fun _ =>
 Sim.doneS <| Sim.blkI <| Sim.loop (id := 9) (σ := Nat) (τ := Unit) (fun s7 => ⟨[(175, .own 1175)], [(1175, .dom DIter (a.1, s7))]⟩) (fun p8 => ⟨[], []⟩) 0 ⟨⟨⟨rfl, trivial⟩, trivial⟩, ⟨⟨rfl, trivial⟩, trivial⟩⟩ (fun _ => rfl) (fun s7 =>
 Sim.seqI <| Sim.nxt (o_t rfl) rfl (fun x9 =>
 Sim.op1 (h_ext (o_t rfl) rfl) <|
 Sim.doneS <| Sim.seqI <| Sim.condT (o_t rfl) <|
 Sim.skip <| Sim.doneS <| Sim.blkI <| Sim.seqI <| Sim.opn (h_ext (o_t rfl) rfl) fun x10 =>
 Sim.opn (h_ext (o_t rfl) rfl) fun x11 =>
 Sim.op1 (h_mv (o_t rfl)) <|
 Sim.op1 (h_mv (o_t rfl)) <|
 Sim.doneS <| Sim.seqI <| Sim.op1 (h_mv (o_t rfl)) <|
 Sim.op (h_cmp (I := (IT.int .i32)) rfl (o_t rfl) o_i) fun x12 =>
 Sim.doneS <| Sim.cond (o_t rfl) (
 Sim.seqI <| Sim.op1 (h_mv (o_t rfl)) <|
 Sim.op1 (h_mv (o_t rfl)) <|
 Sim.doneS <| Sim.outRet <| Sim.ret (.one (res_t rfl))) (
 Sim.skip <| Sim.doneB <| Sim.next (s7 + x9.2) ⟨⟨⟨rfl, trivial⟩, trivial⟩, ⟨⟨rfl, trivial⟩, trivial⟩⟩)) (
 Sim.op1 (h_ext (o_t rfl) rfl) <|
 Sim.doneS <| Sim.seqI <| Sim.condF (o_t rfl) <|
 Sim.exitS <| Sim.out () ⟨trivial, trivial⟩)) (fun p8 =>
 Sim.exitB <| Sim.doneS <| Sim.seqI <| Sim.op1 (h_mv o_i) <|
 Sim.doneS <| Sim.ret (.one (res_t rfl)))) (
 Sim.seqI <| Sim.op1 (h_mv (o_t rfl)) <|
 Sim.op (h_call1 sp_unicode_utf8_ValidRune (.one (o_t rfl))) fun x13 =>
 Sim.op (h_not (o_t rfl)) fun x14 =>
 Sim.op1 (h_mv (o_t rfl)) <|
 Sim.doneS <| Sim.cond (o_t rfl) (
 Sim.seqI <| Sim.op1 (h_mv o_i) <|
 Sim.doneS <| Sim.ret (.one (res_t rfl))) (
 Sim.scope <| Sim.seqI <| Sim.op1 (h_mv (o_t rfl)) <|
 Sim.op (h_cvc (o_t rfl)) fun x15 =>
 Sim.op1 (h_mv (o_t rfl)) <|
 Sim.doneS <| Sim.seqI <| Sim.op1 (h_mv (o_t rfl)) <|
 Sim.op (h_lens (o_t rfl)) fun x16 =>
 Sim.op (h_sub (I := (IT.int .i64)) (o_t rfl) o_i) fun x17 =>
 Sim.op1 (h_mv (o_t rfl)) <|
 Sim.doneS <| Sim.seqI <| Sim.op1 (h_mv (o_t rfl)) <|
 Sim.op1 (h_mv (o_t rfl)) <|
 Sim.doneS <| Sim.seqI <| Sim.op1 (h_mv o_i) <|
 Sim.doneS <| Sim.seqI <| Sim.blkI <| Sim.loop (id := 1) (σ := Unit) (τ := Unit) (fun s18 => ⟨[(0, .val T.str a.1), (7, .val T.str x15), (8, .val (T.int .i64) x17), (9, .val (T.int .i64) x17)], []⟩) (fun p19 => ⟨[], []⟩) () ⟨⟨⟨rfl, trivial⟩, ⟨⟨rfl, trivial⟩, ⟨⟨rfl, trivial⟩, ⟨⟨rfl, trivial⟩, trivial⟩⟩⟩⟩, trivial⟩ (fun _ => rfl) (fun s18 =>
 Sim.seqI <| Sim.seqI <| Sim.op1 (h_mv (o_t rfl)) <|
 Sim.op1 (h_mv (o_t rfl)) <|
 Sim.op (h_lens (o_t rfl)) fun x20 =>
 Sim.op (h_cmp (I := (IT.int .i64)) rfl (o_t rfl) (o_t rfl)) fun x21 =>
 Sim.doneS <| Sim.cond (o_t rfl) (
 Sim.skip <| Sim.doneS <| Sim.blkI <| Sim.scope <| Sim.seqI <| Sim.seqI <| Sim.op1 (h_mv (o_t rfl)) <|
 Sim.op1 (h_mv (o_t rfl)) <|
 Sim.op (h_ixs (o_t rfl) (o_t rfl)) fun x22 =>
 Sim.op1 (h_mv (o_t rfl)) <|
 Sim.op1 (h_mv (o_t rfl)) <|
 Sim.op (h_ixs (o_t rfl) (o_t rfl)) fun x23 =>
 Sim.op (h_cmp (I := IT.u8) rfl (o_t rfl) (o_t rfl)) fun x24 =>
 Sim.doneS <| Sim.join (τ := Int) (fun p25 => ⟨[(0, .val T.str a.1), (7, .val T.str x15), (8, .val (T.int .i64) x17), (9, .val (T.int .i64) p25)], []⟩) (fun p25 =>
 Sim.doneS <| Sim.seqI <| Sim.seqI <| Sim.op1 (h_mv o_i) <|
 Sim.doneS <| Sim.blkI <| Sim.loop (id := 3) (σ := Int) (τ := Unit) (fun s27 => ⟨[(0, .val T.str a.1), (7, .val T.str x15), (8, .val (T.int .i64) x17), (9, .val (T.int .i64) p25), (12, .val (T.int .i64) s27)], []⟩) (fun p28 => ⟨[(8, .val (T.int .i64) x17), (9, .val (T.int .i64) p25)], []⟩) 1 ⟨⟨⟨rfl, trivial⟩, ⟨⟨rfl, trivial⟩, ⟨⟨rfl, trivial⟩, ⟨⟨rfl, trivial⟩, ⟨⟨rfl, trivial⟩, trivial⟩⟩⟩⟩⟩, trivial⟩ (fun _ => rfl) (fun s27 =>
 Sim.seqI <| Sim.seqI <| Sim.op1 (h_mv (o_t rfl)) <|
 Sim.op1 (h_mv (o_t rfl)) <|
 Sim.op (h_lens (o_t rfl)) fun x29 =>
 Sim.op (h_cmp (I := (IT.int .i64)) rfl (o_t rfl) (o_t rfl)) fun x30 =>
 Sim.doneS <| Sim.cond (o_t rfl) (
 Sim.skip <| Sim.doneS <| Sim.seqI <| Sim.blkI <| Sim.seqI <| Sim.op1 (h_mv (o_t rfl)) <|
 Sim.op1 (h_mv (o_t rfl)) <|
 Sim.op1 (h_mv (o_t rfl)) <|
 Sim.op (h_sub (I := (IT.int .i64)) (o_t rfl) (o_t rfl)) fun x31 =>
 Sim.op (h_ixs (o_t rfl) (o_t rfl)) fun x32 =>
 Sim.op1 (h_mv (o_t rfl)) <|
 Sim.op1 (h_mv (o_t rfl)) <|
 Sim.op1 (h_mv (o_t rfl)) <|
 Sim.op (h_sub (I := (IT.int .i64)) (o_t rfl) (o_t rfl)) fun x33 =>
 Sim.op (h_ixs (o_t rfl) (o_t rfl)) fun x34 =>
 Sim.op (h_cmp (I := IT.u8) rfl (o_t rfl) (o_t rfl)) fun x35 =>
 Sim.doneS <| Sim.cond (o_t rfl) (
 Sim.stop) (
 Sim.skip <| Sim.doneB <| Sim.doneS <| Sim.op1 (h_mv (o_t rfl)) <|
 Sim.op (h_add (I := (IT.int .i64)) (o_t rfl) o_i) fun x36 =>
 Sim.op1 (h_mv (o_t rfl)) <|
 Sim.next x36 ⟨⟨⟨rfl, trivial⟩, ⟨⟨rfl, trivial⟩, ⟨⟨rfl, trivial⟩, ⟨⟨rfl, trivial⟩, ⟨⟨rfl, trivial⟩, trivial⟩⟩⟩⟩⟩, trivial⟩)) (
 Sim.exitS <| Sim.out () ⟨⟨⟨rfl, trivial⟩, ⟨⟨rfl, trivial⟩, trivial⟩⟩, trivial⟩)) (fun p28 =>
 Sim.exitB <| Sim.doneS <| Sim.seqI <| Sim.seqI <| Sim.op1 (h_mv (o_t rfl)) <|
 Sim.op1 (h_mv (o_t rfl)) <|
 Sim.op (h_sub (I := (IT.int .i64)) (o_t rfl) (o_t rfl)) fun x37 =>
 Sim.op1 (h_mv (o_t rfl)) <|
 Sim.doneS <| Sim.outRet <| Sim.ret (.one (res_t rfl)))) fun k26 => Sim.cond (o_t rfl) (
 Sim.seqI <| Sim.op1 (h_mv (o_t rfl)) <|
 Sim.op1 (h_mv (o_t rfl)) <|
 Sim.op (h_add (I := (IT.int .i64)) (o_t rfl) o_i) fun x38 =>
 Sim.op (h_sls (o_t rfl) (.some (o_t rfl)) .none) fun x39 =>
 Sim.op1 (h_mv (o_t rfl)) <|
 Sim.op1 (h_mv (o_t rfl)) <|
 Sim.op (h_ixs (o_t rfl) (o_t rfl)) fun x40 =>
 Sim.op (h_call1 sp_strings_IndexByte (.cons (o_t rfl) <| .one (o_t rfl))) fun x41 =>
 Sim.op1 (h_mv (o_t rfl)) <|
 Sim.doneS <| Sim.seqI <| Sim.seqI <| Sim.op1 (h_mv (o_t rfl)) <|
 Sim.op (h_cmp (I := (IT.int .i64)) rfl (o_t rfl) o_i) fun x42 =>
 Sim.doneS <| Sim.cond (o_t rfl) (
 Sim.seqI <| Sim.op1 (h_mv o_i) <|
 Sim.doneS <| Sim.outRet <| Sim.ret (.one (res_t rfl))) (
 Sim.skip <| Sim.doneS <| Sim.op1 (h_mv (o_t rfl)) <|
 Sim.op1 (h_mv (o_t rfl)) <|
 Sim.op (h_add (I := (IT.int .i64)) (o_t rfl) o_i) fun x43 =>
 Sim.op (h_add (I := (IT.int .i64)) (o_t rfl) (o_t rfl)) fun x44 =>
 Sim.op1 (h_mv (o_t rfl)) <|
 Sim.weak (k26 x44) ⟨⟨⟨rfl, trivial⟩, ⟨⟨rfl, trivial⟩, ⟨⟨rfl, trivial⟩, ⟨⟨rfl, trivial⟩, trivial⟩⟩⟩⟩, trivial⟩)) (
 Sim.skip <| Sim.weak (k26 x17) ⟨⟨⟨rfl, trivial⟩, ⟨⟨rfl, trivial⟩, ⟨⟨rfl, trivial⟩, ⟨⟨rfl, trivial⟩, trivial⟩⟩⟩⟩, trivial⟩)) (
 Sim.exitS <| Sim.out () ⟨trivial, trivial⟩)) (fun p19 =>
 Sim.exitB <| Sim.doneS <| Sim.seqI <| Sim.seqI <| Sim.op1 (h_mv o_i) <|
 Sim.doneS <| Sim.ret (.one (res_t rfl))))))
theorem sp_strings_IndexRune : Spec tb fn_strings_IndexRune [T.str, (T.int .i32)] [(T.int .i64)] (fun a => strings_IndexRune a.1 a.2) :=
  Spec.of f_strings_IndexRune rfl rfl rfl sim_strings_IndexRune

noncomputable def strings_ContainsRune (a0 : Str) (a1 : Int) : Option Bool :=
 (strings_IndexRune a0 a1).bind fun x1 =>
 some (decide (0 ≤ x1))
noncomputable def sim_strings_ContainsRune (a : Res [T.str, (T.int .i32)]) : Sim tb ⟨argsT [T.str, (T.int .i32)] 0 a, []⟩ c_strings_ContainsRune.body [] (QRes [T.b] c_strings_ContainsRune.res) :=
 Sim.seqI <| Sim.op1 (h_mv o_b) <|
 Sim.doneS <| Sim.seqI <| Sim.op1 (h_mv (o_t rfl)) <|
 Sim.op1 (h_mv (o_t rfl)) <|
 Sim.op (h_call1 sp_strings_IndexRune (.cons (o_t rfl) <| .one (o_t rfl))) fun x1 =>
 Sim.op (h_cmp (I := (IT.int .i64)) rfl (o_t rfl) o_i) fun x2 =>
 Sim.op1 (h_mv (o_t rfl)) <|
 Sim.doneS <| Sim.ret (.one (res_t rfl))
theorem sp_strings_ContainsRune : Spec tb fn_strings_ContainsRune [T.str, (T.int .i32)] [T.b] (fun a => strings_ContainsRune a.1 a.2) :=
  Spec.of f_strings_ContainsRune rfl rfl rfl sim_strings_ContainsRune

noncomputable def strings_trimRightUnicode (a0 : Str) (a1 : Str) : Option Str :=
 (iter (fun (s1 : Str) =>
 if (decide (0 < (s1.length : Int))) = true then
 (idx s1 (IntKind.i64.wrap ((s1.length : Int) - 1))).bind fun x7 =>
 (fun (k11 : (Int × Int) → Option _) => if (decide (128 ≤ IntKind.i32.wrap (x7.toNat : Int))) = true then
 (unicode_utf8_DecodeLastRuneInString s1).bind fun x17 =>
 k11 (x17.1, x17.2)
 else
 k11 (IntKind.i32.wrap (x7.toNat : Int), 1)) fun p10 =>
 (strings_ContainsRune a1 p10.1).bind fun x12 =>
 if (!x12) = true then
 some (.inr (.inl s1))
 else
 (subL s1 none (some (IntKind.i64.wrap ((s1.length : Int) - p10.2)))).bind fun x16 =>
 some (.inl x16)
 else
 some (.inr (.inl s1))) a0).bind (Sum.elim (fun (p2 : Str) =>
 some p2) some)
noncomputable def sim_strings_trimRightUnicode (a : Res [T.str, T.str]) : Sim tb ⟨argsT [T.str, T.str] 0 a, []⟩ c_strings_trimRightUnicode.body [] (QRes [T.str] c_strings_trimRightUnicode.res) :=
 Sim.seqI <| Sim.op1 (h_mv o_s) <|
 Sim.doneS <| Sim.seqI <| Sim.blkI <| Sim.loop (id := 0) (σ := Str) (τ := Str) (fun s1 => ⟨[(0, .val T.str s1), (1, .val T.str a.2)], []⟩) (fun p2 => ⟨[(0, .val T.str p2)], []⟩) a.1 ⟨⟨⟨rfl, trivial⟩, ⟨⟨rfl, trivial⟩, trivial⟩⟩, trivial⟩ (fun _ => rfl) (fun s1 =>
 Sim.seqI <| Sim.seqI <| Sim.op1 (h_mv (o_t rfl)) <|
 Sim.op (h_lens (o_t rfl)) fun x3 =>
 Sim.op (h_cmp (I := (IT.int .i64)) rfl (o_t rfl) o_i) fun x4 =>
 Sim.doneS <| Sim.cond (o_t rfl) (
 Sim.skip <| Sim.doneS <| Sim.blkI <| Sim.seqI <| Sim.op1 (h_mv (o_t rfl)) <|
 Sim.op1 (h_mv (o_t rfl)) <|
 Sim.op (h_lens (o_t rfl)) fun x5 =>
 Sim.op (h_sub (I := (IT.int .i64)) (o_t rfl) o_i) fun x6 =>
 Sim.op (h_ixs (o_t rfl) (o_t rfl)) fun x7 =>
 Sim.op (h_cvi (I := IT.u8) (J := (IT.int .i32)) rfl (o_t rfl)) fun x8 =>
 Sim.op1 (h_mv (o_t rfl)) <|
 Sim.op1 (h_mv o_i) <|
 Sim.doneS <| Sim.seqI <| Sim.seqI <| Sim.op1 (h_mv (o_t rfl)) <|
 Sim.op (h_cmp (I := (IT.int .i32)) rfl (o_t rfl) o_i) fun x9 =>
 Sim.doneS <| Sim.join (τ := (Int × Int)) (fun p10 => ⟨[(0, .val T.str s1), (1, .val T.str a.2), (5, .val (T.int .i32) p10.1), (6, .val (T.int .i64) p10.2)], []⟩) (fun p10 =>
 Sim.doneS <| Sim.seqI <| Sim.seqI <| Sim.op1 (h_mv (o_t rfl)) <|
 Sim.op1 (h_mv (o_t rfl)) <|
 Sim.op (h_call1 sp_strings_ContainsRune (.cons (o_t rfl) <| .one (o_t rfl))) fun x12 =>
 Sim.op (h_not (o_t rfl)) fun x13 =>
 Sim.doneS <| Sim.cond (o_t rfl) (
 Sim.exitS <| Sim.exitO rfl <| Sim.out s1 ⟨⟨⟨rfl, trivial⟩, trivial⟩, trivial⟩) (
 Sim.skip <| Sim.doneS <| Sim.op1 (h_mv (o_t rfl)) <|
 Sim.op1 (h_mv (o_t rfl)) <|
 Sim.op (h_lens (o_t rfl)) fun x14 =>
 Sim.op1 (h_mv (o_t rfl)) <|
 Sim.op (h_sub (I := (IT.int .i64)) (o_t rfl) (o_t rfl)) fun x15 =>
 Sim.op (h_sls (o_t rfl) .none (.some (o_t rfl))) fun x16 =>
 Sim.op1 (h_mv (o_t rfl)) <|
 Sim.doneB <| Sim.next x16 ⟨⟨⟨rfl, trivial⟩, ⟨⟨rfl, trivial⟩, trivial⟩⟩, trivial⟩)) fun k11 => Sim.cond (o_t rfl) (
 Sim.op1 (h_mv (o_t rfl)) <|
 Sim.op (h_callN sp_unicode_utf8_DecodeLastRuneInString (.one (o_t rfl))) fun x17 =>
 Sim.op1 (h_mv (o_t rfl)) <|
 Sim.opn (h_ext (o_t rfl) rfl) fun x18 =>
 Sim.opn (h_ext (o_t rfl) rfl) fun x19 =>
 Sim.op1 (h_mv (o_t rfl)) <|
 Sim.op1 (h_mv (o_t rfl)) <|
 Sim.weak (k11 (x18, x19)) ⟨⟨⟨rfl, trivial⟩, ⟨⟨rfl, trivial⟩, ⟨⟨rfl, trivial⟩, ⟨⟨rfl, trivial⟩, trivial⟩⟩⟩⟩, trivial⟩) (
 Sim.skip <| Sim.weak (k11 (x8, 1)) ⟨⟨⟨rfl, trivial⟩, ⟨⟨rfl, trivial⟩, ⟨⟨rfl, trivial⟩, ⟨⟨rfl, trivial⟩, trivial⟩⟩⟩⟩, trivial⟩)) (
 Sim.exitS <| Sim.out s1 ⟨⟨⟨rfl, trivial⟩, trivial⟩, trivial⟩)) (fun p2 =>
 Sim.exitB <| Sim.doneS <| Sim.seqI <| Sim.op1 (h_mv (o_t rfl)) <|
 Sim.op1 (h_mv (o_t rfl)) <|
 Sim.doneS <| Sim.ret (.one (res_t rfl)))
theorem sp_strings_trimRightUnicode : Spec tb fn_strings_trimRightUnicode [T.str, T.str] [T.str] (fun a => strings_trimRightUnicode a.1 a.2) :=
  Spec.of f_strings_trimRightUnicode rfl rfl rfl sim_strings_trimRightUnicode

noncomputable def strings_trimLeftUnicode (a0 : Str) (a1 : Str) : Option Str :=
 (iter (fun (s1 : Str) =>
 if (decide (0 < (s1.length : Int))) = true then
 (unicode_utf8_DecodeRuneInString s1).bind fun x5 =>
 (strings_ContainsRune a1 x5.1).bind fun x8 =>
 if (!x8) = true then
 some (.inr (.inl s1))
 else
 (subL s1 (some x5.2) none).bind fun x10 =>
 some (.inl x10)
 else
 some (.inr (.inl s1))) a0).bind (Sum.elim (fun (p2 : Str) =>
 some p2) some)
noncomputable def sim_strings_trimLeftUnicode (a : Res [T.str, T.str]) : Sim tb ⟨argsT [T.str, T.str] 0 a, []⟩ c_strings_trimLeftUnicode.body [] (QRes [T.str] c_strings_trimLeftUnicode.res) :=
 Sim.seqI <| Sim.op1 (h_mv o_s) <|
 Sim.doneS <| Sim.seqI <| Sim.blkI <| Sim.loop (id := 0) (σ := Str) (τ := Str) (fun s1 => ⟨[(0, .val T.str s1), (1, .val T.str a.2)], []⟩) (fun p2 => ⟨[(0, .val T.str p2)], []⟩) a.1 ⟨⟨⟨rfl, trivial⟩, ⟨⟨rfl, trivial⟩, trivial⟩⟩, trivial⟩ (fun _ => rfl) (fun s1 =>
 Sim.seqI <| Sim.seqI <| Sim.op1 (h_mv (o_t rfl)) <|
 Sim.op (h_lens (o_t rfl)) fun x3 =>
 Sim.op (h_cmp (I := (IT.int .i64)) rfl (o_t rfl) o_i) fun x4 =>
 Sim.doneS <| Sim.cond (o_t rfl) (
 Sim.skip <| Sim.doneS <| Sim.blkI <| Sim.seqI <| Sim.op1 (h_mv (o_t rfl)) <|
 Sim.op (h_callN sp_unicode_utf8_DecodeRuneInString (.one (o_t rfl))) fun x5 =>
 Sim.op1 (h_mv (o_t rfl)) <|
 Sim.opn (h_ext (o_t rfl) rfl) fun x6 =>
 Sim.opn (h_ext (o_t rfl) rfl) fun x7 =>
 Sim.op1 (h_mv (o_t rfl)) <|
 Sim.op1 (h_mv (o_t rfl)) <|
 Sim.doneS <| Sim.seqI <| Sim.seqI <| Sim.op1 (h_mv (o_t rfl)) <|
 Sim.op1 (h_mv (o_t rfl)) <|
 Sim.op (h_call1 sp_strings_ContainsRune (.cons (o_t rfl) <| .one (o_t rfl))) fun x8 =>
 Sim.op (h_not (o_t rfl)) fun x9 =>
 Sim.doneS <| Sim.cond (o_t rfl) (
 Sim.exitS <| Sim.exitO rfl <| Sim.out s1 ⟨⟨⟨rfl, trivial⟩, trivial⟩, trivial⟩) (
 Sim.skip <| Sim.doneS <| Sim.op1 (h_mv (o_t rfl)) <|
 Sim.op1 (h_mv (o_t rfl)) <|
 Sim.op (h_sls (o_t rfl) (.some (o_t rfl)) .none) fun x10 =>
 Sim.op1 (h_mv (o_t rfl)) <|
 Sim.doneB <| Sim.next x10 ⟨⟨⟨rfl, trivial⟩, ⟨⟨rfl, trivial⟩, trivial⟩⟩, trivial⟩)) (
 Sim.exitS <| Sim.out s1 ⟨⟨⟨rfl, trivial⟩, trivial⟩, trivial⟩)) (fun p2 =>
 Sim.exitB <| Sim.doneS <| Sim.seqI <| Sim.op1 (h_mv (o_t rfl)) <|
 Sim.op1 (h_mv (o_t rfl)) <|
 Sim.doneS <| Sim.ret (.one (res_t rfl)))
theorem sp_strings_trimLeftUnicode : Spec tb fn_strings_trimLeftUnicode [T.str, T.str] [T.str] (fun a => strings_trimLeftUnicode a.1 a.2) :=
  Spec.of f_strings_trimLeftUnicode rfl rfl rfl sim_strings_trimLeftUnicode

noncomputable def strings_Trim (a0 : Str) (a1 : Str) : Option Str :=
 (orO (decide (a0 = [])) (some (decide (a1 = [])))).bind fun x3 =>
 if x3 = true then
 some a0
 else
 (andO (decide ((a1.length : Int) = 1)) ((idx a1 0).bind fun x6 =>
 let x7 := decide ((x6.toNat : Int) < ((128 : UInt8).toNat : Int))
 some x7)).bind fun x8 =>
 if x8 = true then
 (idx a1 0).bind fun x9 =>
 (strings_trimRightByte a0 x9).bind fun x10 =>
 (idx a1 0).bind fun x11 =>
 (strings_trimLeftByte x10 x11).bind fun x12 =>
 some x12
 else
 (strings_makeASCIISet a1).bind fun x13 =>
 if x13.2 = true then
 (strings_trimRightASCII a0 (some x13.1)).bind fun x18 =>
 (strings_trimLeftASCII x18 (some x13.1)).bind fun x19 =>
 some x19
 else
 (strings_trimRightUnicode a0 a1).bind fun x20 =>
 (strings_trimLeftUnicode x20 a1).bind fun x21 =>
 some x21
noncomputable def sim_strings_Trim (a : Res [T.str, T.str]) : Sim tb ⟨argsT [T.str, T.str] 0 a, []⟩ c_strings_Trim.body [] (QRes [T.str] c_strings_Trim.res) :=
 Sim.seqI <| Sim.op1 (h_mv o_s) <|
 Sim.doneS <| Sim.seqI <| Sim.seqI <| Sim.op1 (h_mv (o_t rfl)) <|
 Sim.op (h_seql (o_t rfl) o_s) fun x1 =>
 Sim.op1 (h_mv (o_t rfl)) <|
 Sim.or 2 rfl rfl rfl (Grp.op1 (h_mv (o_t rfl)) <|
 Grp.op (h_seql (o_t rfl) o_s) fun x2 =>
 Grp.nil (o_t rfl)) fun x3 =>
 Sim.doneS <| Sim.cond (o_t rfl) (
 Sim.seqI <| Sim.op1 (h_mv (o_t rfl)) <|
 Sim.op1 (h_mv (o_t rfl)) <|
 Sim.doneS <| Sim.ret (.one (res_t rfl))) (
 Sim.skip <| Sim.doneS <| Sim.seqI <| Sim.seqI <| Sim.op1 (h_mv (o_t rfl)) <|
 Sim.op (h_lens (o_t rfl)) fun x4 =>
 Sim.op (h_cmp (I := (IT.int .i64)) rfl (o_t rfl) o_i) fun x5 =>
 Sim.op1 (h_mv (o_t rfl)) <|
 Sim.and 3 rfl rfl rfl (Grp.op1 (h_mv (o_t rfl)) <|
 Grp.op (h_ixs (o_t rfl) o_i) fun x6 =>
 Grp.op (h_cmp (I := IT.u8) rfl (o_t rfl) (o_u8 128 rfl)) fun x7 =>
 Grp.nil (o_t rfl)) fun x8 =>
 Sim.doneS <| Sim.cond (o_t rfl) (
 Sim.seqI <| Sim.op1 (h_mv (o_t rfl)) <|
 Sim.op1 (h_mv (o_t rfl)) <|
 Sim.op (h_ixs (o_t rfl) o_i) fun x9 =>
 Sim.op (h_call1 sp_strings_trimRightByte (.cons (o_t rfl) <| .one (o_t rfl))) fun x10 =>
 Sim.op1 (h_mv (o_t rfl)) <|
 Sim.op (h_ixs (o_t rfl) o_i) fun x11 =>
 Sim.op (h_call1 sp_strings_trimLeftByte (.cons (o_t rfl) <| .one (o_t rfl))) fun x12 =>
 Sim.op1 (h_mv (o_t rfl)) <|
 Sim.doneS <| Sim.ret (.one (res_t rfl))) (
 Sim.skip <| Sim.doneS <| Sim.seqI <| Sim.seqI <| Sim.op1 (h_mv (o_t rfl)) <|
 Sim.op (h_callN sp_strings_makeASCIISet (.one (o_t rfl))) fun x13 =>
 Sim.op1 (h_mv (o_t rfl)) <|
 Sim.opn (h_ext (o_t rfl) rfl) fun x14 =>
 Sim.opn (h_ext (o_t rfl) rfl) fun x15 =>
 Sim.opM (M_alloc (t := (T.arr 256 T.b)) 5 rfl rfl) fun x16 =>
 Sim.opM (M_stC (o_t rfl) (o_t rfl) rfl rfl (Fld.id _) rfl) fun x17 =>
 Sim.op1 (h_mv (o_t rfl)) <|
 Sim.doneS <| Sim.seqI <| Sim.op1 (h_mv (o_t rfl)) <|
 Sim.doneS <| Sim.cond (o_t rfl) (
 Sim.seqI <| Sim.op1 (h_mv (o_t rfl)) <|
 Sim.op (h_callR1 sp_strings_trimRightASCII (.cons flat_str .nil) (.cons (a_v (o_t rfl)) <| .one (a_p (o_t rfl) rfl rfl))) fun x18 =>
 Sim.op (h_callR1 sp_strings_trimLeftASCII (.cons flat_str .nil) (.cons (a_v (o_t rfl)) <| .one (a_p (o_t rfl) rfl rfl))) fun x19 =>
 Sim.op1 (h_mv (o_t rfl)) <|
 Sim.doneS <| Sim.ret (.one (res_t rfl))) (
 Sim.skip <| Sim.doneS <| Sim.seqI <| Sim.op1 (h_mv (o_t rfl)) <|
 Sim.op1 (h_mv (o_t rfl)) <|
 Sim.op (h_call1 sp_strings_trimRightUnicode (.cons (o_t rfl) <| .one (o_t rfl))) fun x20 =>
 Sim.op1 (h_mv (o_t rfl)) <|
 Sim.op (h_call1 sp_strings_trimLeftUnicode (.cons (o_t rfl) <| .one (o_t rfl))) fun x21 =>
 Sim.op1 (h_mv (o_t rfl)) <|
 Sim.doneS <| Sim.ret (.one (res_t rfl)))))
theorem sp_strings_Trim : Spec tb fn_strings_Trim [T.str, T.str] [T.str] (fun a => strings_Trim a.1 a.2) :=
  Spec.of f_strings_Trim rfl rfl rfl sim_strings_Trim

noncomputable def lines_Trim (a0 : Str) : Option Str :=
 (strings_Trim a0 [32, 9, 13]).bind fun x1 =>
 some x1
noncomputable def sim_lines_Trim (a : Res [T.str]) : Sim tb ⟨argsT [T.str] 0 a, []⟩ c_lines_Trim.body [] (QRes [T.str] c_lines_Trim.res) :=
 Sim.seqI <| Sim.op1 (h_mv o_s) <|
 Sim.doneS <| Sim.seqI <| Sim.op1 (h_mv (o_t rfl)) <|
 Sim.op (h_call1 sp_strings_Trim (.cons (o_t rfl) <| .one o_s)) fun x1 =>
 Sim.op1 (h_mv (o_t rfl)) <|
 Sim.doneS <| Sim.ret (.one (res_t rfl))
theorem sp_lines_Trim : Spec tb fn_lines_Trim [T.str] [T.str] (fun a => lines_Trim a) :=
  Spec.of f_lines_Trim rfl rfl rfl sim_lines_Trim

noncomputable def lines_Fold (a0 : Str) : Option Str :=
 (iter (fun (s2 : (Int × (GS UInt8))) =>
 if (decide (s2.1 < (a0.length : Int))) = true then
 (idxN s2.2.l.length s2.1).bind fun x5 =>
 (s2.2.l[x5]?.map fun x => x).bind fun x6 =>
 let x7 := decide (((65 : UInt8).toNat : Int) ≤ (x6.toNat : Int))
 (andO x7 (let x8 := decide ((x6.toNat : Int) ≤ ((90 : UInt8).toNat : Int))
 some x8)).bind fun x9 =>
 if x9 = true then
 let x10 := IT.u8.ofI (bitsR .or .u8 (x6.toNat : Int) ((32 : UInt8).toNat : Int))
 (idxN s2.2.l.length s2.1).bind fun x11 =>
 (s2.2.l[x11]?.map fun y => s2.2.set x11 x10).bind fun x12 =>
 some (.inl (IntKind.i64.wrap (s2.1 + 1), x12))
 else
 some (.inl (IntKind.i64.wrap (s2.1 + 1), s2.2))
 else
 some (.inr (.inl s2.2))) (0, (GS.mk a0))).bind (Sum.elim (fun (p3 : (GS UInt8)) =>
 some p3.l) some)
noncomputable def sim_lines_Fold (a : Res [T.str]) : Sim tb ⟨argsT [T.str] 0 a, []⟩ c_lines_Fold.body [] (QRes [T.str] c_lines_Fold.res) :=
 Sim.seqI <| Sim.op1 (h_mv o_s) <|
 Sim.doneS <| Sim.seqI <| Sim.op1 (h_mv (o_t rfl)) <|
 Sim.opM (M_cvb 1007 rfl (o_t rfl)) fun _ =>
 Sim.op1 (h_mv (o_t rfl)) <|
 Sim.doneS <| Sim.seqI <| Sim.seqI <| Sim.op1 (h_mv (o_t rfl)) <|
 Sim.op (h_lenO (o_t rfl) rfl) fun x1 =>
 Sim.op1 (h_mv o_i) <|
 Sim.doneS <| Sim.blkI <| Sim.loop (id := 0) (σ := (Int × (GS UInt8))) (τ := (GS UInt8)) (fun s2 => ⟨[(3, .own 1007), (8, .own 1007), (9, .val (T.int .i64) x1), (10, .val (T.int .i64) s2.1)], [(1007, .row T.u8 s2.2)]⟩) (fun p3 => ⟨[(3, .own 1007)], [(1007, .row T.u8 p3)]⟩) (0, (.mk a)) ⟨⟨⟨rfl, trivial⟩, ⟨⟨rfl, trivial⟩, ⟨⟨rfl, trivial⟩, ⟨⟨rfl, trivial⟩, trivial⟩⟩⟩⟩, ⟨⟨rfl, trivial⟩, trivial⟩⟩ (fun _ => rfl) (fun s2 =>
 Sim.seqI <| Sim.op (h_cmp (I := (IT.int .i64)) rfl (o_t rfl) (o_t rfl)) fun x4 =>
 Sim.doneS <| Sim.seqI <| Sim.cond (o_t rfl) (
 Sim.skip <| Sim.doneS <| Sim.seqI <| Sim.blkI <| Sim.seqI <| Sim.op1 (h_mv (o_t rfl)) <|
 Sim.op (h_iasO rfl (o_t rfl) rfl (o_t rfl)) fun x5 =>
 Sim.op (h_ldE (t := T.u8) (u := T.u8) rfl rfl (Fld.id _) (o_t rfl) rfl) fun x6 =>
 Sim.op1 (h_mv (o_t rfl)) <|
 Sim.op1 (h_mv (o_t rfl)) <|
 Sim.doneS <| Sim.seqI <| Sim.op1 (h_mv (o_t rfl)) <|
 Sim.op (h_cmp (I := IT.u8) rfl (o_t rfl) (o_u8 65 rfl)) fun x7 =>
 Sim.op1 (h_mv (o_t rfl)) <|
 Sim.and 2 rfl rfl rfl (Grp.op1 (h_mv (o_t rfl)) <|
 Grp.op (h_cmp (I := IT.u8) rfl (o_t rfl) (o_u8 90 rfl)) fun x8 =>
 Grp.nil (o_t rfl)) fun x9 =>
 Sim.doneS <| Sim.cond (o_t rfl) (
 Sim.op1 (h_mv (o_t rfl)) <|
 Sim.op1 (h_mv (o_t rfl)) <|
 Sim.op1 (h_mv (o_t rfl)) <|
 Sim.op (h_or (I := IT.u8) (o_t rfl) (o_u8 32 rfl)) fun x10 =>
 Sim.op (h_iasO rfl (o_t rfl) rfl (o_t rfl)) fun x11 =>
 Sim.opM (M_stE (t := T.u8) (u := T.u8) rfl (Fld.id _) (o_t rfl) (o_t rfl) rfl) fun x12 =>
 Sim.doneB <| Sim.doneS <| Sim.op (h_add (I := (IT.int .i64)) (o_t rfl) o_i) fun x13 =>
 Sim.op1 (h_mv (o_t rfl)) <|
 Sim.next (x13, x12) ⟨⟨⟨rfl, trivial⟩, ⟨⟨rfl, trivial⟩, ⟨⟨rfl, trivial⟩, ⟨⟨rfl, trivial⟩, trivial⟩⟩⟩⟩, ⟨⟨rfl, trivial⟩, trivial⟩⟩) (
 Sim.skip <| Sim.doneB <| Sim.doneS <| Sim.op (h_add (I := (IT.int .i64)) (o_t rfl) o_i) fun x14 =>
 Sim.op1 (h_mv (o_t rfl)) <|
 Sim.next (x14, s2.2) ⟨⟨⟨rfl, trivial⟩, ⟨⟨rfl, trivial⟩, ⟨⟨rfl, trivial⟩, ⟨⟨rfl, trivial⟩, trivial⟩⟩⟩⟩, ⟨⟨rfl, trivial⟩, trivial⟩⟩)) (
 Sim.exitS <| Sim.out s2.2 ⟨⟨⟨rfl, trivial⟩, trivial⟩, ⟨⟨rfl, trivial⟩, trivial⟩⟩)) (fun p3 =>
 Sim.exitB <| Sim.doneS <| Sim.seqI <| Sim.op1 (h_mv (o_t rfl)) <|
 Sim.op (h_cvsO (o_t rfl) rfl) fun x15 =>
 Sim.op1 (h_mv (o_t rfl)) <|
 Sim.doneS <| Sim.ret (.one (res_t rfl)))
theorem sp_lines_Fold : Spec tb fn_lines_Fold [T.str] [T.str] (fun a => lines_Fold a) :=
  Spec.of f_lines_Fold rfl rfl rfl sim_lines_Fold

end Go.Proofs.YtggdinpopddhnaaDoor.Am
