/-
  What functions compute, and that they do. Printed by mkwalk.py.
-/
import Derived.Test.YtkmdppdlglikkaaDoorCodes
set_option linter.unusedVariables false
set_option maxRecDepth 100000
namespace Go.Proofs.YtkmdppdlglikkaaDoor.Am

def internal_bytealg_IndexByteString (a0 : Str) (a1 : UInt8) : Option Int := some (findB a0 a1)
theorem sp_internal_bytealg_IndexByteString : Spec tb fn_internal_bytealg_IndexByteString [T.str, T.u8] [T.int .i64] (fun a => internal_bytealg_IndexByteString a.1 a.2) := Spec.byteS rfl
def internal_bytealg_CountString (a0 : Str) (a1 : UInt8) : Option Int := some (countB a0 a1)
theorem sp_internal_bytealg_CountString : Spec tb fn_internal_bytealg_CountString [T.str, T.u8] [T.int .i64] (fun a => internal_bytealg_CountString a.1 a.2) := Spec.byteS rfl
noncomputable def internal_stringslite_HasSuffix (a0 : Str) (a1 : Str) : Option Bool :=
 (andO (decide ((a1.length : Int) ≤ (a0.length : Int))) (let x6 := IntKind.i64.wrap ((a0.length : Int) - (a1.length : Int))
 (subL a0 (some x6) none).bind fun x7 =>
 some (decide (x7 = a1)))).bind fun x9 =>
 some x9
noncomputable def sim_internal_stringslite_HasSuffix (a : Res [T.str, T.str]) : Sim tb ⟨argsT [T.str, T.str] 0 a, []⟩ c_internal_stringslite_HasSuffix.body [] (QRes [T.b] c_internal_stringslite_HasSuffix.res) :=
 Sim.seqI <| Sim.op1 (h_mv o_b) <|
 Sim.doneS <| Sim.seqI <| Sim.op1 (h_mv (o_t rfl)) <|
 Sim.op (h_lens (o_t rfl)) fun x1 =>
 Sim.op1 (h_mv (o_t rfl)) <|
 Sim.op (h_lens (o_t rfl)) fun x2 =>
 Sim.op (h_cmp (I := (IT.int .i64)) rfl (o_t rfl) (o_t rfl)) fun x3 =>
 Sim.op1 (h_mv (o_t rfl)) <|
 Sim.and 9 rfl rfl rfl (Grp.op1 (h_mv (o_t rfl)) <|
 Grp.op1 (h_mv (o_t rfl)) <|
 Grp.op (h_lens (o_t rfl)) fun x4 =>
 Grp.op1 (h_mv (o_t rfl)) <|
 Grp.op (h_lens (o_t rfl)) fun x5 =>
 Grp.op (h_sub (I := (IT.int .i64)) (o_t rfl) (o_t rfl)) fun x6 =>
 Grp.op (h_sls (o_t rfl) (.some (o_t rfl)) .none) fun x7 =>
 Grp.op1 (h_mv (o_t rfl)) <|
 Grp.op (h_seql (o_t rfl) (o_t rfl)) fun x8 =>
 Grp.nil (o_t rfl)) fun x9 =>
 Sim.op1 (h_mv (o_t rfl)) <|
 Sim.doneS <| Sim.ret (.one (res_t rfl))
theorem sp_internal_stringslite_HasSuffix : Spec tb fn_internal_stringslite_HasSuffix [T.str, T.str] [T.b] (fun a => internal_stringslite_HasSuffix a.1 a.2) :=
  Spec.of f_internal_stringslite_HasSuffix rfl rfl rfl sim_internal_stringslite_HasSuffix

noncomputable def internal_stringslite_TrimSuffix (a0 : Str) (a1 : Str) : Option Str :=
 (internal_stringslite_HasSuffix a0 a1).bind fun x1 =>
 if x1 = true then
 let x4 := IntKind.i64.wrap ((a0.length : Int) - (a1.length : Int))
 (subL a0 none (some x4)).bind fun x5 =>
 some x5
 else
 some a0
noncomputable def sim_internal_stringslite_TrimSuffix (a : Res [T.str, T.str]) : Sim tb ⟨argsT [T.str, T.str] 0 a, []⟩ c_internal_stringslite_TrimSuffix.body [] (QRes [T.str] c_internal_stringslite_TrimSuffix.res) :=
 Sim.seqI <| Sim.op1 (h_mv o_s) <|
 Sim.doneS <| Sim.seqI <| Sim.seqI <| Sim.op1 (h_mv (o_t rfl)) <|
 Sim.op1 (h_mv (o_t rfl)) <|
 Sim.op (h_call1 sp_internal_stringslite_HasSuffix (.cons (o_t rfl) <| .one (o_t rfl))) fun x1 =>
 Sim.doneS <| Sim.cond (o_t rfl) (
 Sim.seqI <| Sim.op1 (h_mv (o_t rfl)) <|
 Sim.op1 (h_mv (o_t rfl)) <|
 Sim.op (h_lens (o_t rfl)) fun x2 =>
 Sim.op1 (h_mv (o_t rfl)) <|
 Sim.op (h_lens (o_t rfl)) fun x3 =>
 Sim.op (h_sub (I := (IT.int .i64)) (o_t rfl) (o_t rfl)) fun x4 =>
 Sim.op (h_sls (o_t rfl) .none (.some (o_t rfl))) fun x5 =>
 Sim.op1 (h_mv (o_t rfl)) <|
 Sim.doneS <| Sim.ret (.one (res_t rfl))) (
 Sim.skip <| Sim.doneS <| Sim.seqI <| Sim.op1 (h_mv (o_t rfl)) <|
 Sim.op1 (h_mv (o_t rfl)) <|
 Sim.doneS <| Sim.ret (.one (res_t rfl)))
theorem sp_internal_stringslite_TrimSuffix : Spec tb fn_internal_stringslite_TrimSuffix [T.str, T.str] [T.str] (fun a => internal_stringslite_TrimSuffix a.1 a.2) :=
  Spec.of f_internal_stringslite_TrimSuffix rfl rfl rfl sim_internal_stringslite_TrimSuffix

noncomputable def strings_TrimSuffix (a0 : Str) (a1 : Str) : Option Str :=
 (internal_stringslite_TrimSuffix a0 a1).bind fun x1 =>
 some x1
noncomputable def sim_strings_TrimSuffix (a : Res [T.str, T.str]) : Sim tb ⟨argsT [T.str, T.str] 0 a, []⟩ c_strings_TrimSuffix.body [] (QRes [T.str] c_strings_TrimSuffix.res) :=
 Sim.seqI <| Sim.op1 (h_mv o_s) <|
 Sim.doneS <| Sim.seqI <| Sim.op1 (h_mv (o_t rfl)) <|
 Sim.op1 (h_mv (o_t rfl)) <|
 Sim.op (h_call1 sp_internal_stringslite_TrimSuffix (.cons (o_t rfl) <| .one (o_t rfl))) fun x1 =>
 Sim.op1 (h_mv (o_t rfl)) <|
 Sim.doneS <| Sim.ret (.one (res_t rfl))
theorem sp_strings_TrimSuffix : Spec tb fn_strings_TrimSuffix [T.str, T.str] [T.str] (fun a => strings_TrimSuffix a.1 a.2) :=
  Spec.of f_strings_TrimSuffix rfl rfl rfl sim_strings_TrimSuffix

noncomputable def unicode_utf8_RuneCountInString (a0 : Str) : Option Int :=
 (iter (fun (s1 : (Int × Nat)) =>
 if s1.2 < a0.length then
 let x3 := runeAt a0 s1.2
 some (.inl (IntKind.i64.wrap (s1.1 + 1), s1.2 + x3.2))
 else
 some (.inr (.inl s1.1))) (0, 0)).bind (Sum.elim (fun (p2 : Int) =>
 some p2) some)
noncomputable def sim_unicode_utf8_RuneCountInString (a : Res [T.str]) : Sim tb ⟨argsT [T.str] 0 a, []⟩ c_unicode_utf8_RuneCountInString.body [] (QRes [(T.int .i64)] c_unicode_utf8_RuneCountInString.res) :=
 Sim.seqI <| Sim.op1 (h_mv o_i) <|
 Sim.doneS <| Sim.seqI <| Sim.seqI <| Sim.op1 (h_mv (o_t rfl)) <|
 Sim.opM (M_rng 1004 rfl (o_t rfl)) fun _ =>
 Sim.doneS <| Sim.blkI <| Sim.loop (id := 0) (σ := (Int × Nat)) (τ := Int) (fun s1 => ⟨[(2, .val (T.int .i64) s1.1), (4, .own 1004)], [(1004, .dom DIter (a, s1.2))]⟩) (fun p2 => ⟨[(2, .val (T.int .i64) p2)], []⟩) (0, 0) ⟨⟨⟨rfl, trivial⟩, ⟨⟨rfl, trivial⟩, trivial⟩⟩, ⟨⟨rfl, trivial⟩, trivial⟩⟩ (fun _ => rfl) (fun s1 =>
 Sim.seqI <| Sim.nxt (o_t rfl) rfl (fun x3 =>
 Sim.op1 (h_ext (o_t rfl) rfl) <|
 Sim.doneS <| Sim.seqI <| Sim.condT (o_t rfl) <|
 Sim.skip <| Sim.doneS <| Sim.blkI <| Sim.op1 (h_mv (o_t rfl)) <|
 Sim.op (h_add (I := (IT.int .i64)) (o_t rfl) o_i) fun x4 =>
 Sim.op1 (h_mv (o_t rfl)) <|
 Sim.doneB <| Sim.next (x4, s1.2 + x3.2) ⟨⟨⟨rfl, trivial⟩, ⟨⟨rfl, trivial⟩, trivial⟩⟩, ⟨⟨rfl, trivial⟩, trivial⟩⟩) (
 Sim.op1 (h_ext (o_t rfl) rfl) <|
 Sim.doneS <| Sim.seqI <| Sim.condF (o_t rfl) <|
 Sim.exitS <| Sim.out s1.1 ⟨⟨⟨rfl, trivial⟩, trivial⟩, trivial⟩)) (fun p2 =>
 Sim.exitB <| Sim.doneS <| Sim.seqI <| Sim.op1 (h_mv (o_t rfl)) <|
 Sim.op1 (h_mv (o_t rfl)) <|
 Sim.doneS <| Sim.ret (.one (res_t rfl)))
theorem sp_unicode_utf8_RuneCountInString : Spec tb fn_unicode_utf8_RuneCountInString [T.str] [(T.int .i64)] (fun a => unicode_utf8_RuneCountInString a) :=
  Spec.of f_unicode_utf8_RuneCountInString rfl rfl rfl sim_unicode_utf8_RuneCountInString

noncomputable def unicode_utf8_decodeRuneInStringSlow (a0 : Str) : Option (Int × Int) :=
 if (decide ((a0.length : Int) < 1)) = true then
 some (65533, 0)
 else
 (idx a0 0).bind fun x3 =>
 none
noncomputable def sim_unicode_utf8_decodeRuneInStringSlow (a : Res [T.str]) : Sim tb ⟨argsT [T.str] 0 a, []⟩ c_unicode_utf8_decodeRuneInStringSlow.body [] (QRes [(T.int .i32), (T.int .i64)] c_unicode_utf8_decodeRuneInStringSlow.res) :=
 Sim.seqI <| Sim.op1 (h_mv o_i) <|
 Sim.op1 (h_mv o_i) <|
 Sim.doneS <| Sim.seqI <| Sim.op1 (h_mv (o_t rfl)) <|
 Sim.op (h_lens (o_t rfl)) fun x1 =>
 Sim.op1 (h_mv (o_t rfl)) <|
 Sim.doneS <| Sim.seqI <| Sim.seqI <| Sim.op1 (h_mv (o_t rfl)) <|
 Sim.op (h_cmp (I := (IT.int .i64)) rfl (o_t rfl) o_i) fun x2 =>
 Sim.doneS <| Sim.cond (o_t rfl) (
 Sim.seqI <| Sim.op1 (h_mv o_i) <|
 Sim.op1 (h_mv o_i) <|
 Sim.doneS <| Sim.ret (.cons (res_t rfl) <| .one (res_t rfl))) (
 Sim.skip <| Sim.doneS <| Sim.seqI <| Sim.op1 (h_mv (o_t rfl)) <|
 Sim.op (h_ixs (o_t rfl) o_i) fun x3 =>
 Sim.op1 (h_mv (o_t rfl)) <|
 Sim.doneS <| Sim.seqI <| Sim.op1 (h_mv (o_t rfl)) <|
 Sim.stop)
theorem sp_unicode_utf8_decodeRuneInStringSlow : Spec tb fn_unicode_utf8_decodeRuneInStringSlow [T.str] [(T.int .i32), (T.int .i64)] (fun a => unicode_utf8_decodeRuneInStringSlow a) :=
  Spec.of f_unicode_utf8_decodeRuneInStringSlow rfl rfl rfl sim_unicode_utf8_decodeRuneInStringSlow

noncomputable def unicode_utf8_DecodeRuneInString (a0 : Str) : Option (Int × Int) :=
 (andO (!decide (a0 = [])) ((idx a0 0).bind fun x2 =>
 let x3 := decide ((x2.toNat : Int) < ((128 : UInt8).toNat : Int))
 some x3)).bind fun x4 =>
 if x4 = true then
 (idx a0 0).bind fun x5 =>
 some (IntKind.i32.wrap (x5.toNat : Int), 1)
 else
 (unicode_utf8_decodeRuneInStringSlow a0).bind fun x7 =>
 some (x7.1, x7.2)
noncomputable def sim_unicode_utf8_DecodeRuneInString (a : Res [T.str]) : Sim tb ⟨argsT [T.str] 0 a, []⟩ c_unicode_utf8_DecodeRuneInString.body [] (QRes [(T.int .i32), (T.int .i64)] c_unicode_utf8_DecodeRuneInString.res) :=
 Sim.seqI <| Sim.op1 (h_mv o_i) <|
 Sim.op1 (h_mv o_i) <|
 Sim.doneS <| Sim.seqI <| Sim.seqI <| Sim.op1 (h_mv (o_t rfl)) <|
 Sim.op (h_sneq (o_t rfl) o_s) fun x1 =>
 Sim.op1 (h_mv (o_t rfl)) <|
 Sim.and 3 rfl rfl rfl (Grp.op1 (h_mv (o_t rfl)) <|
 Grp.op (h_ixs (o_t rfl) o_i) fun x2 =>
 Grp.op (h_cmp (I := IT.u8) rfl (o_t rfl) (o_u8 128 rfl)) fun x3 =>
 Grp.nil (o_t rfl)) fun x4 =>
 Sim.doneS <| Sim.cond (o_t rfl) (
 Sim.seqI <| Sim.op1 (h_mv (o_t rfl)) <|
 Sim.op (h_ixs (o_t rfl) o_i) fun x5 =>
 Sim.op (h_cvi (I := IT.u8) (J := (IT.int .i32)) rfl (o_t rfl)) fun x6 =>
 Sim.op1 (h_mv (o_t rfl)) <|
 Sim.op1 (h_mv o_i) <|
 Sim.doneS <| Sim.ret (.cons (res_t rfl) <| .one (res_t rfl))) (
 Sim.op1 (h_mv (o_t rfl)) <|
 Sim.op (h_callN sp_unicode_utf8_decodeRuneInStringSlow (.one (o_t rfl))) fun x7 =>
 Sim.op1 (h_mv (o_t rfl)) <|
 Sim.opn (h_ext (o_t rfl) rfl) fun x8 =>
 Sim.opn (h_ext (o_t rfl) rfl) fun x9 =>
 Sim.op1 (h_mv (o_t rfl)) <|
 Sim.op1 (h_mv (o_t rfl)) <|
 Sim.doneS <| Sim.ret (.cons (res_t rfl) <| .one (res_t rfl)))
theorem sp_unicode_utf8_DecodeRuneInString : Spec tb fn_unicode_utf8_DecodeRuneInString [T.str] [(T.int .i32), (T.int .i64)] (fun a => unicode_utf8_DecodeRuneInString a) :=
  Spec.of f_unicode_utf8_DecodeRuneInString rfl rfl rfl sim_unicode_utf8_DecodeRuneInString

noncomputable def strings_explode (a0 : Str) (a1 : Int) : Option (GS Str) :=
 (unicode_utf8_RuneCountInString a0).bind fun x1 =>
 (orO (decide (a1 < 0)) (some (decide (x1 < a1)))).bind fun x4 =>
 (fun (k6 : Int → Option _) => if x4 = true then
 k6 x1
 else
 k6 a1) fun p5 =>
 (mkG [] 16 p5 p5).bind fun x7 =>
 (iter (fun (s8 : (Str × Int × (GS Str))) =>
 if (decide (s8.2.1 < IntKind.i64.wrap (p5 - 1))) = true then
 (unicode_utf8_DecodeRuneInString s8.1).bind fun x12 =>
 (subL s8.1 none (some x12.2)).bind fun x15 =>
 (idxN s8.2.2.l.length s8.2.1).bind fun x16 =>
 (s8.2.2.l[x16]?.map fun y => s8.2.2.set x16 x15).bind fun x17 =>
 (subL s8.1 (some x12.2) none).bind fun x18 =>
 some (.inl (x18, IntKind.i64.wrap (s8.2.1 + 1), x17))
 else
 some (.inr (.inl (s8.1, s8.2.2)))) (a0, 0, x7)).bind (Sum.elim (fun (p9 : (Str × (GS Str))) =>
 if (decide (0 < p5)) = true then
 (idxN p9.2.l.length (IntKind.i64.wrap (p5 - 1))).bind fun x22 =>
 (p9.2.l[x22]?.map fun y => p9.2.set x22 p9.1).bind fun x23 =>
 some x23
 else
 some p9.2) some)
noncomputable def sim_strings_explode (a : Res [T.str, (T.int .i64)]) : Sim tb ⟨argsT [T.str, (T.int .i64)] 0 a, []⟩ c_strings_explode.body [] (QRes [(T.sl T.str)] c_strings_explode.res) :=
 Sim.seqI <| Sim.op1 (h_mv (o_nils (t := T.str))) <|
 Sim.doneS <| Sim.seqI <| Sim.op1 (h_mv (o_t rfl)) <|
 Sim.op (h_call1 sp_unicode_utf8_RuneCountInString (.one (o_t rfl))) fun x1 =>
 Sim.op1 (h_mv (o_t rfl)) <|
 Sim.doneS <| Sim.seqI <| Sim.seqI <| Sim.op1 (h_mv (o_t rfl)) <|
 Sim.op (h_cmp (I := (IT.int .i64)) rfl (o_t rfl) o_i) fun x2 =>
 Sim.op1 (h_mv (o_t rfl)) <|
 Sim.or 3 rfl rfl rfl (Grp.op1 (h_mv (o_t rfl)) <|
 Grp.op1 (h_mv (o_t rfl)) <|
 Grp.op (h_cmp (I := (IT.int .i64)) rfl (o_t rfl) (o_t rfl)) fun x3 =>
 Grp.nil (o_t rfl)) fun x4 =>
 Sim.doneS <| Sim.join (τ := Int) (fun p5 => ⟨[(0, .val T.str a.1), (1, .val (T.int .i64) p5)], []⟩) (fun p5 =>
 Sim.doneS <| Sim.seqI <| Sim.op1 (h_mv (o_t rfl)) <|
 Sim.opM (M_mks (t := T.str) 1021 rfl rfl rfl (o_t rfl) (o_t rfl)) fun x7 =>
 Sim.op1 (h_mv (o_t rfl)) <|
 Sim.doneS <| Sim.seqI <| Sim.seqI <| Sim.op1 (h_mv o_i) <|
 Sim.doneS <| Sim.blkI <| Sim.loop (id := 0) (σ := (Str × Int × (GS Str))) (τ := (Str × (GS Str))) (fun s8 => ⟨[(0, .val T.str s8.1), (1, .val (T.int .i64) p5), (6, .own 1021), (7, .val (T.int .i64) s8.2.1)], [(1021, .row T.str s8.2.2)]⟩) (fun p9 => ⟨[(0, .val T.str p9.1), (1, .val (T.int .i64) p5), (6, .own 1021)], [(1021, .row T.str p9.2)]⟩) (a.1, 0, x7) ⟨⟨⟨rfl, trivial⟩, ⟨⟨rfl, trivial⟩, ⟨⟨rfl, trivial⟩, ⟨⟨rfl, trivial⟩, trivial⟩⟩⟩⟩, ⟨⟨rfl, trivial⟩, trivial⟩⟩ (fun _ => rfl) (fun s8 =>
 Sim.seqI <| Sim.seqI <| Sim.op1 (h_mv (o_t rfl)) <|
 Sim.op1 (h_mv (o_t rfl)) <|
 Sim.op (h_sub (I := (IT.int .i64)) (o_t rfl) o_i) fun x10 =>
 Sim.op (h_cmp (I := (IT.int .i64)) rfl (o_t rfl) (o_t rfl)) fun x11 =>
 Sim.doneS <| Sim.cond (o_t rfl) (
 Sim.skip <| Sim.doneS <| Sim.seqI <| Sim.blkI <| Sim.seqI <| Sim.op1 (h_mv (o_t rfl)) <|
 Sim.op (h_callN sp_unicode_utf8_DecodeRuneInString (.one (o_t rfl))) fun x12 =>
 Sim.op1 (h_mv (o_t rfl)) <|
 Sim.opn (h_ext (o_t rfl) rfl) fun x13 =>
 Sim.opn (h_ext (o_t rfl) rfl) fun x14 =>
 Sim.op1 (h_mv (o_t rfl)) <|
 Sim.op1 (h_mv (o_t rfl)) <|
 Sim.doneS <| Sim.seqI <| Sim.op1 (h_mv (o_t rfl)) <|
 Sim.op1 (h_mv (o_t rfl)) <|
 Sim.op1 (h_mv (o_t rfl)) <|
 Sim.op1 (h_mv (o_t rfl)) <|
 Sim.op (h_sls (o_t rfl) .none (.some (o_t rfl))) fun x15 =>
 Sim.op (h_iasO rfl (o_t rfl) rfl (o_t rfl)) fun x16 =>
 Sim.opM (M_stE (t := T.str) (u := T.str) rfl (Fld.id _) (o_t rfl) (o_t rfl) rfl) fun x17 =>
 Sim.doneS <| Sim.op1 (h_mv (o_t rfl)) <|
 Sim.op1 (h_mv (o_t rfl)) <|
 Sim.op (h_sls (o_t rfl) (.some (o_t rfl)) .none) fun x18 =>
 Sim.op1 (h_mv (o_t rfl)) <|
 Sim.doneB <| Sim.doneS <| Sim.op1 (h_mv (o_t rfl)) <|
 Sim.op (h_add (I := (IT.int .i64)) (o_t rfl) o_i) fun x19 =>
 Sim.op1 (h_mv (o_t rfl)) <|
 Sim.next (x18, x19, x17) ⟨⟨⟨rfl, trivial⟩, ⟨⟨rfl, trivial⟩, ⟨⟨rfl, trivial⟩, ⟨⟨rfl, trivial⟩, trivial⟩⟩⟩⟩, ⟨⟨rfl, trivial⟩, trivial⟩⟩) (
 Sim.exitS <| Sim.out (s8.1, s8.2.2) ⟨⟨⟨rfl, trivial⟩, ⟨⟨rfl, trivial⟩, ⟨⟨rfl, trivial⟩, trivial⟩⟩⟩, ⟨⟨rfl, trivial⟩, trivial⟩⟩)) (fun p9 =>
 Sim.exitB <| Sim.doneS <| Sim.seqI <| Sim.seqI <| Sim.op1 (h_mv (o_t rfl)) <|
 Sim.op (h_cmp (I := (IT.int .i64)) rfl (o_t rfl) o_i) fun x20 =>
 Sim.doneS <| Sim.cond (o_t rfl) (
 Sim.op1 (h_mv (o_t rfl)) <|
 Sim.op1 (h_mv (o_t rfl)) <|
 Sim.op (h_sub (I := (IT.int .i64)) (o_t rfl) o_i) fun x21 =>
 Sim.op1 (h_mv (o_t rfl)) <|
 Sim.op (h_iasO rfl (o_t rfl) rfl (o_t rfl)) fun x22 =>
 Sim.opM (M_stE (t := T.str) (u := T.str) rfl (Fld.id _) (o_t rfl) (o_t rfl) rfl) fun x23 =>
 Sim.doneS <| Sim.seqI <| Sim.op1 (h_mv (o_t rfl)) <|
 Sim.op1 (h_mv (o_t rfl)) <|
 Sim.doneS <| Sim.frzRow 1021 rfl rfl <| Sim.ret (.one (res_t rfl))) (
 Sim.skip <| Sim.doneS <| Sim.seqI <| Sim.op1 (h_mv (o_t rfl)) <|
 Sim.op1 (h_mv (o_t rfl)) <|
 Sim.doneS <| Sim.frzRow 1021 rfl rfl <| Sim.ret (.one (res_t rfl))))) fun k6 => Sim.cond (o_t rfl) (
 Sim.op1 (h_mv (o_t rfl)) <|
 Sim.op1 (h_mv (o_t rfl)) <|
 Sim.weak (k6 x1) ⟨⟨⟨rfl, trivial⟩, ⟨⟨rfl, trivial⟩, trivial⟩⟩, trivial⟩) (
 Sim.skip <| Sim.weak (k6 a.2) ⟨⟨⟨rfl, trivial⟩, ⟨⟨rfl, trivial⟩, trivial⟩⟩, trivial⟩)
theorem sp_strings_explode : Spec tb fn_strings_explode [T.str, (T.int .i64)] [(T.sl T.str)] (fun a => strings_explode a.1 a.2) :=
  Spec.of f_strings_explode rfl rfl rfl sim_strings_explode

noncomputable def internal_stringslite_IndexByte (a0 : Str) (a1 : UInt8) : Option Int :=
 (internal_bytealg_IndexByteString a0 a1).bind fun x1 =>
 some x1
noncomputable def sim_internal_stringslite_IndexByte (a : Res [T.str, T.u8]) : Sim tb ⟨argsT [T.str, T.u8] 0 a, []⟩ c_internal_stringslite_IndexByte.body [] (QRes [(T.int .i64)] c_internal_stringslite_IndexByte.res) :=
 Sim.seqI <| Sim.op1 (h_mv o_i) <|
 Sim.doneS <| Sim.seqI <| Sim.op1 (h_mv (o_t rfl)) <|
 Sim.op1 (h_mv (o_t rfl)) <|
 Sim.op (h_call1 sp_internal_bytealg_IndexByteString (.cons (o_t rfl) <| .one (o_t rfl))) fun x1 =>
 Sim.op1 (h_mv (o_t rfl)) <|
 Sim.doneS <| Sim.ret (.one (res_t rfl))
theorem sp_internal_stringslite_IndexByte : Spec tb fn_internal_stringslite_IndexByte [T.str, T.u8] [(T.int .i64)] (fun a => internal_stringslite_IndexByte a.1 a.2) :=
  Spec.of f_internal_stringslite_IndexByte rfl rfl rfl sim_internal_stringslite_IndexByte

noncomputable def internal_bytealg_Cutover (a0 : Int) : Option Int :=
 (if 8 = 0 then none else some (IntKind.i64.wrap (Int.tdiv (IntKind.i64.wrap (a0 + 16)) 8))).bind fun x2 =>
 some x2
noncomputable def sim_internal_bytealg_Cutover (a : Res [(T.int .i64)]) : Sim tb ⟨argsT [(T.int .i64)] 0 a, []⟩ c_internal_bytealg_Cutover.body [] (QRes [(T.int .i64)] c_internal_bytealg_Cutover.res) :=
 Sim.seqI <| Sim.op1 (h_mv o_i) <|
 Sim.doneS <| Sim.seqI <| Sim.op1 (h_mv (o_t rfl)) <|
 Sim.op (h_add (I := (IT.int .i64)) (o_t rfl) o_i) fun x1 =>
 Sim.op (h_quo (I := (IT.int .i64)) (o_t rfl) o_i) fun x2 =>
 Sim.op1 (h_mv (o_t rfl)) <|
 Sim.doneS <| Sim.ret (.one (res_t rfl))
theorem sp_internal_bytealg_Cutover : Spec tb fn_internal_bytealg_Cutover [(T.int .i64)] [(T.int .i64)] (fun a => internal_bytealg_Cutover a) :=
  Spec.of f_internal_bytealg_Cutover rfl rfl rfl sim_internal_bytealg_Cutover

noncomputable def internal_bytealg_hashStr_string (a0 : Str) : Option (UInt32 × UInt32) :=
 (iter (fun (s1 : (UInt32 × Int)) =>
 if (decide (s1.2 < (a0.length : Int))) = true then
 let x5 := IT.u32.ofI ((s1.1.toNat : Int) * ((16777619 : UInt32).toNat : Int))
 (idx a0 s1.2).bind fun x6 =>
 let x8 := IT.u32.ofI ((x5.toNat : Int) + ((IT.u32.ofI (x6.toNat : Int)).toNat : Int))
 some (.inl (x8, IntKind.i64.wrap (s1.2 + 1)))
 else
 some (.inr (.inl s1.1))) ((0 : UInt32), 0)).bind (Sum.elim (fun (p2 : UInt32) =>
 (iter (fun (s11 : (UInt32 × UInt32 × Int)) =>
 if (decide (0 < s11.2.2)) = true then
 let x15 := !decide (IntKind.i64.wrap (bitsR .and .i64 s11.2.2 1) = 0)
 (fun (k17 : UInt32 → Option _) => if x15 = true then
 let x20 := IT.u32.ofI ((s11.1.toNat : Int) * (s11.2.1.toNat : Int))
 k17 x20
 else
 k17 s11.1) fun p16 =>
 let x18 := IT.u32.ofI ((s11.2.1.toNat : Int) * (s11.2.1.toNat : Int))
 (if ((1 : UInt64).toNat : Int) < 0 then none else some (Int.fdiv s11.2.2 (2 ^ (min ((1 : UInt64).toNat : Int).toNat 64)))).bind fun x19 =>
 some (.inl (p16, x18, x19))
 else
 some (.inr (.inl s11.1))) ((1 : UInt32), (16777619 : UInt32), (a0.length : Int))).bind (Sum.elim (fun (p12 : UInt32) =>
 some (p2, p12)) some)) some)
noncomputable def sim_internal_bytealg_hashStr_string (a : Res [T.str]) : Sim tb ⟨argsT [T.str] 0 a, []⟩ c_internal_bytealg_hashStr_string.body [] (QRes [T.u32, T.u32] c_internal_bytealg_hashStr_string.res) :=
 Sim.seqI <| Sim.op1 (h_mv (o_u32 0 rfl)) <|
 Sim.op1 (h_mv (o_u32 0 rfl)) <|
 Sim.doneS <| Sim.seqI <| Sim.op1 (h_mv (o_u32 0 rfl)) <|
 Sim.doneS <| Sim.seqI <| Sim.seqI <| Sim.op1 (h_mv o_i) <|
 Sim.doneS <| Sim.blkI <| Sim.loop (id := 0) (σ := (UInt32 × Int)) (τ := UInt32) (fun s1 => ⟨[(0, .val T.str a), (4, .val T.u32 s1.1), (5, .val (T.int .i64) s1.2)], []⟩) (fun p2 => ⟨[(0, .val T.str a), (4, .val T.u32 p2)], []⟩) ((0 : UInt32), 0) ⟨⟨⟨rfl, trivial⟩, ⟨⟨rfl, trivial⟩, ⟨⟨rfl, trivial⟩, trivial⟩⟩⟩, trivial⟩ (fun _ => rfl) (fun s1 =>
 Sim.seqI <| Sim.seqI <| Sim.op1 (h_mv (o_t rfl)) <|
 Sim.op1 (h_mv (o_t rfl)) <|
 Sim.op (h_lens (o_t rfl)) fun x3 =>
 Sim.op (h_cmp (I := (IT.int .i64)) rfl (o_t rfl) (o_t rfl)) fun x4 =>
 Sim.doneS <| Sim.cond (o_t rfl) (
 Sim.skip <| Sim.doneS <| Sim.seqI <| Sim.blkI <| Sim.op1 (h_mv (o_t rfl)) <|
 Sim.op (h_mul (I := IT.u32) (o_t rfl) (o_u32 16777619 rfl)) fun x5 =>
 Sim.op1 (h_mv (o_t rfl)) <|
 Sim.op1 (h_mv (o_t rfl)) <|
 Sim.op (h_ixs (o_t rfl) (o_t rfl)) fun x6 =>
 Sim.op (h_cvi (I := IT.u8) (J := IT.u32) rfl (o_t rfl)) fun x7 =>
 Sim.op (h_add (I := IT.u32) (o_t rfl) (o_t rfl)) fun x8 =>
 Sim.op1 (h_mv (o_t rfl)) <|
 Sim.doneB <| Sim.doneS <| Sim.op1 (h_mv (o_t rfl)) <|
 Sim.op (h_add (I := (IT.int .i64)) (o_t rfl) o_i) fun x9 =>
 Sim.op1 (h_mv (o_t rfl)) <|
 Sim.next (x8, x9) ⟨⟨⟨rfl, trivial⟩, ⟨⟨rfl, trivial⟩, ⟨⟨rfl, trivial⟩, trivial⟩⟩⟩, trivial⟩) (
 Sim.exitS <| Sim.out s1.1 ⟨⟨⟨rfl, trivial⟩, ⟨⟨rfl, trivial⟩, trivial⟩⟩, trivial⟩)) (fun p2 =>
 Sim.exitB <| Sim.doneS <| Sim.seqI <| Sim.op1 (h_mv (o_u32 1 rfl)) <|
 Sim.op1 (h_mv (o_u32 16777619 rfl)) <|
 Sim.doneS <| Sim.seqI <| Sim.seqI <| Sim.op1 (h_mv (o_t rfl)) <|
 Sim.op (h_lens (o_t rfl)) fun x10 =>
 Sim.op1 (h_mv (o_t rfl)) <|
 Sim.doneS <| Sim.blkI <| Sim.loop (id := 2) (σ := (UInt32 × UInt32 × Int)) (τ := UInt32) (fun s11 => ⟨[(4, .val T.u32 p2), (6, .val T.u32 s11.1), (7, .val T.u32 s11.2.1), (8, .val (T.int .i64) s11.2.2)], []⟩) (fun p12 => ⟨[(4, .val T.u32 p2), (6, .val T.u32 p12)], []⟩) ((1 : UInt32), (16777619 : UInt32), x10) ⟨⟨⟨rfl, trivial⟩, ⟨⟨rfl, trivial⟩, ⟨⟨rfl, trivial⟩, ⟨⟨rfl, trivial⟩, trivial⟩⟩⟩⟩, trivial⟩ (fun _ => rfl) (fun s11 =>
 Sim.seqI <| Sim.seqI <| Sim.op1 (h_mv (o_t rfl)) <|
 Sim.op (h_cmp (I := (IT.int .i64)) rfl (o_t rfl) o_i) fun x13 =>
 Sim.doneS <| Sim.cond (o_t rfl) (
 Sim.skip <| Sim.doneS <| Sim.seqI <| Sim.blkI <| Sim.seqI <| Sim.seqI <| Sim.op1 (h_mv (o_t rfl)) <|
 Sim.op (h_and (I := (IT.int .i64)) (o_t rfl) o_i) fun x14 =>
 Sim.op (h_cmp (I := (IT.int .i64)) rfl (o_t rfl) o_i) fun x15 =>
 Sim.doneS <| Sim.join (τ := UInt32) (fun p16 => ⟨[(4, .val T.u32 p2), (6, .val T.u32 p16), (7, .val T.u32 s11.2.1), (8, .val (T.int .i64) s11.2.2)], []⟩) (fun p16 =>
 Sim.doneS <| Sim.op1 (h_mv (o_t rfl)) <|
 Sim.op1 (h_mv (o_t rfl)) <|
 Sim.op (h_mul (I := IT.u32) (o_t rfl) (o_t rfl)) fun x18 =>
 Sim.op1 (h_mv (o_t rfl)) <|
 Sim.doneB <| Sim.doneS <| Sim.op1 (h_mv (o_t rfl)) <|
 Sim.op (h_shr (J := IT.u64) (o_t rfl) (o_u64 1 rfl)) fun x19 =>
 Sim.op1 (h_mv (o_t rfl)) <|
 Sim.next (p16, x18, x19) ⟨⟨⟨rfl, trivial⟩, ⟨⟨rfl, trivial⟩, ⟨⟨rfl, trivial⟩, ⟨⟨rfl, trivial⟩, trivial⟩⟩⟩⟩, trivial⟩) fun k17 => Sim.cond (o_t rfl) (
 Sim.op1 (h_mv (o_t rfl)) <|
 Sim.op1 (h_mv (o_t rfl)) <|
 Sim.op (h_mul (I := IT.u32) (o_t rfl) (o_t rfl)) fun x20 =>
 Sim.op1 (h_mv (o_t rfl)) <|
 Sim.weak (k17 x20) ⟨⟨⟨rfl, trivial⟩, ⟨⟨rfl, trivial⟩, ⟨⟨rfl, trivial⟩, ⟨⟨rfl, trivial⟩, trivial⟩⟩⟩⟩, trivial⟩) (
 Sim.skip <| Sim.weak (k17 s11.1) ⟨⟨⟨rfl, trivial⟩, ⟨⟨rfl, trivial⟩, ⟨⟨rfl, trivial⟩, ⟨⟨rfl, trivial⟩, trivial⟩⟩⟩⟩, trivial⟩)) (
 Sim.exitS <| Sim.out s11.1 ⟨⟨⟨rfl, trivial⟩, ⟨⟨rfl, trivial⟩, trivial⟩⟩, trivial⟩)) (fun p12 =>
 Sim.exitB <| Sim.doneS <| Sim.seqI <| Sim.op1 (h_mv (o_t rfl)) <|
 Sim.op1 (h_mv (o_t rfl)) <|
 Sim.op1 (h_mv (o_t rfl)) <|
 Sim.op1 (h_mv (o_t rfl)) <|
 Sim.doneS <| Sim.ret (.cons (res_t rfl) <| .one (res_t rfl))))
theorem sp_internal_bytealg_hashStr_string : Spec tb fn_internal_bytealg_hashStr_string [T.str] [T.u32, T.u32] (fun a => internal_bytealg_hashStr_string a) :=
  Spec.of f_internal_bytealg_hashStr_string rfl rfl rfl sim_internal_bytealg_hashStr_string

noncomputable def internal_bytealg_IndexRabinKarp_string (a0 : Str) (a1 : Str) : Option Int :=
 (internal_bytealg_hashStr_string a1).bind fun x1 =>
 (iter (fun (s5 : (UInt32 × Int)) =>
 if (decide (s5.2 < (a1.length : Int))) = true then
 let x8 := IT.u32.ofI ((s5.1.toNat : Int) * ((16777619 : UInt32).toNat : Int))
 (idx a0 s5.2).bind fun x9 =>
 let x11 := IT.u32.ofI ((x8.toNat : Int) + ((IT.u32.ofI (x9.toNat : Int)).toNat : Int))
 some (.inl (x11, IntKind.i64.wrap (s5.2 + 1)))
 else
 some (.inr (.inl s5.1))) ((0 : UInt32), 0)).bind (Sum.elim (fun (p6 : UInt32) =>
 (andO (decide ((p6.toNat : Int) = (x1.1.toNat : Int))) ((subL a0 none (some (a1.length : Int))).bind fun x14 =>
 some (decide (x14 = a1)))).bind fun x16 =>
 if x16 = true then
 some 0
 else
 (iter (fun (s17 : (UInt32 × Int)) =>
 if (decide (s17.2 < (a0.length : Int))) = true then
 let x21 := IT.u32.ofI ((s17.1.toNat : Int) * ((16777619 : UInt32).toNat : Int))
 (idx a0 s17.2).bind fun x22 =>
 let x24 := IT.u32.ofI ((x21.toNat : Int) + ((IT.u32.ofI (x22.toNat : Int)).toNat : Int))
 (idx a0 (IntKind.i64.wrap (s17.2 - (a1.length : Int)))).bind fun x26 =>
 let x28 := IT.u32.ofI ((x1.2.toNat : Int) * ((IT.u32.ofI (x26.toNat : Int)).toNat : Int))
 let x29 := IT.u32.ofI ((x24.toNat : Int) - (x28.toNat : Int))
 (andO (decide ((x29.toNat : Int) = (x1.1.toNat : Int))) (let x32 := IntKind.i64.wrap (IntKind.i64.wrap (s17.2 + 1) - (a1.length : Int))
 (subL a0 (some x32) (some (IntKind.i64.wrap (s17.2 + 1)))).bind fun x33 =>
 some (decide (x33 = a1)))).bind fun x35 =>
 if x35 = true then
 let x36 := IntKind.i64.wrap (IntKind.i64.wrap (s17.2 + 1) - (a1.length : Int))
 (some x36).map fun r => .inr (.inr r)
 else
 some (.inl (x29, IntKind.i64.wrap (s17.2 + 1)))
 else
 some (.inr (.inl ()))) (p6, (a1.length : Int))).bind (Sum.elim (fun (p18 : Unit) =>
 some (-1)) some)) some)
noncomputable def sim_internal_bytealg_IndexRabinKarp_string (a : Res [T.str, T.str]) : Sim tb ⟨argsT [T.str, T.str] 0 a, []⟩ c_internal_bytealg_IndexRabinKarp_string.body [] (QRes [(T.int .i64)] c_internal_bytealg_IndexRabinKarp_string.res) :=
 Sim.seqI <| Sim.op1 (h_mv o_i) <|
 Sim.doneS <| Sim.seqI <| Sim.op1 (h_mv (o_t rfl)) <|
 Sim.op (h_callN sp_internal_bytealg_hashStr_string (.one (o_t rfl))) fun x1 =>
 Sim.op1 (h_mv (o_t rfl)) <|
 Sim.opn (h_ext (o_t rfl) rfl) fun x2 =>
 Sim.opn (h_ext (o_t rfl) rfl) fun x3 =>
 Sim.op1 (h_mv (o_t rfl)) <|
 Sim.op1 (h_mv (o_t rfl)) <|
 Sim.doneS <| Sim.seqI <| Sim.op1 (h_mv (o_t rfl)) <|
 Sim.op (h_lens (o_t rfl)) fun x4 =>
 Sim.op1 (h_mv (o_t rfl)) <|
 Sim.doneS <| Sim.seqI <| Sim.op1 (h_mv (o_u32 0 rfl)) <|
 Sim.doneS <| Sim.seqI <| Sim.seqI <| Sim.op1 (h_mv o_i) <|
 Sim.doneS <| Sim.blkI <| Sim.loop (id := 0) (σ := (UInt32 × Int)) (τ := UInt32) (fun s5 => ⟨[(0, .val T.str a.1), (1, .val T.str a.2), (5, .val T.u32 x2), (6, .val T.u32 x3), (7, .val (T.int .i64) x4), (8, .val T.u32 s5.1), (9, .val (T.int .i64) s5.2)], []⟩) (fun p6 => ⟨[(0, .val T.str a.1), (1, .val T.str a.2), (5, .val T.u32 x2), (6, .val T.u32 x3), (7, .val (T.int .i64) x4), (8, .val T.u32 p6)], []⟩) ((0 : UInt32), 0) ⟨⟨⟨rfl, trivial⟩, ⟨⟨rfl, trivial⟩, ⟨⟨rfl, trivial⟩, ⟨⟨rfl, trivial⟩, ⟨⟨rfl, trivial⟩, ⟨⟨rfl, trivial⟩, ⟨⟨rfl, trivial⟩, trivial⟩⟩⟩⟩⟩⟩⟩, trivial⟩ (fun _ => rfl) (fun s5 =>
 Sim.seqI <| Sim.seqI <| Sim.op1 (h_mv (o_t rfl)) <|
 Sim.op1 (h_mv (o_t rfl)) <|
 Sim.op (h_cmp (I := (IT.int .i64)) rfl (o_t rfl) (o_t rfl)) fun x7 =>
 Sim.doneS <| Sim.cond (o_t rfl) (
 Sim.skip <| Sim.doneS <| Sim.seqI <| Sim.blkI <| Sim.op1 (h_mv (o_t rfl)) <|
 Sim.op (h_mul (I := IT.u32) (o_t rfl) (o_u32 16777619 rfl)) fun x8 =>
 Sim.op1 (h_mv (o_t rfl)) <|
 Sim.op1 (h_mv (o_t rfl)) <|
 Sim.op (h_ixs (o_t rfl) (o_t rfl)) fun x9 =>
 Sim.op (h_cvi (I := IT.u8) (J := IT.u32) rfl (o_t rfl)) fun x10 =>
 Sim.op (h_add (I := IT.u32) (o_t rfl) (o_t rfl)) fun x11 =>
 Sim.op1 (h_mv (o_t rfl)) <|
 Sim.doneB <| Sim.doneS <| Sim.op1 (h_mv (o_t rfl)) <|
 Sim.op (h_add (I := (IT.int .i64)) (o_t rfl) o_i) fun x12 =>
 Sim.op1 (h_mv (o_t rfl)) <|
 Sim.next (x11, x12) ⟨⟨⟨rfl, trivial⟩, ⟨⟨rfl, trivial⟩, ⟨⟨rfl, trivial⟩, ⟨⟨rfl, trivial⟩, ⟨⟨rfl, trivial⟩, ⟨⟨rfl, trivial⟩, ⟨⟨rfl, trivial⟩, trivial⟩⟩⟩⟩⟩⟩⟩, trivial⟩) (
 Sim.exitS <| Sim.out s5.1 ⟨⟨⟨rfl, trivial⟩, ⟨⟨rfl, trivial⟩, ⟨⟨rfl, trivial⟩, ⟨⟨rfl, trivial⟩, ⟨⟨rfl, trivial⟩, ⟨⟨rfl, trivial⟩, trivial⟩⟩⟩⟩⟩⟩, trivial⟩)) (fun p6 =>
 Sim.exitB <| Sim.doneS <| Sim.seqI <| Sim.seqI <| Sim.op1 (h_mv (o_t rfl)) <|
 Sim.op1 (h_mv (o_t rfl)) <|
 Sim.op (h_cmp (I := IT.u32) rfl (o_t rfl) (o_t rfl)) fun x13 =>
 Sim.op1 (h_mv (o_t rfl)) <|
 Sim.and 5 rfl rfl rfl (Grp.op1 (h_mv (o_t rfl)) <|
 Grp.op1 (h_mv (o_t rfl)) <|
 Grp.op (h_sls (o_t rfl) .none (.some (o_t rfl))) fun x14 =>
 Grp.op1 (h_mv (o_t rfl)) <|
 Grp.op (h_seql (o_t rfl) (o_t rfl)) fun x15 =>
 Grp.nil (o_t rfl)) fun x16 =>
 Sim.doneS <| Sim.cond (o_t rfl) (
 Sim.seqI <| Sim.op1 (h_mv o_i) <|
 Sim.doneS <| Sim.ret (.one (res_t rfl))) (
 Sim.skip <| Sim.doneS <| Sim.seqI <| Sim.seqI <| Sim.op1 (h_mv (o_t rfl)) <|
 Sim.op1 (h_mv (o_t rfl)) <|
 Sim.doneS <| Sim.blkI <| Sim.loop (id := 2) (σ := (UInt32 × Int)) (τ := Unit) (fun s17 => ⟨[(0, .val T.str a.1), (1, .val T.str a.2), (5, .val T.u32 x2), (6, .val T.u32 x3), (7, .val (T.int .i64) x4), (8, .val T.u32 s17.1), (10, .val (T.int .i64) s17.2)], []⟩) (fun p18 => ⟨[], []⟩) (p6, x4) ⟨⟨⟨rfl, trivial⟩, ⟨⟨rfl, trivial⟩, ⟨⟨rfl, trivial⟩, ⟨⟨rfl, trivial⟩, ⟨⟨rfl, trivial⟩, ⟨⟨rfl, trivial⟩, ⟨⟨rfl, trivial⟩, trivial⟩⟩⟩⟩⟩⟩⟩, trivial⟩ (fun _ => rfl) (fun s17 =>
 Sim.seqI <| Sim.seqI <| Sim.op1 (h_mv (o_t rfl)) <|
 Sim.op1 (h_mv (o_t rfl)) <|
 Sim.op (h_lens (o_t rfl)) fun x19 =>
 Sim.op (h_cmp (I := (IT.int .i64)) rfl (o_t rfl) (o_t rfl)) fun x20 =>
 Sim.doneS <| Sim.cond (o_t rfl) (
 Sim.skip <| Sim.doneS <| Sim.blkI <| Sim.seqI <| Sim.op1 (h_mv (o_t rfl)) <|
 Sim.op (h_mul (I := IT.u32) (o_t rfl) (o_u32 16777619 rfl)) fun x21 =>
 Sim.op1 (h_mv (o_t rfl)) <|
 Sim.doneS <| Sim.seqI <| Sim.op1 (h_mv (o_t rfl)) <|
 Sim.op1 (h_mv (o_t rfl)) <|
 Sim.op1 (h_mv (o_t rfl)) <|
 Sim.op (h_ixs (o_t rfl) (o_t rfl)) fun x22 =>
 Sim.op (h_cvi (I := IT.u8) (J := IT.u32) rfl (o_t rfl)) fun x23 =>
 Sim.op (h_add (I := IT.u32) (o_t rfl) (o_t rfl)) fun x24 =>
 Sim.op1 (h_mv (o_t rfl)) <|
 Sim.doneS <| Sim.seqI <| Sim.op1 (h_mv (o_t rfl)) <|
 Sim.op1 (h_mv (o_t rfl)) <|
 Sim.op1 (h_mv (o_t rfl)) <|
 Sim.op1 (h_mv (o_t rfl)) <|
 Sim.op1 (h_mv (o_t rfl)) <|
 Sim.op (h_sub (I := (IT.int .i64)) (o_t rfl) (o_t rfl)) fun x25 =>
 Sim.op (h_ixs (o_t rfl) (o_t rfl)) fun x26 =>
 Sim.op (h_cvi (I := IT.u8) (J := IT.u32) rfl (o_t rfl)) fun x27 =>
 Sim.op (h_mul (I := IT.u32) (o_t rfl) (o_t rfl)) fun x28 =>
 Sim.op (h_sub (I := IT.u32) (o_t rfl) (o_t rfl)) fun x29 =>
 Sim.op1 (h_mv (o_t rfl)) <|
 Sim.doneS <| Sim.seqI <| Sim.op1 (h_mv (o_t rfl)) <|
 Sim.op (h_add (I := (IT.int .i64)) (o_t rfl) o_i) fun x30 =>
 Sim.op1 (h_mv (o_t rfl)) <|
 Sim.doneS <| Sim.seqI <| Sim.op1 (h_mv (o_t rfl)) <|
 Sim.op1 (h_mv (o_t rfl)) <|
 Sim.op (h_cmp (I := IT.u32) rfl (o_t rfl) (o_t rfl)) fun x31 =>
 Sim.op1 (h_mv (o_t rfl)) <|
 Sim.and 8 rfl rfl rfl (Grp.op1 (h_mv (o_t rfl)) <|
 Grp.op1 (h_mv (o_t rfl)) <|
 Grp.op1 (h_mv (o_t rfl)) <|
 Grp.op (h_sub (I := (IT.int .i64)) (o_t rfl) (o_t rfl)) fun x32 =>
 Grp.op1 (h_mv (o_t rfl)) <|
 Grp.op (h_sls (o_t rfl) (.some (o_t rfl)) (.some (o_t rfl))) fun x33 =>
 Grp.op1 (h_mv (o_t rfl)) <|
 Grp.op (h_seql (o_t rfl) (o_t rfl)) fun x34 =>
 Grp.nil (o_t rfl)) fun x35 =>
 Sim.doneS <| Sim.cond (o_t rfl) (
 Sim.seqI <| Sim.op1 (h_mv (o_t rfl)) <|
 Sim.op1 (h_mv (o_t rfl)) <|
 Sim.op (h_sub (I := (IT.int .i64)) (o_t rfl) (o_t rfl)) fun x36 =>
 Sim.op1 (h_mv (o_t rfl)) <|
 Sim.doneS <| Sim.outRet <| Sim.ret (.one (res_t rfl))) (
 Sim.skip <| Sim.doneB <| Sim.next (x29, x30) ⟨⟨⟨rfl, trivial⟩, ⟨⟨rfl, trivial⟩, ⟨⟨rfl, trivial⟩, ⟨⟨rfl, trivial⟩, ⟨⟨rfl, trivial⟩, ⟨⟨rfl, trivial⟩, ⟨⟨rfl, trivial⟩, trivial⟩⟩⟩⟩⟩⟩⟩, trivial⟩)) (
 Sim.exitS <| Sim.out () ⟨trivial, trivial⟩)) (fun p18 =>
 Sim.exitB <| Sim.doneS <| Sim.seqI <| Sim.op1 (h_mv o_i) <|
 Sim.doneS <| Sim.ret (.one (res_t rfl)))))
theorem sp_internal_bytealg_IndexRabinKarp_string : Spec tb fn_internal_bytealg_IndexRabinKarp_string [T.str, T.str] [(T.int .i64)] (fun a => internal_bytealg_IndexRabinKarp_string a.1 a.2) :=
  Spec.of f_internal_bytealg_IndexRabinKarp_string rfl rfl rfl sim_internal_bytealg_IndexRabinKarp_string

noncomputable def internal_stringslite_Index (a0 : Str) (a1 : Str) : Option Int :=
 (orO (decide ((a1.length : Int) = 0)) (some (decide (a1 = a0)))).bind fun x4 =>
 if x4 = true then
 some 0
 else
 if (decide ((a1.length : Int) = 1)) = true then
 (idx a1 0).bind fun x6 =>
 (internal_stringslite_IndexByte a0 x6).bind fun x7 =>
 some x7
 else
 if (decide ((a0.length : Int) ≤ (a1.length : Int))) = true then
 some (-1)
 else
 none
noncomputable def sim_internal_stringslite_Index (a : Res [T.str, T.str]) : Sim tb ⟨argsT [T.str, T.str] 0 a, []⟩ c_internal_stringslite_Index.body [] (QRes [(T.int .i64)] c_internal_stringslite_Index.res) :=
 Sim.seqI <| Sim.op1 (h_mv o_i) <|
 Sim.doneS <| Sim.seqI <| Sim.op1 (h_mv (o_t rfl)) <|
 Sim.op (h_lens (o_t rfl)) fun x1 =>
 Sim.op1 (h_mv (o_t rfl)) <|
 Sim.doneS <| Sim.seqI <| Sim.blkI <| Sim.seqI <| Sim.op1 (h_mv (o_t rfl)) <|
 Sim.op (h_cmp (I := (IT.int .i64)) rfl (o_t rfl) o_i) fun x2 =>
 Sim.op1 (h_mv (o_t rfl)) <|
 Sim.or 3 rfl rfl rfl (Grp.op1 (h_mv (o_t rfl)) <|
 Grp.op1 (h_mv (o_t rfl)) <|
 Grp.op (h_seql (o_t rfl) (o_t rfl)) fun x3 =>
 Grp.nil (o_t rfl)) fun x4 =>
 Sim.op1 (h_mv (o_t rfl)) <|
 Sim.doneS <| Sim.cond (o_t rfl) (
 Sim.seqI <| Sim.op1 (h_mv o_i) <|
 Sim.doneS <| Sim.ret (.one (res_t rfl))) (
 Sim.seqI <| Sim.op1 (h_mv (o_t rfl)) <|
 Sim.op (h_cmp (I := (IT.int .i64)) rfl (o_t rfl) o_i) fun x5 =>
 Sim.op1 (h_mv (o_t rfl)) <|
 Sim.doneS <| Sim.cond (o_t rfl) (
 Sim.seqI <| Sim.op1 (h_mv (o_t rfl)) <|
 Sim.op1 (h_mv (o_t rfl)) <|
 Sim.op (h_ixs (o_t rfl) o_i) fun x6 =>
 Sim.op (h_call1 sp_internal_stringslite_IndexByte (.cons (o_t rfl) <| .one (o_t rfl))) fun x7 =>
 Sim.op1 (h_mv (o_t rfl)) <|
 Sim.doneS <| Sim.ret (.one (res_t rfl))) (
 Sim.seqI <| Sim.op1 (h_mv (o_t rfl)) <|
 Sim.op1 (h_mv (o_t rfl)) <|
 Sim.op (h_lens (o_t rfl)) fun x8 =>
 Sim.op (h_cmp (I := (IT.int .i64)) rfl (o_t rfl) (o_t rfl)) fun x9 =>
 Sim.op1 (h_mv (o_t rfl)) <|
 Sim.doneS <| Sim.cond (o_t rfl) (
 Sim.seqI <| Sim.op1 (h_mv o_i) <|
 Sim.doneS <| Sim.ret (.one (res_t rfl))) (
 Sim.seqI <| Sim.op1 (h_mv (o_t rfl)) <|
 Sim.stop)))
theorem sp_internal_stringslite_Index : Spec tb fn_internal_stringslite_Index [T.str, T.str] [(T.int .i64)] (fun a => internal_stringslite_Index a.1 a.2) :=
  Spec.of f_internal_stringslite_Index rfl rfl rfl sim_internal_stringslite_Index

noncomputable def strings_Index (a0 : Str) (a1 : Str) : Option Int :=
 (internal_stringslite_Index a0 a1).bind fun x1 =>
 some x1
noncomputable def sim_strings_Index (a : Res [T.str, T.str]) : Sim tb ⟨argsT [T.str, T.str] 0 a, []⟩ c_strings_Index.body [] (QRes [(T.int .i64)] c_strings_Index.res) :=
 Sim.seqI <| Sim.op1 (h_mv o_i) <|
 Sim.doneS <| Sim.seqI <| Sim.op1 (h_mv (o_t rfl)) <|
 Sim.op1 (h_mv (o_t rfl)) <|
 Sim.op (h_call1 sp_internal_stringslite_Index (.cons (o_t rfl) <| .one (o_t rfl))) fun x1 =>
 Sim.op1 (h_mv (o_t rfl)) <|
 Sim.doneS <| Sim.ret (.one (res_t rfl))
theorem sp_strings_Index : Spec tb fn_strings_Index [T.str, T.str] [(T.int .i64)] (fun a => strings_Index a.1 a.2) :=
  Spec.of f_strings_Index rfl rfl rfl sim_strings_Index

noncomputable def strings_Count (a0 : Str) (a1 : Str) : Option Int :=
 if (decide ((a1.length : Int) = 0)) = true then
 (unicode_utf8_RuneCountInString a0).bind fun x3 =>
 some (IntKind.i64.wrap (x3 + 1))
 else
 if (decide ((a1.length : Int) = 1)) = true then
 (idx a1 0).bind fun x7 =>
 (internal_bytealg_CountString a0 x7).bind fun x8 =>
 some x8
 else
 (iter (fun (s9 : (Str × Int)) =>
 (strings_Index s9.1 a1).bind fun x11 =>
 if (decide (x11 = (-1))) = true then
 (some s9.2).map fun r => .inr (.inr r)
 else
 (subL s9.1 (some (IntKind.i64.wrap (x11 + (a1.length : Int)))) none).bind fun x16 =>
 some (.inl (x16, IntKind.i64.wrap (s9.2 + 1)))) (a0, 0)).bind (Sum.elim (fun _ : Empty => none) some)
noncomputable def sim_strings_Count (a : Res [T.str, T.str]) : Sim tb ⟨argsT [T.str, T.str] 0 a, []⟩ c_strings_Count.body [] (QRes [(T.int .i64)] c_strings_Count.res) :=
 Sim.seqI <| Sim.op1 (h_mv o_i) <|
 Sim.doneS <| Sim.seqI <| Sim.seqI <| Sim.op1 (h_mv (o_t rfl)) <|
 Sim.op (h_lens (o_t rfl)) fun x1 =>
 Sim.op (h_cmp (I := (IT.int .i64)) rfl (o_t rfl) o_i) fun x2 =>
 Sim.doneS <| Sim.cond (o_t rfl) (
 Sim.seqI <| Sim.op1 (h_mv (o_t rfl)) <|
 Sim.op (h_call1 sp_unicode_utf8_RuneCountInString (.one (o_t rfl))) fun x3 =>
 Sim.op (h_add (I := (IT.int .i64)) (o_t rfl) o_i) fun x4 =>
 Sim.op1 (h_mv (o_t rfl)) <|
 Sim.doneS <| Sim.ret (.one (res_t rfl))) (
 Sim.skip <| Sim.doneS <| Sim.seqI <| Sim.seqI <| Sim.op1 (h_mv (o_t rfl)) <|
 Sim.op (h_lens (o_t rfl)) fun x5 =>
 Sim.op (h_cmp (I := (IT.int .i64)) rfl (o_t rfl) o_i) fun x6 =>
 Sim.doneS <| Sim.cond (o_t rfl) (
 Sim.seqI <| Sim.op1 (h_mv (o_t rfl)) <|
 Sim.op1 (h_mv (o_t rfl)) <|
 Sim.op (h_ixs (o_t rfl) o_i) fun x7 =>
 Sim.op (h_call1 sp_internal_bytealg_CountString (.cons (o_t rfl) <| .one (o_t rfl))) fun x8 =>
 Sim.op1 (h_mv (o_t rfl)) <|
 Sim.doneS <| Sim.ret (.one (res_t rfl))) (
 Sim.skip <| Sim.doneS <| Sim.seqI <| Sim.op1 (h_mv o_i) <|
 Sim.doneS <| Sim.blkI <| Sim.loop (id := 0) (σ := (Str × Int)) (τ := Empty) (fun s9 => ⟨[(0, .val T.str s9.1), (1, .val T.str a.2), (5, .val (T.int .i64) s9.2)], []⟩) (fun p => p.elim) (a.1, 0) ⟨⟨⟨rfl, trivial⟩, ⟨⟨rfl, trivial⟩, ⟨⟨rfl, trivial⟩, trivial⟩⟩⟩, trivial⟩ (fun _ => rfl) (fun s9 =>
 Sim.blkI <| Sim.seqI <| Sim.op1 (h_mv (o_t rfl)) <|
 Sim.op1 (h_mv (o_t rfl)) <|
 Sim.op (h_call1 sp_strings_Index (.cons (o_t rfl) <| .one (o_t rfl))) fun x11 =>
 Sim.op1 (h_mv (o_t rfl)) <|
 Sim.doneS <| Sim.seqI <| Sim.seqI <| Sim.op1 (h_mv (o_t rfl)) <|
 Sim.op (h_cmp (I := (IT.int .i64)) rfl (o_t rfl) o_i) fun x12 =>
 Sim.doneS <| Sim.cond (o_t rfl) (
 Sim.seqI <| Sim.op1 (h_mv (o_t rfl)) <|
 Sim.op1 (h_mv (o_t rfl)) <|
 Sim.doneS <| Sim.outRet <| Sim.ret (.one (res_t rfl))) (
 Sim.skip <| Sim.doneS <| Sim.seqI <| Sim.op1 (h_mv (o_t rfl)) <|
 Sim.op (h_add (I := (IT.int .i64)) (o_t rfl) o_i) fun x13 =>
 Sim.op1 (h_mv (o_t rfl)) <|
 Sim.doneS <| Sim.op1 (h_mv (o_t rfl)) <|
 Sim.op1 (h_mv (o_t rfl)) <|
 Sim.op1 (h_mv (o_t rfl)) <|
 Sim.op (h_lens (o_t rfl)) fun x14 =>
 Sim.op (h_add (I := (IT.int .i64)) (o_t rfl) (o_t rfl)) fun x15 =>
 Sim.op (h_sls (o_t rfl) (.some (o_t rfl)) .none) fun x16 =>
 Sim.op1 (h_mv (o_t rfl)) <|
 Sim.doneB <| Sim.next (x16, x13) ⟨⟨⟨rfl, trivial⟩, ⟨⟨rfl, trivial⟩, ⟨⟨rfl, trivial⟩, trivial⟩⟩⟩, trivial⟩)) (fun _ => Sim.stop)))
theorem sp_strings_Count : Spec tb fn_strings_Count [T.str, T.str] [(T.int .i64)] (fun a => strings_Count a.1 a.2) :=
  Spec.of f_strings_Count rfl rfl rfl sim_strings_Count

noncomputable def strings_genSplit (a0 : Str) (a1 : Str) (a2 : Int) (a3 : Int) : Option (GS Str) :=
 if (decide (a3 = 0)) = true then
 some .nil
 else
 if (decide (a1 = [])) = true then
 (strings_explode a0 a3).bind fun x3 =>
 some x3
 else
 (fun (k6 : Int → Option _) => if (decide (a3 < 0)) = true then
 (strings_Count a0 a1).bind fun x29 =>
 k6 (IntKind.i64.wrap (x29 + 1))
 else
 k6 a3) fun p5 =>
 let x9 := if IntKind.i64.wrap ((a0.length : Int) + 1) < p5 then IntKind.i64.wrap ((a0.length : Int) + 1) else p5
 (mkG [] 16 x9 x9).bind fun x10 =>
 (iter (fun (s12 : (Str × Int × (GS Str))) =>
 if (decide (s12.2.1 < IntKind.i64.wrap (x9 - 1))) = true then
 (strings_Index s12.1 a1).bind fun x15 =>
 if (decide (x15 < 0)) = true then
 some (.inr (.inl (s12.1, s12.2.1, s12.2.2)))
 else
 (subL s12.1 none (some (IntKind.i64.wrap (x15 + a2)))).bind fun x18 =>
 (idxN s12.2.2.l.length s12.2.1).bind fun x19 =>
 (s12.2.2.l[x19]?.map fun y => s12.2.2.set x19 x18).bind fun x20 =>
 (subL s12.1 (some (IntKind.i64.wrap (x15 + (a1.length : Int)))) none).bind fun x23 =>
 some (.inl (x23, IntKind.i64.wrap (s12.2.1 + 1), x20))
 else
 some (.inr (.inl (s12.1, s12.2.1, s12.2.2)))) (a0, 0, x10)).bind (Sum.elim (fun (p13 : (Str × Int × (GS Str))) =>
 (idxN p13.2.2.l.length p13.2.1).bind fun x25 =>
 (p13.2.2.l[x25]?.map fun y => p13.2.2.set x25 p13.1).bind fun x26 =>
 (slG x26 none (some (IntKind.i64.wrap (p13.2.1 + 1)))).bind fun x28 =>
 some x28) some)
noncomputable def sim_strings_genSplit (a : Res [T.str, T.str, (T.int .i64), (T.int .i64)]) : Sim tb ⟨argsT [T.str, T.str, (T.int .i64), (T.int .i64)] 0 a, []⟩ c_strings_genSplit.body [] (QRes [(T.sl T.str)] c_strings_genSplit.res) :=
 Sim.seqI <| Sim.op1 (h_mv (o_nils (t := T.str))) <|
 Sim.doneS <| Sim.seqI <| Sim.seqI <| Sim.op1 (h_mv (o_t rfl)) <|
 Sim.op (h_cmp (I := (IT.int .i64)) rfl (o_t rfl) o_i) fun x1 =>
 Sim.doneS <| Sim.cond (o_t rfl) (
 Sim.seqI <| Sim.op1 (h_mv (o_nils (t := T.str))) <|
 Sim.doneS <| Sim.ret (.one (res_t rfl))) (
 Sim.skip <| Sim.doneS <| Sim.seqI <| Sim.seqI <| Sim.op1 (h_mv (o_t rfl)) <|
 Sim.op (h_seql (o_t rfl) o_s) fun x2 =>
 Sim.doneS <| Sim.cond (o_t rfl) (
 Sim.seqI <| Sim.op1 (h_mv (o_t rfl)) <|
 Sim.op1 (h_mv (o_t rfl)) <|
 Sim.op (h_call1 sp_strings_explode (.cons (o_t rfl) <| .one (o_t rfl))) fun x3 =>
 Sim.op1 (h_mv (o_t rfl)) <|
 Sim.doneS <| Sim.ret (.one (res_t rfl))) (
 Sim.skip <| Sim.doneS <| Sim.seqI <| Sim.seqI <| Sim.op1 (h_mv (o_t rfl)) <|
 Sim.op (h_cmp (I := (IT.int .i64)) rfl (o_t rfl) o_i) fun x4 =>
 Sim.doneS <| Sim.join (τ := Int) (fun p5 => ⟨[(0, .val T.str a.1), (1, .val T.str a.2.1), (2, .val (T.int .i64) a.2.2.1), (3, .val (T.int .i64) p5)], []⟩) (fun p5 =>
 Sim.doneS <| Sim.seqI <| Sim.op1 (h_mv (o_t rfl)) <|
 Sim.op1 (h_mv (o_t rfl)) <|
 Sim.op (h_lens (o_t rfl)) fun x7 =>
 Sim.op (h_add (I := (IT.int .i64)) (o_t rfl) o_i) fun x8 =>
 Sim.op (h_max (I := (IT.int .i64)) (mx := false) (o_t rfl) (o_t rfl)) fun x9 =>
 Sim.op1 (h_mv (o_t rfl)) <|
 Sim.doneS <| Sim.seqI <| Sim.op1 (h_mv (o_t rfl)) <|
 Sim.opM (M_mks (t := T.str) 1031 rfl rfl rfl (o_t rfl) (o_t rfl)) fun x10 =>
 Sim.op1 (h_mv (o_t rfl)) <|
 Sim.doneS <| Sim.seqI <| Sim.op1 (h_mv (o_t rfl)) <|
 Sim.op (h_sub (I := (IT.int .i64)) (o_t rfl) o_i) fun x11 =>
 Sim.op1 (h_mv (o_t rfl)) <|
 Sim.doneS <| Sim.seqI <| Sim.op1 (h_mv o_i) <|
 Sim.doneS <| Sim.seqI <| Sim.blkI <| Sim.loop (id := 0) (σ := (Str × Int × (GS Str))) (τ := (Str × Int × (GS Str))) (fun s12 => ⟨[(0, .val T.str s12.1), (1, .val T.str a.2.1), (2, .val (T.int .i64) a.2.2.1), (3, .val (T.int .i64) x11), (9, .own 1031), (10, .val (T.int .i64) s12.2.1)], [(1031, .row T.str s12.2.2)]⟩) (fun p13 => ⟨[(0, .val T.str p13.1), (9, .own 1031), (10, .val (T.int .i64) p13.2.1)], [(1031, .row T.str p13.2.2)]⟩) (a.1, 0, x10) ⟨⟨⟨rfl, trivial⟩, ⟨⟨rfl, trivial⟩, ⟨⟨rfl, trivial⟩, ⟨⟨rfl, trivial⟩, ⟨⟨rfl, trivial⟩, ⟨⟨rfl, trivial⟩, trivial⟩⟩⟩⟩⟩⟩, ⟨⟨rfl, trivial⟩, trivial⟩⟩ (fun _ => rfl) (fun s12 =>
 Sim.seqI <| Sim.seqI <| Sim.op1 (h_mv (o_t rfl)) <|
 Sim.op1 (h_mv (o_t rfl)) <|
 Sim.op (h_cmp (I := (IT.int .i64)) rfl (o_t rfl) (o_t rfl)) fun x14 =>
 Sim.doneS <| Sim.cond (o_t rfl) (
 Sim.skip <| Sim.doneS <| Sim.blkI <| Sim.seqI <| Sim.op1 (h_mv (o_t rfl)) <|
 Sim.op1 (h_mv (o_t rfl)) <|
 Sim.op (h_call1 sp_strings_Index (.cons (o_t rfl) <| .one (o_t rfl))) fun x15 =>
 Sim.op1 (h_mv (o_t rfl)) <|
 Sim.doneS <| Sim.seqI <| Sim.seqI <| Sim.op1 (h_mv (o_t rfl)) <|
 Sim.op (h_cmp (I := (IT.int .i64)) rfl (o_t rfl) o_i) fun x16 =>
 Sim.doneS <| Sim.cond (o_t rfl) (
 Sim.exitS <| Sim.exitO rfl <| Sim.out (s12.1, s12.2.1, s12.2.2) ⟨⟨⟨rfl, trivial⟩, ⟨⟨rfl, trivial⟩, ⟨⟨rfl, trivial⟩, trivial⟩⟩⟩, ⟨⟨rfl, trivial⟩, trivial⟩⟩) (
 Sim.skip <| Sim.doneS <| Sim.seqI <| Sim.op1 (h_mv (o_t rfl)) <|
 Sim.op1 (h_mv (o_t rfl)) <|
 Sim.op1 (h_mv (o_t rfl)) <|
 Sim.op1 (h_mv (o_t rfl)) <|
 Sim.op1 (h_mv (o_t rfl)) <|
 Sim.op (h_add (I := (IT.int .i64)) (o_t rfl) (o_t rfl)) fun x17 =>
 Sim.op (h_sls (o_t rfl) .none (.some (o_t rfl))) fun x18 =>
 Sim.op (h_iasO rfl (o_t rfl) rfl (o_t rfl)) fun x19 =>
 Sim.opM (M_stE (t := T.str) (u := T.str) rfl (Fld.id _) (o_t rfl) (o_t rfl) rfl) fun x20 =>
 Sim.doneS <| Sim.seqI <| Sim.op1 (h_mv (o_t rfl)) <|
 Sim.op1 (h_mv (o_t rfl)) <|
 Sim.op1 (h_mv (o_t rfl)) <|
 Sim.op (h_lens (o_t rfl)) fun x21 =>
 Sim.op (h_add (I := (IT.int .i64)) (o_t rfl) (o_t rfl)) fun x22 =>
 Sim.op (h_sls (o_t rfl) (.some (o_t rfl)) .none) fun x23 =>
 Sim.op1 (h_mv (o_t rfl)) <|
 Sim.doneS <| Sim.op1 (h_mv (o_t rfl)) <|
 Sim.op (h_add (I := (IT.int .i64)) (o_t rfl) o_i) fun x24 =>
 Sim.op1 (h_mv (o_t rfl)) <|
 Sim.doneB <| Sim.next (x23, x24, x20) ⟨⟨⟨rfl, trivial⟩, ⟨⟨rfl, trivial⟩, ⟨⟨rfl, trivial⟩, ⟨⟨rfl, trivial⟩, ⟨⟨rfl, trivial⟩, ⟨⟨rfl, trivial⟩, trivial⟩⟩⟩⟩⟩⟩, ⟨⟨rfl, trivial⟩, trivial⟩⟩)) (
 Sim.exitS <| Sim.out (s12.1, s12.2.1, s12.2.2) ⟨⟨⟨rfl, trivial⟩, ⟨⟨rfl, trivial⟩, ⟨⟨rfl, trivial⟩, trivial⟩⟩⟩, ⟨⟨rfl, trivial⟩, trivial⟩⟩)) (fun p13 =>
 Sim.exitB <| Sim.doneS <| Sim.seqI <| Sim.op1 (h_mv (o_t rfl)) <|
 Sim.op1 (h_mv (o_t rfl)) <|
 Sim.op1 (h_mv (o_t rfl)) <|
 Sim.op (h_iasO rfl (o_t rfl) rfl (o_t rfl)) fun x25 =>
 Sim.opM (M_stE (t := T.str) (u := T.str) rfl (Fld.id _) (o_t rfl) (o_t rfl) rfl) fun x26 =>
 Sim.doneS <| Sim.seqI <| Sim.op1 (h_mv (o_t rfl)) <|
 Sim.op1 (h_mv (o_t rfl)) <|
 Sim.op (h_add (I := (IT.int .i64)) (o_t rfl) o_i) fun x27 =>
 Sim.frzRow 1031 rfl rfl <| Sim.op (h_sll rfl (o_t rfl) .none (.some (o_t rfl))) fun x28 =>
 Sim.op1 (h_mv (o_t rfl)) <|
 Sim.doneS <| Sim.ret (.one (res_t rfl)))) fun k6 => Sim.cond (o_t rfl) (
 Sim.op1 (h_mv (o_t rfl)) <|
 Sim.op1 (h_mv (o_t rfl)) <|
 Sim.op (h_call1 sp_strings_Count (.cons (o_t rfl) <| .one (o_t rfl))) fun x29 =>
 Sim.op (h_add (I := (IT.int .i64)) (o_t rfl) o_i) fun x30 =>
 Sim.op1 (h_mv (o_t rfl)) <|
 Sim.weak (k6 x30) ⟨⟨⟨rfl, trivial⟩, ⟨⟨rfl, trivial⟩, ⟨⟨rfl, trivial⟩, ⟨⟨rfl, trivial⟩, trivial⟩⟩⟩⟩, trivial⟩) (
 Sim.skip <| Sim.weak (k6 a.2.2.2) ⟨⟨⟨rfl, trivial⟩, ⟨⟨rfl, trivial⟩, ⟨⟨rfl, trivial⟩, ⟨⟨rfl, trivial⟩, trivial⟩⟩⟩⟩, trivial⟩)))
theorem sp_strings_genSplit : Spec tb fn_strings_genSplit [T.str, T.str, (T.int .i64), (T.int .i64)] [(T.sl T.str)] (fun a => strings_genSplit a.1 a.2.1 a.2.2.1 a.2.2.2) :=
  Spec.of f_strings_genSplit rfl rfl rfl sim_strings_genSplit

noncomputable def strings_Split (a0 : Str) (a1 : Str) : Option (GS Str) :=
 (strings_genSplit a0 a1 0 (-1)).bind fun x1 =>
 some x1
noncomputable def sim_strings_Split (a : Res [T.str, T.str]) : Sim tb ⟨argsT [T.str, T.str] 0 a, []⟩ c_strings_Split.body [] (QRes [(T.sl T.str)] c_strings_Split.res) :=
 Sim.seqI <| Sim.op1 (h_mv (o_nils (t := T.str))) <|
 Sim.doneS <| Sim.seqI <| Sim.op1 (h_mv (o_t rfl)) <|
 Sim.op1 (h_mv (o_t rfl)) <|
 Sim.op (h_call1 sp_strings_genSplit (.cons (o_t rfl) <| .cons (o_t rfl) <| .cons o_i <| .one o_i)) fun x1 =>
 Sim.op1 (h_mv (o_t rfl)) <|
 Sim.doneS <| Sim.ret (.one (res_t rfl))
theorem sp_strings_Split : Spec tb fn_strings_Split [T.str, T.str] [(T.sl T.str)] (fun a => strings_Split a.1 a.2) :=
  Spec.of f_strings_Split rfl rfl rfl sim_strings_Split

noncomputable def lines_Loose (a0 : Str) : Option (GS Str) :=
 if (decide (a0 = [])) = true then
 some .nil
 else
 (strings_TrimSuffix a0 [10]).bind fun x2 =>
 (strings_Split x2 [10]).bind fun x3 =>
 some x3
noncomputable def sim_lines_Loose (a : Res [T.str]) : Sim tb ⟨argsT [T.str] 0 a, []⟩ c_lines_Loose.body [] (QRes [(T.sl T.str)] c_lines_Loose.res) :=
 Sim.seqI <| Sim.op1 (h_mv (o_nils (t := T.str))) <|
 Sim.doneS <| Sim.seqI <| Sim.seqI <| Sim.op1 (h_mv (o_t rfl)) <|
 Sim.op (h_seql (o_t rfl) o_s) fun x1 =>
 Sim.doneS <| Sim.cond (o_t rfl) (
 Sim.seqI <| Sim.op1 (h_mv (o_nils (t := T.str))) <|
 Sim.doneS <| Sim.ret (.one (res_t rfl))) (
 Sim.skip <| Sim.doneS <| Sim.seqI <| Sim.op1 (h_mv (o_t rfl)) <|
 Sim.op (h_call1 sp_strings_TrimSuffix (.cons (o_t rfl) <| .one o_s)) fun x2 =>
 Sim.op (h_call1 sp_strings_Split (.cons (o_t rfl) <| .one o_s)) fun x3 =>
 Sim.op1 (h_mv (o_t rfl)) <|
 Sim.doneS <| Sim.ret (.one (res_t rfl)))
theorem sp_lines_Loose : Spec tb fn_lines_Loose [T.str] [(T.sl T.str)] (fun a => lines_Loose a) :=
  Spec.of f_lines_Loose rfl rfl rfl sim_lines_Loose

noncomputable def strings_IndexByte (a0 : Str) (a1 : UInt8) : Option Int :=
 (internal_stringslite_IndexByte a0 a1).bind fun x1 =>
 some x1
noncomputable def sim_strings_IndexByte (a : Res [T.str, T.u8]) : Sim tb ⟨argsT [T.str, T.u8] 0 a, []⟩ c_strings_IndexByte.body [] (QRes [(T.int .i64)] c_strings_IndexByte.res) :=
 Sim.seqI <| Sim.op1 (h_mv o_i) <|
 Sim.doneS <| Sim.seqI <| Sim.op1 (h_mv (o_t rfl)) <|
 Sim.op1 (h_mv (o_t rfl)) <|
 Sim.op (h_call1 sp_internal_stringslite_IndexByte (.cons (o_t rfl) <| .one (o_t rfl))) fun x1 =>
 Sim.op1 (h_mv (o_t rfl)) <|
 Sim.doneS <| Sim.ret (.one (res_t rfl))
theorem sp_strings_IndexByte : Spec tb fn_strings_IndexByte [T.str, T.u8] [(T.int .i64)] (fun a => strings_IndexByte a.1 a.2) :=
  Spec.of f_strings_IndexByte rfl rfl rfl sim_strings_IndexByte

noncomputable def lines_Cut (a0 : Str) (a1 : UInt8) : Option (Str × Str × Bool) :=
 (strings_IndexByte a0 a1).bind fun x1 =>
 if (decide (x1 < 0)) = true then
 some (a0, [], false)
 else
 (subL a0 none (some x1)).bind fun x3 =>
 (subL a0 (some (IntKind.i64.wrap (x1 + 1))) none).bind fun x5 =>
 some (x3, x5, true)
noncomputable def sim_lines_Cut (a : Res [T.str, T.u8]) : Sim tb ⟨argsT [T.str, T.u8] 0 a, []⟩ c_lines_Cut.body [] (QRes [T.str, T.str, T.b] c_lines_Cut.res) :=
 Sim.seqI <| Sim.op1 (h_mv o_s) <|
 Sim.op1 (h_mv o_s) <|
 Sim.op1 (h_mv o_b) <|
 Sim.doneS <| Sim.seqI <| Sim.op1 (h_mv (o_t rfl)) <|
 Sim.op1 (h_mv (o_t rfl)) <|
 Sim.op (h_call1 sp_strings_IndexByte (.cons (o_t rfl) <| .one (o_t rfl))) fun x1 =>
 Sim.op1 (h_mv (o_t rfl)) <|
 Sim.doneS <| Sim.seqI <| Sim.seqI <| Sim.op1 (h_mv (o_t rfl)) <|
 Sim.op (h_cmp (I := (IT.int .i64)) rfl (o_t rfl) o_i) fun x2 =>
 Sim.doneS <| Sim.cond (o_t rfl) (
 Sim.seqI <| Sim.op1 (h_mv (o_t rfl)) <|
 Sim.op1 (h_mv (o_t rfl)) <|
 Sim.op1 (h_mv o_s) <|
 Sim.op1 (h_mv o_b) <|
 Sim.doneS <| Sim.ret (.cons (res_t rfl) <| .cons (res_t rfl) <| .one (res_t rfl))) (
 Sim.skip <| Sim.doneS <| Sim.seqI <| Sim.op1 (h_mv (o_t rfl)) <|
 Sim.op1 (h_mv (o_t rfl)) <|
 Sim.op (h_sls (o_t rfl) .none (.some (o_t rfl))) fun x3 =>
 Sim.op1 (h_mv (o_t rfl)) <|
 Sim.op1 (h_mv (o_t rfl)) <|
 Sim.op (h_add (I := (IT.int .i64)) (o_t rfl) o_i) fun x4 =>
 Sim.op (h_sls (o_t rfl) (.some (o_t rfl)) .none) fun x5 =>
 Sim.op1 (h_mv (o_t rfl)) <|
 Sim.op1 (h_mv (o_t rfl)) <|
 Sim.op1 (h_mv o_b) <|
 Sim.doneS <| Sim.ret (.cons (res_t rfl) <| .cons (res_t rfl) <| .one (res_t rfl)))
theorem sp_lines_Cut : Spec tb fn_lines_Cut [T.str, T.u8] [T.str, T.str, T.b] (fun a => lines_Cut a.1 a.2) :=
  Spec.of f_lines_Cut rfl rfl rfl sim_lines_Cut

noncomputable def strings_trimRightByte (a0 : Str) (a1 : UInt8) : Option Str :=
 (iter (fun (s1 : Str) =>
 (andO (decide (0 < (s1.length : Int))) ((idx s1 (IntKind.i64.wrap ((s1.length : Int) - 1))).bind fun x7 =>
 some (decide ((x7.toNat : Int) = (a1.toNat : Int))))).bind fun x9 =>
 if x9 = true then
 (subL s1 none (some (IntKind.i64.wrap ((s1.length : Int) - 1)))).bind fun x12 =>
 some (.inl x12)
 else
 some (.inr (.inl s1))) a0).bind (Sum.elim (fun (p2 : Str) =>
 some p2) some)
noncomputable def sim_strings_trimRightByte (a : Res [T.str, T.u8]) : Sim tb ⟨argsT [T.str, T.u8] 0 a, []⟩ c_strings_trimRightByte.body [] (QRes [T.str] c_strings_trimRightByte.res) :=
 Sim.seqI <| Sim.op1 (h_mv o_s) <|
 Sim.doneS <| Sim.seqI <| Sim.blkI <| Sim.loop (id := 0) (σ := Str) (τ := Str) (fun s1 => ⟨[(0, .val T.str s1), (1, .val T.u8 a.2)], []⟩) (fun p2 => ⟨[(0, .val T.str p2)], []⟩) a.1 ⟨⟨⟨rfl, trivial⟩, ⟨⟨rfl, trivial⟩, trivial⟩⟩, trivial⟩ (fun _ => rfl) (fun s1 =>
 Sim.seqI <| Sim.seqI <| Sim.op1 (h_mv (o_t rfl)) <|
 Sim.op (h_lens (o_t rfl)) fun x3 =>
 Sim.op (h_cmp (I := (IT.int .i64)) rfl (o_t rfl) o_i) fun x4 =>
 Sim.op1 (h_mv (o_t rfl)) <|
 Sim.and 7 rfl rfl rfl (Grp.op1 (h_mv (o_t rfl)) <|
 Grp.op1 (h_mv (o_t rfl)) <|
 Grp.op (h_lens (o_t rfl)) fun x5 =>
 Grp.op (h_sub (I := (IT.int .i64)) (o_t rfl) o_i) fun x6 =>
 Grp.op (h_ixs (o_t rfl) (o_t rfl)) fun x7 =>
 Grp.op1 (h_mv (o_t rfl)) <|
 Grp.op (h_cmp (I := IT.u8) rfl (o_t rfl) (o_t rfl)) fun x8 =>
 Grp.nil (o_t rfl)) fun x9 =>
 Sim.doneS <| Sim.cond (o_t rfl) (
 Sim.skip <| Sim.doneS <| Sim.blkI <| Sim.op1 (h_mv (o_t rfl)) <|
 Sim.op1 (h_mv (o_t rfl)) <|
 Sim.op (h_lens (o_t rfl)) fun x10 =>
 Sim.op (h_sub (I := (IT.int .i64)) (o_t rfl) o_i) fun x11 =>
 Sim.op (h_sls (o_t rfl) .none (.some (o_t rfl))) fun x12 =>
 Sim.op1 (h_mv (o_t rfl)) <|
 Sim.doneB <| Sim.next x12 ⟨⟨⟨rfl, trivial⟩, ⟨⟨rfl, trivial⟩, trivial⟩⟩, trivial⟩) (
 Sim.exitS <| Sim.out s1 ⟨⟨⟨rfl, trivial⟩, trivial⟩, trivial⟩)) (fun p2 =>
 Sim.exitB <| Sim.doneS <| Sim.seqI <| Sim.op1 (h_mv (o_t rfl)) <|
 Sim.op1 (h_mv (o_t rfl)) <|
 Sim.doneS <| Sim.ret (.one (res_t rfl)))
theorem sp_strings_trimRightByte : Spec tb fn_strings_trimRightByte [T.str, T.u8] [T.str] (fun a => strings_trimRightByte a.1 a.2) :=
  Spec.of f_strings_trimRightByte rfl rfl rfl sim_strings_trimRightByte

noncomputable def strings_trimLeftByte (a0 : Str) (a1 : UInt8) : Option Str :=
 (iter (fun (s1 : Str) =>
 (andO (decide (0 < (s1.length : Int))) ((idx s1 0).bind fun x5 =>
 some (decide ((x5.toNat : Int) = (a1.toNat : Int))))).bind fun x7 =>
 if x7 = true then
 (subL s1 (some 1) none).bind fun x8 =>
 some (.inl x8)
 else
 some (.inr (.inl s1))) a0).bind (Sum.elim (fun (p2 : Str) =>
 some p2) some)
noncomputable def sim_strings_trimLeftByte (a : Res [T.str, T.u8]) : Sim tb ⟨argsT [T.str, T.u8] 0 a, []⟩ c_strings_trimLeftByte.body [] (QRes [T.str] c_strings_trimLeftByte.res) :=
 Sim.seqI <| Sim.op1 (h_mv o_s) <|
 Sim.doneS <| Sim.seqI <| Sim.blkI <| Sim.loop (id := 0) (σ := Str) (τ := Str) (fun s1 => ⟨[(0, .val T.str s1), (1, .val T.u8 a.2)], []⟩) (fun p2 => ⟨[(0, .val T.str p2)], []⟩) a.1 ⟨⟨⟨rfl, trivial⟩, ⟨⟨rfl, trivial⟩, trivial⟩⟩, trivial⟩ (fun _ => rfl) (fun s1 =>
 Sim.seqI <| Sim.seqI <| Sim.op1 (h_mv (o_t rfl)) <|
 Sim.op (h_lens (o_t rfl)) fun x3 =>
 Sim.op (h_cmp (I := (IT.int .i64)) rfl (o_t rfl) o_i) fun x4 =>
 Sim.op1 (h_mv (o_t rfl)) <|
 Sim.and 4 rfl rfl rfl (Grp.op1 (h_mv (o_t rfl)) <|
 Grp.op (h_ixs (o_t rfl) o_i) fun x5 =>
 Grp.op1 (h_mv (o_t rfl)) <|
 Grp.op (h_cmp (I := IT.u8) rfl (o_t rfl) (o_t rfl)) fun x6 =>
 Grp.nil (o_t rfl)) fun x7 =>
 Sim.doneS <| Sim.cond (o_t rfl) (
 Sim.skip <| Sim.doneS <| Sim.blkI <| Sim.op1 (h_mv (o_t rfl)) <|
 Sim.op (h_sls (o_t rfl) (.some o_i) .none) fun x8 =>
 Sim.op1 (h_mv (o_t rfl)) <|
 Sim.doneB <| Sim.next x8 ⟨⟨⟨rfl, trivial⟩, ⟨⟨rfl, trivial⟩, trivial⟩⟩, trivial⟩) (
 Sim.exitS <| Sim.out s1 ⟨⟨⟨rfl, trivial⟩, trivial⟩, trivial⟩)) (fun p2 =>
 Sim.exitB <| Sim.doneS <| Sim.seqI <| Sim.op1 (h_mv (o_t rfl)) <|
 Sim.op1 (h_mv (o_t rfl)) <|
 Sim.doneS <| Sim.ret (.one (res_t rfl)))
theorem sp_strings_trimLeftByte : Spec tb fn_strings_trimLeftByte [T.str, T.u8] [T.str] (fun a => strings_trimLeftByte a.1 a.2) :=
  Spec.of f_strings_trimLeftByte rfl rfl rfl sim_strings_trimLeftByte

noncomputable def strings_makeASCIISet (a0 : Str) : Option ((Ar Bool 256) × Bool) :=
 (iter (fun (s2 : (Int × (Ar Bool 256))) =>
 if (decide (s2.1 < (a0.length : Int))) = true then
 (idx a0 s2.1).bind fun x6 =>
 let x7 := decide (((128 : UInt8).toNat : Int) ≤ (x6.toNat : Int))
 if x7 = true then
 (some (s2.2, false)).map fun r => .inr (.inr r)
 else
 (idxN 256 (x6.toNat : Int)).bind fun x10 =>
 (if x10 < 256 then some (s2.2.set x10 true) else none).bind fun x11 =>
 some (.inl (IntKind.i64.wrap (s2.1 + 1), x11))
 else
 some (.inr (.inl s2.2))) (0, (T.arr 256 T.b).z)).bind (Sum.elim (fun (p3 : (Ar Bool 256)) =>
 some (p3, true)) some)
noncomputable def sim_strings_makeASCIISet (a : Res [T.str]) : Sim tb ⟨argsT [T.str] 0 a, []⟩ c_strings_makeASCIISet.body [] (QRes [(T.arr 256 T.b), T.b] c_strings_makeASCIISet.res) :=
 Sim.seqI <| Sim.opM (M_alloc (t := (T.arr 256 T.b)) 2 rfl rfl) fun x1 =>
 Sim.op1 (h_mv o_b) <|
 Sim.doneS <| Sim.seqI <| Sim.seqI <| Sim.op1 (h_mv o_i) <|
 Sim.doneS <| Sim.blkI <| Sim.loop (id := 0) (σ := (Int × (Ar Bool 256))) (τ := (Ar Bool 256)) (fun s2 => ⟨[(0, .val T.str a), (2, .cp 2 0), (4, .val (T.int .i64) s2.1)], [(2, .cells [(256, .val (T.arr 256 T.b) s2.2)])]⟩) (fun p3 => ⟨[(2, .cp 2 0)], [(2, .cells [(256, .val (T.arr 256 T.b) p3)])]⟩) (0, x1) ⟨⟨⟨rfl, trivial⟩, ⟨⟨rfl, trivial⟩, ⟨⟨rfl, trivial⟩, trivial⟩⟩⟩, ⟨⟨rfl, ⟨trivial, trivial⟩⟩, trivial⟩⟩ (fun _ => rfl) (fun s2 =>
 Sim.seqI <| Sim.seqI <| Sim.op1 (h_mv (o_t rfl)) <|
 Sim.op1 (h_mv (o_t rfl)) <|
 Sim.op (h_lens (o_t rfl)) fun x4 =>
 Sim.op (h_cmp (I := (IT.int .i64)) rfl (o_t rfl) (o_t rfl)) fun x5 =>
 Sim.doneS <| Sim.cond (o_t rfl) (
 Sim.skip <| Sim.doneS <| Sim.seqI <| Sim.blkI <| Sim.seqI <| Sim.op1 (h_mv (o_t rfl)) <|
 Sim.op1 (h_mv (o_t rfl)) <|
 Sim.op (h_ixs (o_t rfl) (o_t rfl)) fun x6 =>
 Sim.op1 (h_mv (o_t rfl)) <|
 Sim.doneS <| Sim.seqI <| Sim.seqI <| Sim.op1 (h_mv (o_t rfl)) <|
 Sim.op (h_cmp (I := IT.u8) rfl (o_t rfl) (o_u8 128 rfl)) fun x7 =>
 Sim.doneS <| Sim.cond (o_t rfl) (
 Sim.seqI <| Sim.opn (h_ldC (t := (T.arr 256 T.b)) (u := (T.arr 256 T.b)) (o_t rfl) rfl rfl (Fld.id _) rfl rfl) fun x8 =>
 Sim.opM (M_stC (o_t rfl) (o_t rfl) rfl rfl (Fld.id _) rfl) fun x9 =>
 Sim.op1 (h_mv o_b) <|
 Sim.doneS <| Sim.outRet <| Sim.ret (.cons (res_c rfl rfl rfl (Fld.id _) rfl rfl) <| .one (res_t rfl))) (
 Sim.skip <| Sim.doneS <| Sim.op1 (h_mv (o_t rfl)) <|
 Sim.op (h_iaaC (o_t rfl) (o_n8 (o_t rfl))) fun x10 =>
 Sim.opM (M_stA (s := (T.arr 256 T.b)) (Fld.id _) rfl (o_t rfl) o_b rfl rfl) fun x11 =>
 Sim.doneB <| Sim.doneS <| Sim.op1 (h_mv (o_t rfl)) <|
 Sim.op (h_add (I := (IT.int .i64)) (o_t rfl) o_i) fun x12 =>
 Sim.op1 (h_mv (o_t rfl)) <|
 Sim.next (x12, x11) ⟨⟨⟨rfl, trivial⟩, ⟨⟨rfl, trivial⟩, ⟨⟨rfl, trivial⟩, trivial⟩⟩⟩, ⟨⟨rfl, ⟨trivial, trivial⟩⟩, trivial⟩⟩)) (
 Sim.exitS <| Sim.out s2.2 ⟨⟨⟨rfl, trivial⟩, trivial⟩, ⟨⟨rfl, ⟨trivial, trivial⟩⟩, trivial⟩⟩)) (fun p3 =>
 Sim.exitB <| Sim.doneS <| Sim.seqI <| Sim.opn (h_ldC (t := (T.arr 256 T.b)) (u := (T.arr 256 T.b)) (o_t rfl) rfl rfl (Fld.id _) rfl rfl) fun x13 =>
 Sim.opM (M_stC (o_t rfl) (o_t rfl) rfl rfl (Fld.id _) rfl) fun x14 =>
 Sim.op1 (h_mv o_b) <|
 Sim.doneS <| Sim.ret (.cons (res_c rfl rfl rfl (Fld.id _) rfl rfl) <| .one (res_t rfl)))
theorem sp_strings_makeASCIISet : Spec tb fn_strings_makeASCIISet [T.str] [(T.arr 256 T.b), T.b] (fun a => strings_makeASCIISet a) :=
  Spec.of f_strings_makeASCIISet rfl rfl rfl sim_strings_makeASCIISet

noncomputable def p_strings_asciiSet_contains (a0 : (Option (Ar Bool 256))) (a1 : UInt8) : Option Bool :=
 (a0).bind fun x1 =>
 (idx x1.l (a1.toNat : Int)).bind fun x2 =>
 some x2
noncomputable def sim_p_strings_asciiSet_contains (a : Res [(T.ref (T.arr 256 T.b)), T.u8]) : Sim tb ⟨argsT [(T.ref (T.arr 256 T.b)), T.u8] 0 a, []⟩ c_p_strings_asciiSet_contains.body [] (QRes [T.b] c_p_strings_asciiSet_contains.res) :=
 Sim.seqI <| Sim.op1 (h_mv o_b) <|
 Sim.doneS <| Sim.seqI <| Sim.op1 (h_mv (o_t rfl)) <|
 Sim.op1 (h_mv (o_t rfl)) <|
 Sim.op (h_nilR (o_t rfl)) fun x1 =>
 Sim.op (h_iaa rfl rfl (o_t rfl) (o_n8 (o_t rfl))) fun x2 =>
 Sim.opn (h_ld rfl rfl (o_t rfl)) fun x3 =>
 Sim.op1 (h_mv (o_t rfl)) <|
 Sim.doneS <| Sim.ret (.one (res_t rfl))
theorem sp_p_strings_asciiSet_contains : Spec tb fn_p_strings_asciiSet_contains [(T.ref (T.arr 256 T.b)), T.u8] [T.b] (fun a => p_strings_asciiSet_contains a.1 a.2) :=
  Spec.of f_p_strings_asciiSet_contains rfl rfl rfl sim_p_strings_asciiSet_contains

noncomputable def strings_trimRightASCII (a0 : Str) (a1 : (Option (Ar Bool 256))) : Option Str :=
 (iter (fun (s1 : Str) =>
 if (decide (0 < (s1.length : Int))) = true then
 (idx s1 (IntKind.i64.wrap ((s1.length : Int) - 1))).bind fun x7 =>
 (p_strings_asciiSet_contains a1 x7).bind fun x8 =>
 if (!x8) = true then
 some (.inr (.inl s1))
 else
 (subL s1 none (some (IntKind.i64.wrap ((s1.length : Int) - 1)))).bind fun x12 =>
 some (.inl x12)
 else
 some (.inr (.inl s1))) a0).bind (Sum.elim (fun (p2 : Str) =>
 some p2) some)
noncomputable def sim_strings_trimRightASCII (a : Res [T.str, (T.ref (T.arr 256 T.b))]) : Sim tb ⟨argsT [T.str, (T.ref (T.arr 256 T.b))] 0 a, []⟩ c_strings_trimRightASCII.body [] (QRes [T.str] c_strings_trimRightASCII.res) :=
 Sim.seqI <| Sim.op1 (h_mv o_s) <|
 Sim.doneS <| Sim.seqI <| Sim.blkI <| Sim.loop (id := 0) (σ := Str) (τ := Str) (fun s1 => ⟨[(0, .val T.str s1), (1, .val (T.ref (T.arr 256 T.b)) a.2)], []⟩) (fun p2 => ⟨[(0, .val T.str p2)], []⟩) a.1 ⟨⟨⟨rfl, trivial⟩, ⟨⟨rfl, trivial⟩, trivial⟩⟩, trivial⟩ (fun _ => rfl) (fun s1 =>
 Sim.seqI <| Sim.seqI <| Sim.op1 (h_mv (o_t rfl)) <|
 Sim.op (h_lens (o_t rfl)) fun x3 =>
 Sim.op (h_cmp (I := (IT.int .i64)) rfl (o_t rfl) o_i) fun x4 =>
 Sim.doneS <| Sim.cond (o_t rfl) (
 Sim.skip <| Sim.doneS <| Sim.blkI <| Sim.seqI <| Sim.seqI <| Sim.op1 (h_mv (o_t rfl)) <|
 Sim.op1 (h_mv (o_t rfl)) <|
 Sim.op1 (h_mv (o_t rfl)) <|
 Sim.op (h_lens (o_t rfl)) fun x5 =>
 Sim.op (h_sub (I := (IT.int .i64)) (o_t rfl) o_i) fun x6 =>
 Sim.op (h_ixs (o_t rfl) (o_t rfl)) fun x7 =>
 Sim.op (h_callR1 sp_p_strings_asciiSet_contains (.cons flat_b .nil) (.cons (a_v (o_t rfl)) <| .one (a_v (o_t rfl)))) fun x8 =>
 Sim.op (h_not (o_t rfl)) fun x9 =>
 Sim.doneS <| Sim.cond (o_t rfl) (
 Sim.exitS <| Sim.exitO rfl <| Sim.out s1 ⟨⟨⟨rfl, trivial⟩, trivial⟩, trivial⟩) (
 Sim.skip <| Sim.doneS <| Sim.op1 (h_mv (o_t rfl)) <|
 Sim.op1 (h_mv (o_t rfl)) <|
 Sim.op (h_lens (o_t rfl)) fun x10 =>
 Sim.op (h_sub (I := (IT.int .i64)) (o_t rfl) o_i) fun x11 =>
 Sim.op (h_sls (o_t rfl) .none (.some (o_t rfl))) fun x12 =>
 Sim.op1 (h_mv (o_t rfl)) <|
 Sim.doneB <| Sim.next x12 ⟨⟨⟨rfl, trivial⟩, ⟨⟨rfl, trivial⟩, trivial⟩⟩, trivial⟩)) (
 Sim.exitS <| Sim.out s1 ⟨⟨⟨rfl, trivial⟩, trivial⟩, trivial⟩)) (fun p2 =>
 Sim.exitB <| Sim.doneS <| Sim.seqI <| Sim.op1 (h_mv (o_t rfl)) <|
 Sim.op1 (h_mv (o_t rfl)) <|
 Sim.doneS <| Sim.ret (.one (res_t rfl)))
theorem sp_strings_trimRightASCII : Spec tb fn_strings_trimRightASCII [T.str, (T.ref (T.arr 256 T.b))] [T.str] (fun a => strings_trimRightASCII a.1 a.2) :=
  Spec.of f_strings_trimRightASCII rfl rfl rfl sim_strings_trimRightASCII

noncomputable def strings_trimLeftASCII (a0 : Str) (a1 : (Option (Ar Bool 256))) : Option Str :=
 (iter (fun (s1 : Str) =>
 if (decide (0 < (s1.length : Int))) = true then
 (idx s1 0).bind fun x5 =>
 (p_strings_asciiSet_contains a1 x5).bind fun x6 =>
 if (!x6) = true then
 some (.inr (.inl s1))
 else
 (subL s1 (some 1) none).bind fun x8 =>
 some (.inl x8)
 else
 some (.inr (.inl s1))) a0).bind (Sum.elim (fun (p2 : Str) =>
 some p2) some)
noncomputable def sim_strings_trimLeftASCII (a : Res [T.str, (T.ref (T.arr 256 T.b))]) : Sim tb ⟨argsT [T.str, (T.ref (T.arr 256 T.b))] 0 a, []⟩ c_strings_trimLeftASCII.body [] (QRes [T.str] c_strings_trimLeftASCII.res) :=
 Sim.seqI <| Sim.op1 (h_mv o_s) <|
 Sim.doneS <| Sim.seqI <| Sim.blkI <| Sim.loop (id := 0) (σ := Str) (τ := Str) (fun s1 => ⟨[(0, .val T.str s1), (1, .val (T.ref (T.arr 256 T.b)) a.2)], []⟩) (fun p2 => ⟨[(0, .val T.str p2)], []⟩) a.1 ⟨⟨⟨rfl, trivial⟩, ⟨⟨rfl, trivial⟩, trivial⟩⟩, trivial⟩ (fun _ => rfl) (fun s1 =>
 Sim.seqI <| Sim.seqI <| Sim.op1 (h_mv (o_t rfl)) <|
 Sim.op (h_lens (o_t rfl)) fun x3 =>
 Sim.op (h_cmp (I := (IT.int .i64)) rfl (o_t rfl) o_i) fun x4 =>
 Sim.doneS <| Sim.cond (o_t rfl) (
 Sim.skip <| Sim.doneS <| Sim.blkI <| Sim.seqI <| Sim.seqI <| Sim.op1 (h_mv (o_t rfl)) <|
 Sim.op1 (h_mv (o_t rfl)) <|
 Sim.op (h_ixs (o_t rfl) o_i) fun x5 =>
 Sim.op (h_callR1 sp_p_strings_asciiSet_contains (.cons flat_b .nil) (.cons (a_v (o_t rfl)) <| .one (a_v (o_t rfl)))) fun x6 =>
 Sim.op (h_not (o_t rfl)) fun x7 =>
 Sim.doneS <| Sim.cond (o_t rfl) (
 Sim.exitS <| Sim.exitO rfl <| Sim.out s1 ⟨⟨⟨rfl, trivial⟩, trivial⟩, trivial⟩) (
 Sim.skip <| Sim.doneS <| Sim.op1 (h_mv (o_t rfl)) <|
 Sim.op (h_sls (o_t rfl) (.some o_i) .none) fun x8 =>
 Sim.op1 (h_mv (o_t rfl)) <|
 Sim.doneB <| Sim.next x8 ⟨⟨⟨rfl, trivial⟩, ⟨⟨rfl, trivial⟩, trivial⟩⟩, trivial⟩)) (
 Sim.exitS <| Sim.out s1 ⟨⟨⟨rfl, trivial⟩, trivial⟩, trivial⟩)) (fun p2 =>
 Sim.exitB <| Sim.doneS <| Sim.seqI <| Sim.op1 (h_mv (o_t rfl)) <|
 Sim.op1 (h_mv (o_t rfl)) <|
 Sim.doneS <| Sim.ret (.one (res_t rfl)))
theorem sp_strings_trimLeftASCII : Spec tb fn_strings_trimLeftASCII [T.str, (T.ref (T.arr 256 T.b))] [T.str] (fun a => strings_trimLeftASCII a.1 a.2) :=
  Spec.of f_strings_trimLeftASCII rfl rfl rfl sim_strings_trimLeftASCII

noncomputable def unicode_utf8_RuneStart (a0 : UInt8) : Option Bool :=
 let x1 := IT.u8.ofI (bitsR .and .u8 (a0.toNat : Int) ((192 : UInt8).toNat : Int))
 let x2 := !decide ((x1.toNat : Int) = ((128 : UInt8).toNat : Int))
 some x2
noncomputable def sim_unicode_utf8_RuneStart (a : Res [T.u8]) : Sim tb ⟨argsT [T.u8] 0 a, []⟩ c_unicode_utf8_RuneStart.body [] (QRes [T.b] c_unicode_utf8_RuneStart.res) :=
 Sim.seqI <| Sim.op1 (h_mv o_b) <|
 Sim.doneS <| Sim.seqI <| Sim.op1 (h_mv (o_t rfl)) <|
 Sim.op (h_and (I := IT.u8) (o_t rfl) (o_u8 192 rfl)) fun x1 =>
 Sim.op (h_cmp (I := IT.u8) rfl (o_t rfl) (o_u8 128 rfl)) fun x2 =>
 Sim.op1 (h_mv (o_t rfl)) <|
 Sim.doneS <| Sim.ret (.one (res_t rfl))
theorem sp_unicode_utf8_RuneStart : Spec tb fn_unicode_utf8_RuneStart [T.u8] [T.b] (fun a => unicode_utf8_RuneStart a) :=
  Spec.of f_unicode_utf8_RuneStart rfl rfl rfl sim_unicode_utf8_RuneStart

noncomputable def unicode_utf8_DecodeLastRuneInString (a0 : Str) : Option (Int × Int) :=
 if (decide ((a0.length : Int) = 0)) = true then
 some (65533, 0)
 else
 (idx a0 (IntKind.i64.wrap ((a0.length : Int) - 1))).bind fun x4 =>
 if (decide (IntKind.i32.wrap (x4.toNat : Int) < 128)) = true then
 some (IntKind.i32.wrap (x4.toNat : Int), 1)
 else
 let x8 := if 0 > IntKind.i64.wrap ((a0.length : Int) - 4) then 0 else IntKind.i64.wrap ((a0.length : Int) - 4)
 let x9 := IntKind.i64.wrap (IntKind.i64.wrap ((a0.length : Int) - 1) - 1)
 (iter (fun (s10 : Int) =>
 if (decide (x8 ≤ s10)) = true then
 (idx a0 s10).bind fun x13 =>
 (unicode_utf8_RuneStart x13).bind fun x14 =>
 if x14 = true then
 some (.inr (.inl s10))
 else
 some (.inl (IntKind.i64.wrap (s10 - 1)))
 else
 some (.inr (.inl s10))) x9).bind (Sum.elim (fun (p11 : Int) =>
 (fun (k18 : Int → Option _) => if (decide (p11 < 0)) = true then
 k18 0
 else
 k18 p11) fun p17 =>
 (subL a0 (some p17) (some (a0.length : Int))).bind fun x19 =>
 (unicode_utf8_DecodeRuneInString x19).bind fun x20 =>
 let x24 := !decide (IntKind.i64.wrap (p17 + x20.2) = (a0.length : Int))
 if x24 = true then
 some (65533, 1)
 else
 some (x20.1, x20.2)) some)
noncomputable def sim_unicode_utf8_DecodeLastRuneInString (a : Res [T.str]) : Sim tb ⟨argsT [T.str] 0 a, []⟩ c_unicode_utf8_DecodeLastRuneInString.body [] (QRes [(T.int .i32), (T.int .i64)] c_unicode_utf8_DecodeLastRuneInString.res) :=
 Sim.seqI <| Sim.op1 (h_mv o_i) <|
 Sim.op1 (h_mv o_i) <|
 Sim.doneS <| Sim.seqI <| Sim.op1 (h_mv (o_t rfl)) <|
 Sim.op (h_lens (o_t rfl)) fun x1 =>
 Sim.op1 (h_mv (o_t rfl)) <|
 Sim.doneS <| Sim.seqI <| Sim.seqI <| Sim.op1 (h_mv (o_t rfl)) <|
 Sim.op (h_cmp (I := (IT.int .i64)) rfl (o_t rfl) o_i) fun x2 =>
 Sim.doneS <| Sim.cond (o_t rfl) (
 Sim.seqI <| Sim.op1 (h_mv o_i) <|
 Sim.op1 (h_mv o_i) <|
 Sim.doneS <| Sim.ret (.cons (res_t rfl) <| .one (res_t rfl))) (
 Sim.skip <| Sim.doneS <| Sim.seqI <| Sim.op1 (h_mv (o_t rfl)) <|
 Sim.op (h_sub (I := (IT.int .i64)) (o_t rfl) o_i) fun x3 =>
 Sim.op1 (h_mv (o_t rfl)) <|
 Sim.doneS <| Sim.seqI <| Sim.op1 (h_mv (o_t rfl)) <|
 Sim.op1 (h_mv (o_t rfl)) <|
 Sim.op (h_ixs (o_t rfl) (o_t rfl)) fun x4 =>
 Sim.op (h_cvi (I := IT.u8) (J := (IT.int .i32)) rfl (o_t rfl)) fun x5 =>
 Sim.op1 (h_mv (o_t rfl)) <|
 Sim.doneS <| Sim.seqI <| Sim.seqI <| Sim.op1 (h_mv (o_t rfl)) <|
 Sim.op (h_cmp (I := (IT.int .i32)) rfl (o_t rfl) o_i) fun x6 =>
 Sim.doneS <| Sim.cond (o_t rfl) (
 Sim.seqI <| Sim.op1 (h_mv (o_t rfl)) <|
 Sim.op1 (h_mv (o_t rfl)) <|
 Sim.op1 (h_mv o_i) <|
 Sim.doneS <| Sim.ret (.cons (res_t rfl) <| .one (res_t rfl))) (
 Sim.skip <| Sim.doneS <| Sim.seqI <| Sim.op1 (h_mv (o_t rfl)) <|
 Sim.op (h_sub (I := (IT.int .i64)) (o_t rfl) o_i) fun x7 =>
 Sim.op (h_max (I := (IT.int .i64)) (mx := true) (o_t rfl) o_i) fun x8 =>
 Sim.op1 (h_mv (o_t rfl)) <|
 Sim.doneS <| Sim.seqI <| Sim.seqI <| Sim.op1 (h_mv (o_t rfl)) <|
 Sim.op (h_sub (I := (IT.int .i64)) (o_t rfl) o_i) fun x9 =>
 Sim.op1 (h_mv (o_t rfl)) <|
 Sim.doneS <| Sim.blkI <| Sim.loop (id := 0) (σ := Int) (τ := Int) (fun s10 => ⟨[(0, .val T.str a), (4, .val (T.int .i64) x1), (5, .val (T.int .i64) s10), (6, .val (T.int .i64) x8)], []⟩) (fun p11 => ⟨[(0, .val T.str a), (4, .val (T.int .i64) x1), (5, .val (T.int .i64) p11)], []⟩) x9 ⟨⟨⟨rfl, trivial⟩, ⟨⟨rfl, trivial⟩, ⟨⟨rfl, trivial⟩, ⟨⟨rfl, trivial⟩, trivial⟩⟩⟩⟩, trivial⟩ (fun _ => rfl) (fun s10 =>
 Sim.seqI <| Sim.seqI <| Sim.op1 (h_mv (o_t rfl)) <|
 Sim.op1 (h_mv (o_t rfl)) <|
 Sim.op (h_cmp (I := (IT.int .i64)) rfl (o_t rfl) (o_t rfl)) fun x12 =>
 Sim.doneS <| Sim.cond (o_t rfl) (
 Sim.skip <| Sim.doneS <| Sim.seqI <| Sim.blkI <| Sim.seqI <| Sim.op1 (h_mv (o_t rfl)) <|
 Sim.op1 (h_mv (o_t rfl)) <|
 Sim.op (h_ixs (o_t rfl) (o_t rfl)) fun x13 =>
 Sim.op (h_call1 sp_unicode_utf8_RuneStart (.one (o_t rfl))) fun x14 =>
 Sim.doneS <| Sim.cond (o_t rfl) (
 Sim.exitO rfl <| Sim.exitS <| Sim.out s10 ⟨⟨⟨rfl, trivial⟩, ⟨⟨rfl, trivial⟩, ⟨⟨rfl, trivial⟩, trivial⟩⟩⟩, trivial⟩) (
 Sim.skip <| Sim.doneB <| Sim.doneS <| Sim.op1 (h_mv (o_t rfl)) <|
 Sim.op (h_sub (I := (IT.int .i64)) (o_t rfl) o_i) fun x15 =>
 Sim.op1 (h_mv (o_t rfl)) <|
 Sim.next x15 ⟨⟨⟨rfl, trivial⟩, ⟨⟨rfl, trivial⟩, ⟨⟨rfl, trivial⟩, ⟨⟨rfl, trivial⟩, trivial⟩⟩⟩⟩, trivial⟩)) (
 Sim.exitS <| Sim.out s10 ⟨⟨⟨rfl, trivial⟩, ⟨⟨rfl, trivial⟩, ⟨⟨rfl, trivial⟩, trivial⟩⟩⟩, trivial⟩)) (fun p11 =>
 Sim.exitB <| Sim.doneS <| Sim.seqI <| Sim.seqI <| Sim.op1 (h_mv (o_t rfl)) <|
 Sim.op (h_cmp (I := (IT.int .i64)) rfl (o_t rfl) o_i) fun x16 =>
 Sim.doneS <| Sim.join (τ := Int) (fun p17 => ⟨[(0, .val T.str a), (4, .val (T.int .i64) x1), (5, .val (T.int .i64) p17)], []⟩) (fun p17 =>
 Sim.doneS <| Sim.seqI <| Sim.op1 (h_mv (o_t rfl)) <|
 Sim.op1 (h_mv (o_t rfl)) <|
 Sim.op1 (h_mv (o_t rfl)) <|
 Sim.op (h_sls (o_t rfl) (.some (o_t rfl)) (.some (o_t rfl))) fun x19 =>
 Sim.op (h_callN sp_unicode_utf8_DecodeRuneInString (.one (o_t rfl))) fun x20 =>
 Sim.op1 (h_mv (o_t rfl)) <|
 Sim.opn (h_ext (o_t rfl) rfl) fun x21 =>
 Sim.opn (h_ext (o_t rfl) rfl) fun x22 =>
 Sim.op1 (h_mv (o_t rfl)) <|
 Sim.op1 (h_mv (o_t rfl)) <|
 Sim.doneS <| Sim.seqI <| Sim.seqI <| Sim.op1 (h_mv (o_t rfl)) <|
 Sim.op1 (h_mv (o_t rfl)) <|
 Sim.op (h_add (I := (IT.int .i64)) (o_t rfl) (o_t rfl)) fun x23 =>
 Sim.op1 (h_mv (o_t rfl)) <|
 Sim.op (h_cmp (I := (IT.int .i64)) rfl (o_t rfl) (o_t rfl)) fun x24 =>
 Sim.doneS <| Sim.cond (o_t rfl) (
 Sim.seqI <| Sim.op1 (h_mv o_i) <|
 Sim.op1 (h_mv o_i) <|
 Sim.doneS <| Sim.ret (.cons (res_t rfl) <| .one (res_t rfl))) (
 Sim.skip <| Sim.doneS <| Sim.seqI <| Sim.op1 (h_mv (o_t rfl)) <|
 Sim.op1 (h_mv (o_t rfl)) <|
 Sim.op1 (h_mv (o_t rfl)) <|
 Sim.op1 (h_mv (o_t rfl)) <|
 Sim.doneS <| Sim.ret (.cons (res_t rfl) <| .one (res_t rfl)))) fun k18 => Sim.cond (o_t rfl) (
 Sim.op1 (h_mv o_i) <|
 Sim.weak (k18 0) ⟨⟨⟨rfl, trivial⟩, ⟨⟨rfl, trivial⟩, ⟨⟨rfl, trivial⟩, trivial⟩⟩⟩, trivial⟩) (
 Sim.skip <| Sim.weak (k18 p11) ⟨⟨⟨rfl, trivial⟩, ⟨⟨rfl, trivial⟩, ⟨⟨rfl, trivial⟩, trivial⟩⟩⟩, trivial⟩))))
theorem sp_unicode_utf8_DecodeLastRuneInString : Spec tb fn_unicode_utf8_DecodeLastRuneInString [T.str] [(T.int .i32), (T.int .i64)] (fun a => unicode_utf8_DecodeLastRuneInString a) :=
  Spec.of f_unicode_utf8_DecodeLastRuneInString rfl rfl rfl sim_unicode_utf8_DecodeLastRuneInString

noncomputable def unicode_utf8_ValidRune (a0 : Int) : Option Bool :=
 (andO (decide (0 ≤ a0)) (some (decide (a0 < 55296)))).bind fun x3 =>
 if x3 = true then
 some true
 else
 (andO (decide (57343 < a0)) (some (decide (a0 ≤ 1114111)))).bind fun x6 =>
 if x6 = true then
 some true
 else
 some false
noncomputable def sim_unicode_utf8_ValidRune (a : Res [(T.int .i32)]) : Sim tb ⟨argsT [(T.int .i32)] 0 a, []⟩ c_unicode_utf8_ValidRune.body [] (QRes [T.b] c_unicode_utf8_ValidRune.res) :=
 Sim.seqI <| Sim.op1 (h_mv o_b) <|
 Sim.doneS <| Sim.seqI <| Sim.blkI <| Sim.seqI <| Sim.op1 (h_mv (o_t rfl)) <|
 Sim.op (h_cmp (I := (IT.int .i32)) rfl o_i (o_t rfl)) fun x1 =>
 Sim.op1 (h_mv (o_t rfl)) <|
 Sim.and 2 rfl rfl rfl (Grp.op1 (h_mv (o_t rfl)) <|
 Grp.op (h_cmp (I := (IT.int .i32)) rfl (o_t rfl) o_i) fun x2 =>
 Grp.nil (o_t rfl)) fun x3 =>
 Sim.op1 (h_mv (o_t rfl)) <|
 Sim.doneS <| Sim.cond (o_t rfl) (
 Sim.seqI <| Sim.op1 (h_mv o_b) <|
 Sim.doneS <| Sim.ret (.one (res_t rfl))) (
 Sim.seqI <| Sim.op1 (h_mv (o_t rfl)) <|
 Sim.op (h_cmp (I := (IT.int .i32)) rfl o_i (o_t rfl)) fun x4 =>
 Sim.op1 (h_mv (o_t rfl)) <|
 Sim.and 2 rfl rfl rfl (Grp.op1 (h_mv (o_t rfl)) <|
 Grp.op (h_cmp (I := (IT.int .i32)) rfl (o_t rfl) o_i) fun x5 =>
 Grp.nil (o_t rfl)) fun x6 =>
 Sim.op1 (h_mv (o_t rfl)) <|
 Sim.doneS <| Sim.cond (o_t rfl) (
 Sim.seqI <| Sim.op1 (h_mv o_b) <|
 Sim.doneS <| Sim.ret (.one (res_t rfl))) (
 Sim.skip <| Sim.doneB <| Sim.doneS <| Sim.seqI <| Sim.op1 (h_mv o_b) <|
 Sim.doneS <| Sim.ret (.one (res_t rfl))))
theorem sp_unicode_utf8_ValidRune : Spec tb fn_unicode_utf8_ValidRune [(T.int .i32)] [T.b] (fun a => unicode_utf8_ValidRune a) :=
  Spec.of f_unicode_utf8_ValidRune rfl rfl rfl sim_unicode_utf8_ValidRune

noncomputable def strings_IndexRune (a0 : Str) (a1 : Int) : Option Int :=
 (andO (decide (0 ≤ a1)) (some (decide (a1 < 128)))).bind fun x3 =>
 if x3 = true then
 (strings_IndexByte a0 (IT.u8.ofI a1)).bind fun x5 =>
 some x5
 else
 if (decide (a1 = 65533)) = true then
 (iter (fun (s7 : Nat) =>
 if s7 < a0.length then
 let x9 := runeAt a0 s7
 if (decide (x9.1 = 65533)) = true then
 (some ((s7 : Nat) : Int)).map fun r => .inr (.inr r)
 else
 some (.inl (s7 + x9.2))
 else
 some (.inr (.inl ()))) 0).bind (Sum.elim (fun (p8 : Unit) =>
 some (-1)) some)
 else
 (unicode_utf8_ValidRune a1).bind fun x13 =>
 if (!x13) = true then
 some (-1)
 else
 let x17 := IntKind.i64.wrap ((((Utf8.encode a1).data.toList).length : Int) - 1)
 (iter (fun (s18 : Unit) =>
 if (decide (x17 < (a0.length : Int))) = true then
 (idx a0 x17).bind fun x22 =>
 (idx ((Utf8.encode a1).data.toList) x17).bind fun x23 =>
 (fun (k26 : Int → Option _) => if (!decide ((x22.toNat : Int) = (x23.toNat : Int))) = true then
 (subL a0 (some (IntKind.i64.wrap (x17 + 1))) none).bind fun x39 =>
 (idx ((Utf8.encode a1).data.toList) x17).bind fun x40 =>
 (strings_IndexByte x39 x40).bind fun x41 =>
 if (decide (x41 < 0)) = true then
 (some (-1)).map fun r => .inr (.inr r)
 else
 let x44 := IntKind.i64.wrap (x17 + IntKind.i64.wrap (x41 + 1))
 k26 x44
 else
 k26 x17) fun p25 =>
 (iter (fun (s27 : Int) =>
 let x30 := decide (s27 < (((Utf8.encode a1).data.toList).length : Int))
 if x30 = true then
 (idx a0 (IntKind.i64.wrap (p25 - s27))).bind fun x32 =>
 (idx ((Utf8.encode a1).data.toList) (IntKind.i64.wrap (x17 - s27))).bind fun x34 =>
 if (!decide ((x32.toNat : Int) = (x34.toNat : Int))) = true then
 none
 else
 some (.inl (IntKind.i64.wrap (s27 + 1)))
 else
 some (.inr (.inl ()))) 1).bind (Sum.elim (fun (p28 : Unit) =>
 (some (IntKind.i64.wrap (p25 - x17))).map fun r => .inr (.inr r)) some)
 else
 some (.inr (.inl ()))) ()).bind (Sum.elim (fun (p19 : Unit) =>
 some (-1)) some)
noncomputable def sim_strings_IndexRune (a : Res [T.str, (T.int .i32)]) : Sim tb ⟨argsT [T.str, (T.int .i32)] 0 a, []⟩ c_strings_IndexRune.body [] (QRes [(T.int .i64)] c_strings_IndexRune.res) :=
 Sim.seqI <| Sim.op1 (h_mv o_i) <|
 Sim.doneS <| Sim.blkI <| Sim.seqI <| Sim.op1 (h_mv (o_t rfl)) <|
 Sim.op (h_cmp (I := (IT.int .i32)) rfl o_i (o_t rfl)) fun x1 =>
 Sim.op1 (h_mv (o_t rfl)) <|
 Sim.and 2 rfl rfl rfl (Grp.op1 (h_mv (o_t rfl)) <|
 Grp.op (h_cmp (I := (IT.int .i32)) rfl (o_t rfl) o_i) fun x2 =>
 Grp.nil (o_t rfl)) fun x3 =>
 Sim.op1 (h_mv (o_t rfl)) <|
 Sim.doneS <| Sim.cond (o_t rfl) (
 Sim.seqI <| Sim.op1 (h_mv (o_t rfl)) <|
 Sim.op1 (h_mv (o_t rfl)) <|
 Sim.op (h_cvi (I := (IT.int .i32)) (J := IT.u8) rfl (o_t rfl)) fun x4 =>
 Sim.op (h_call1 sp_strings_IndexByte (.cons (o_t rfl) <| .one (o_t rfl))) fun x5 =>
 Sim.op1 (h_mv (o_t rfl)) <|
 Sim.doneS <| Sim.ret (.one (res_t rfl))) (
 Sim.seqI <| Sim.op1 (h_mv (o_t rfl)) <|
 Sim.op (h_cmp (I := (IT.int .i32)) rfl (o_t rfl) o_i) fun x6 =>
 Sim.op1 (h_mv (o_t rfl)) <|
 Sim.doneS <| Sim.cond (o_t rfl) (
 Sim.seqI <| Sim.seqI <| Sim.op1 (h_mv (o_t rfl)) <|
 Sim.opM (M_rng 1175 rfl (o_t rfl)) fun _ =>
 Sim.doneS <| Sim.blkI <| Sim.loop (id := 9) (σ := Nat) (τ := Unit) (fun s7 => ⟨[(175, .own 1175)], [(1175, .dom DIter (a.1, s7))]⟩) (fun p8 => ⟨[], []⟩) 0 ⟨⟨⟨rfl, trivial⟩, trivial⟩, ⟨⟨rfl, trivial⟩, trivial⟩⟩ (fun _ => rfl) (fun s7 =>
 Sim.seqI <| Sim.nxt (o_t rfl) rfl (fun x9 =>
 Sim.op1 (h_ext (o_t rfl) rfl) <|
 Sim.doneS <| Sim.seqI <| Sim.condT (o_t rfl) <|
 Sim.skip <| Sim.doneS <| Sim.blkI <| Sim.seqI <| Sim.opn (h_ext (o_t rfl) rfl) fun x10 =>
 Sim.opn (h_ext (o_t rfl) rfl) fun x11 =>
 Sim.op1 (h_mv (o_t rfl)) <|
 Sim.op1 (h_mv (o_t rfl)) <|
 Sim.doneS <| Sim.seqI <| Sim.op1 (h_mv (o_t rfl)) <|
 Sim.op (h_cmp (I := (IT.int .i32)) rfl (o_t rfl) o_i) fun x12 =>
 Sim.doneS <| Sim.cond (o_t rfl) (
 Sim.seqI <| Sim.op1 (h_mv (o_t rfl)) <|
 Sim.op1 (h_mv (o_t rfl)) <|
 Sim.doneS <| Sim.outRet <| Sim.ret (.one (res_t rfl))) (
 Sim.skip <| Sim.doneB <| Sim.next (s7 + x9.2) ⟨⟨⟨rfl, trivial⟩, trivial⟩, ⟨⟨rfl, trivial⟩, trivial⟩⟩)) (
 Sim.op1 (h_ext (o_t rfl) rfl) <|
 Sim.doneS <| Sim.seqI <| Sim.condF (o_t rfl) <|
 Sim.exitS <| Sim.out () ⟨trivial, trivial⟩)) (fun p8 =>
 Sim.exitB <| Sim.doneS <| Sim.seqI <| Sim.op1 (h_mv o_i) <|
 Sim.doneS <| Sim.ret (.one (res_t rfl)))) (
 Sim.seqI <| Sim.op1 (h_mv (o_t rfl)) <|
 Sim.op (h_call1 sp_unicode_utf8_ValidRune (.one (o_t rfl))) fun x13 =>
 Sim.op (h_not (o_t rfl)) fun x14 =>
 Sim.op1 (h_mv (o_t rfl)) <|
 Sim.doneS <| Sim.cond (o_t rfl) (
 Sim.seqI <| Sim.op1 (h_mv o_i) <|
 Sim.doneS <| Sim.ret (.one (res_t rfl))) (
 Sim.scope <| Sim.seqI <| Sim.op1 (h_mv (o_t rfl)) <|
 Sim.op (h_cvc (o_t rfl)) fun x15 =>
 Sim.op1 (h_mv (o_t rfl)) <|
 Sim.doneS <| Sim.seqI <| Sim.op1 (h_mv (o_t rfl)) <|
 Sim.op (h_lens (o_t rfl)) fun x16 =>
 Sim.op (h_sub (I := (IT.int .i64)) (o_t rfl) o_i) fun x17 =>
 Sim.op1 (h_mv (o_t rfl)) <|
 Sim.doneS <| Sim.seqI <| Sim.op1 (h_mv (o_t rfl)) <|
 Sim.op1 (h_mv (o_t rfl)) <|
 Sim.doneS <| Sim.seqI <| Sim.op1 (h_mv o_i) <|
 Sim.doneS <| Sim.seqI <| Sim.blkI <| Sim.loop (id := 1) (σ := Unit) (τ := Unit) (fun s18 => ⟨[(0, .val T.str a.1), (7, .val T.str x15), (8, .val (T.int .i64) x17), (9, .val (T.int .i64) x17)], []⟩) (fun p19 => ⟨[], []⟩) () ⟨⟨⟨rfl, trivial⟩, ⟨⟨rfl, trivial⟩, ⟨⟨rfl, trivial⟩, ⟨⟨rfl, trivial⟩, trivial⟩⟩⟩⟩, trivial⟩ (fun _ => rfl) (fun s18 =>
 Sim.seqI <| Sim.seqI <| Sim.op1 (h_mv (o_t rfl)) <|
 Sim.op1 (h_mv (o_t rfl)) <|
 Sim.op (h_lens (o_t rfl)) fun x20 =>
 Sim.op (h_cmp (I := (IT.int .i64)) rfl (o_t rfl) (o_t rfl)) fun x21 =>
 Sim.doneS <| Sim.cond (o_t rfl) (
 Sim.skip <| Sim.doneS <| Sim.blkI <| Sim.scope <| Sim.seqI <| Sim.seqI <| Sim.op1 (h_mv (o_t rfl)) <|
 Sim.op1 (h_mv (o_t rfl)) <|
 Sim.op (h_ixs (o_t rfl) (o_t rfl)) fun x22 =>
 Sim.op1 (h_mv (o_t rfl)) <|
 Sim.op1 (h_mv (o_t rfl)) <|
 Sim.op (h_ixs (o_t rfl) (o_t rfl)) fun x23 =>
 Sim.op (h_cmp (I := IT.u8) rfl (o_t rfl) (o_t rfl)) fun x24 =>
 Sim.doneS <| Sim.join (τ := Int) (fun p25 => ⟨[(0, .val T.str a.1), (7, .val T.str x15), (8, .val (T.int .i64) x17), (9, .val (T.int .i64) p25)], []⟩) (fun p25 =>
 Sim.doneS <| Sim.seqI <| Sim.seqI <| Sim.op1 (h_mv o_i) <|
 Sim.doneS <| Sim.blkI <| Sim.loop (id := 3) (σ := Int) (τ := Unit) (fun s27 => ⟨[(0, .val T.str a.1), (7, .val T.str x15), (8, .val (T.int .i64) x17), (9, .val (T.int .i64) p25), (12, .val (T.int .i64) s27)], []⟩) (fun p28 => ⟨[(8, .val (T.int .i64) x17), (9, .val (T.int .i64) p25)], []⟩) 1 ⟨⟨⟨rfl, trivial⟩, ⟨⟨rfl, trivial⟩, ⟨⟨rfl, trivial⟩, ⟨⟨rfl, trivial⟩, ⟨⟨rfl, trivial⟩, trivial⟩⟩⟩⟩⟩, trivial⟩ (fun _ => rfl) (fun s27 =>
 Sim.seqI <| Sim.seqI <| Sim.op1 (h_mv (o_t rfl)) <|
 Sim.op1 (h_mv (o_t rfl)) <|
 Sim.op (h_lens (o_t rfl)) fun x29 =>
 Sim.op (h_cmp (I := (IT.int .i64)) rfl (o_t rfl) (o_t rfl)) fun x30 =>
 Sim.doneS <| Sim.cond (o_t rfl) (
 Sim.skip <| Sim.doneS <| Sim.seqI <| Sim.blkI <| Sim.seqI <| Sim.op1 (h_mv (o_t rfl)) <|
 Sim.op1 (h_mv (o_t rfl)) <|
 Sim.op1 (h_mv (o_t rfl)) <|
 Sim.op (h_sub (I := (IT.int .i64)) (o_t rfl) (o_t rfl)) fun x31 =>
 Sim.op (h_ixs (o_t rfl) (o_t rfl)) fun x32 =>
 Sim.op1 (h_mv (o_t rfl)) <|
 Sim.op1 (h_mv (o_t rfl)) <|
 Sim.op1 (h_mv (o_t rfl)) <|
 Sim.op (h_sub (I := (IT.int .i64)) (o_t rfl) (o_t rfl)) fun x33 =>
 Sim.op (h_ixs (o_t rfl) (o_t rfl)) fun x34 =>
 Sim.op (h_cmp (I := IT.u8) rfl (o_t rfl) (o_t rfl)) fun x35 =>
 Sim.doneS <| Sim.cond (o_t rfl) (
 Sim.stop) (
 Sim.skip <| Sim.doneB <| Sim.doneS <| Sim.op1 (h_mv (o_t rfl)) <|
 Sim.op (h_add (I := (IT.int .i64)) (o_t rfl) o_i) fun x36 =>
 Sim.op1 (h_mv (o_t rfl)) <|
 Sim.next x36 ⟨⟨⟨rfl, trivial⟩, ⟨⟨rfl, trivial⟩, ⟨⟨rfl, trivial⟩, ⟨⟨rfl, trivial⟩, ⟨⟨rfl, trivial⟩, trivial⟩⟩⟩⟩⟩, trivial⟩)) (
 Sim.exitS <| Sim.out () ⟨⟨⟨rfl, trivial⟩, ⟨⟨rfl, trivial⟩, trivial⟩⟩, trivial⟩)) (fun p28 =>
 Sim.exitB <| Sim.doneS <| Sim.seqI <| Sim.seqI <| Sim.op1 (h_mv (o_t rfl)) <|
 Sim.op1 (h_mv (o_t rfl)) <|
 Sim.op (h_sub (I := (IT.int .i64)) (o_t rfl) (o_t rfl)) fun x37 =>
 Sim.op1 (h_mv (o_t rfl)) <|
 Sim.doneS <| Sim.outRet <| Sim.ret (.one (res_t rfl)))) fun k26 => Sim.cond (o_t rfl) (
 Sim.seqI <| Sim.op1 (h_mv (o_t rfl)) <|
 Sim.op1 (h_mv (o_t rfl)) <|
 Sim.op (h_add (I := (IT.int .i64)) (o_t rfl) o_i) fun x38 =>
 Sim.op (h_sls (o_t rfl) (.some (o_t rfl)) .none) fun x39 =>
 Sim.op1 (h_mv (o_t rfl)) <|
 Sim.op1 (h_mv (o_t rfl)) <|
 Sim.op (h_ixs (o_t rfl) (o_t rfl)) fun x40 =>
 Sim.op (h_call1 sp_strings_IndexByte (.cons (o_t rfl) <| .one (o_t rfl))) fun x41 =>
 Sim.op1 (h_mv (o_t rfl)) <|
 Sim.doneS <| Sim.seqI <| Sim.seqI <| Sim.op1 (h_mv (o_t rfl)) <|
 Sim.op (h_cmp (I := (IT.int .i64)) rfl (o_t rfl) o_i) fun x42 =>
 Sim.doneS <| Sim.cond (o_t rfl) (
 Sim.seqI <| Sim.op1 (h_mv o_i) <|
 Sim.doneS <| Sim.outRet <| Sim.ret (.one (res_t rfl))) (
 Sim.skip <| Sim.doneS <| Sim.op1 (h_mv (o_t rfl)) <|
 Sim.op1 (h_mv (o_t rfl)) <|
 Sim.op (h_add (I := (IT.int .i64)) (o_t rfl) o_i) fun x43 =>
 Sim.op (h_add (I := (IT.int .i64)) (o_t rfl) (o_t rfl)) fun x44 =>
 Sim.op1 (h_mv (o_t rfl)) <|
 Sim.weak (k26 x44) ⟨⟨⟨rfl, trivial⟩, ⟨⟨rfl, trivial⟩, ⟨⟨rfl, trivial⟩, ⟨⟨rfl, trivial⟩, trivial⟩⟩⟩⟩, trivial⟩)) (
 Sim.skip <| Sim.weak (k26 x17) ⟨⟨⟨rfl, trivial⟩, ⟨⟨rfl, trivial⟩, ⟨⟨rfl, trivial⟩, ⟨⟨rfl, trivial⟩, trivial⟩⟩⟩⟩, trivial⟩)) (
 Sim.exitS <| Sim.out () ⟨trivial, trivial⟩)) (fun p19 =>
 Sim.exitB <| Sim.doneS <| Sim.seqI <| Sim.seqI <| Sim.op1 (h_mv o_i) <|
 Sim.doneS <| Sim.ret (.one (res_t rfl))))))
theorem sp_strings_IndexRune : Spec tb fn_strings_IndexRune [T.str, (T.int .i32)] [(T.int .i64)] (fun a => strings_IndexRune a.1 a.2) :=
  Spec.of f_strings_IndexRune rfl rfl rfl sim_strings_IndexRune

noncomputable def strings_ContainsRune (a0 : Str) (a1 : Int) : Option Bool :=
 (strings_IndexRune a0 a1).bind fun x1 =>
 some (decide (0 ≤ x1))
noncomputable def sim_strings_ContainsRune (a : Res [T.str, (T.int .i32)]) : Sim tb ⟨argsT [T.str, (T.int .i32)] 0 a, []⟩ c_strings_ContainsRune.body [] (QRes [T.b] c_strings_ContainsRune.res) :=
 Sim.seqI <| Sim.op1 (h_mv o_b) <|
 Sim.doneS <| Sim.seqI <| Sim.op1 (h_mv (o_t rfl)) <|
 Sim.op1 (h_mv (o_t rfl)) <|
 Sim.op (h_call1 sp_strings_IndexRune (.cons (o_t rfl) <| .one (o_t rfl))) fun x1 =>
 Sim.op (h_cmp (I := (IT.int .i64)) rfl (o_t rfl) o_i) fun x2 =>
 Sim.op1 (h_mv (o_t rfl)) <|
 Sim.doneS <| Sim.ret (.one (res_t rfl))
theorem sp_strings_ContainsRune : Spec tb fn_strings_ContainsRune [T.str, (T.int .i32)] [T.b] (fun a => strings_ContainsRune a.1 a.2) :=
  Spec.of f_strings_ContainsRune rfl rfl rfl sim_strings_ContainsRune

noncomputable def strings_trimRightUnicode (a0 : Str) (a1 : Str) : Option Str :=
 (iter (fun (s1 : Str) =>
 if (decide (0 < (s1.length : Int))) = true then
 (idx s1 (IntKind.i64.wrap ((s1.length : Int) - 1))).bind fun x7 =>
 (fun (k11 : (Int × Int) → Option _) => if (decide (128 ≤ IntKind.i32.wrap (x7.toNat : Int))) = true then
 (unicode_utf8_DecodeLastRuneInString s1).bind fun x17 =>
 k11 (x17.1, x17.2)
 else
 k11 (IntKind.i32.wrap (x7.toNat : Int), 1)) fun p10 =>
 (strings_ContainsRune a1 p10.1).bind fun x12 =>
 if (!x12) = true then
 some (.inr (.inl s1))
 else
 (subL s1 none (some (IntKind.i64.wrap ((s1.length : Int) - p10.2)))).bind fun x16 =>
 some (.inl x16)
 else
 some (.inr (.inl s1))) a0).bind (Sum.elim (fun (p2 : Str) =>
 some p2) some)
noncomputable def sim_strings_trimRightUnicode (a : Res [T.str, T.str]) : Sim tb ⟨argsT [T.str, T.str] 0 a, []⟩ c_strings_trimRightUnicode.body [] (QRes [T.str] c_strings_trimRightUnicode.res) :=
 Sim.seqI <| Sim.op1 (h_mv o_s) <|
 Sim.doneS <| Sim.seqI <| Sim.blkI <| Sim.loop (id := 0) (σ := Str) (τ := Str) (fun s1 => ⟨[(0, .val T.str s1), (1, .val T.str a.2)], []⟩) (fun p2 => ⟨[(0, .val T.str p2)], []⟩) a.1 ⟨⟨⟨rfl, trivial⟩, ⟨⟨rfl, trivial⟩, trivial⟩⟩, trivial⟩ (fun _ => rfl) (fun s1 =>
 Sim.seqI <| Sim.seqI <| Sim.op1 (h_mv (o_t rfl)) <|
 Sim.op (h_lens (o_t rfl)) fun x3 =>
 Sim.op (h_cmp (I := (IT.int .i64)) rfl (o_t rfl) o_i) fun x4 =>
 Sim.doneS <| Sim.cond (o_t rfl) (
 Sim.skip <| Sim.doneS <| Sim.blkI <| Sim.seqI <| Sim.op1 (h_mv (o_t rfl)) <|
 Sim.op1 (h_mv (o_t rfl)) <|
 Sim.op (h_lens (o_t rfl)) fun x5 =>
 Sim.op (h_sub (I := (IT.int .i64)) (o_t rfl) o_i) fun x6 =>
 Sim.op (h_ixs (o_t rfl) (o_t rfl)) fun x7 =>
 Sim.op (h_cvi (I := IT.u8) (J := (IT.int .i32)) rfl (o_t rfl)) fun x8 =>
 Sim.op1 (h_mv (o_t rfl)) <|
 Sim.op1 (h_mv o_i) <|
 Sim.doneS <| Sim.seqI <| Sim.seqI <| Sim.op1 (h_mv (o_t rfl)) <|
 Sim.op (h_cmp (I := (IT.int .i32)) rfl (o_t rfl) o_i) fun x9 =>
 Sim.doneS <| Sim.join (τ := (Int × Int)) (fun p10 => ⟨[(0, .val T.str s1), (1, .val T.str a.2), (5, .val (T.int .i32) p10.1), (6, .val (T.int .i64) p10.2)], []⟩) (fun p10 =>
 Sim.doneS <| Sim.seqI <| Sim.seqI <| Sim.op1 (h_mv (o_t rfl)) <|
 Sim.op1 (h_mv (o_t rfl)) <|
 Sim.op (h_call1 sp_strings_ContainsRune (.cons (o_t rfl) <| .one (o_t rfl))) fun x12 =>
 Sim.op (h_not (o_t rfl)) fun x13 =>
 Sim.doneS <| Sim.cond (o_t rfl) (
 Sim.exitS <| Sim.exitO rfl <| Sim.out s1 ⟨⟨⟨rfl, trivial⟩, trivial⟩, trivial⟩) (
 Sim.skip <| Sim.doneS <| Sim.op1 (h_mv (o_t rfl)) <|
 Sim.op1 (h_mv (o_t rfl)) <|
 Sim.op (h_lens (o_t rfl)) fun x14 =>
 Sim.op1 (h_mv (o_t rfl)) <|
 Sim.op (h_sub (I := (IT.int .i64)) (o_t rfl) (o_t rfl)) fun x15 =>
 Sim.op (h_sls (o_t rfl) .none (.some (o_t rfl))) fun x16 =>
 Sim.op1 (h_mv (o_t rfl)) <|
 Sim.doneB <| Sim.next x16 ⟨⟨⟨rfl, trivial⟩, ⟨⟨rfl, trivial⟩, trivial⟩⟩, trivial⟩)) fun k11 => Sim.cond (o_t rfl) (
 Sim.op1 (h_mv (o_t rfl)) <|
 Sim.op (h_callN sp_unicode_utf8_DecodeLastRuneInString (.one (o_t rfl))) fun x17 =>
 Sim.op1 (h_mv (o_t rfl)) <|
 Sim.opn (h_ext (o_t rfl) rfl) fun x18 =>
 Sim.opn (h_ext (o_t rfl) rfl) fun x19 =>
 Sim.op1 (h_mv (o_t rfl)) <|
 Sim.op1 (h_mv (o_t rfl)) <|
 Sim.weak (k11 (x18, x19)) ⟨⟨⟨rfl, trivial⟩, ⟨⟨rfl, trivial⟩, ⟨⟨rfl, trivial⟩, ⟨⟨rfl, trivial⟩, trivial⟩⟩⟩⟩, trivial⟩) (
 Sim.skip <| Sim.weak (k11 (x8, 1)) ⟨⟨⟨rfl, trivial⟩, ⟨⟨rfl, trivial⟩, ⟨⟨rfl, trivial⟩, ⟨⟨rfl, trivial⟩, trivial⟩⟩⟩⟩, trivial⟩)) (
 Sim.exitS <| Sim.out s1 ⟨⟨⟨rfl, trivial⟩, trivial⟩, trivial⟩)) (fun p2 =>
 Sim.exitB <| Sim.doneS <| Sim.seqI <| Sim.op1 (h_mv (o_t rfl)) <|
 Sim.op1 (h_mv (o_t rfl)) <|
 Sim.doneS <| Sim.ret (.one (res_t rfl)))
theorem sp_strings_trimRightUnicode : Spec tb fn_strings_trimRightUnicode [T.str, T.str] [T.str] (fun a => strings_trimRightUnicode a.1 a.2) :=
  Spec.of f_strings_trimRightUnicode rfl rfl rfl sim_strings_trimRightUnicode

noncomputable def strings_trimLeftUnicode (a0 : Str) (a1 : Str) : Option Str :=
 (iter (fun (s1 : Str) =>
 if (decide (0 < (s1.length : Int))) = true then
 (unicode_utf8_DecodeRuneInString s1).bind fun x5 =>
 (strings_ContainsRune a1 x5.1).bind fun x8 =>
 if (!x8) = true then
 some (.inr (.inl s1))
 else
 (subL s1 (some x5.2) none).bind fun x10 =>
 some (.inl x10)
 else
 some (.inr (.inl s1))) a0).bind (Sum.elim (fun (p2 : Str) =>
 some p2) some)
noncomputable def sim_strings_trimLeftUnicode (a : Res [T.str, T.str]) : Sim tb ⟨argsT [T.str, T.str] 0 a, []⟩ c_strings_trimLeftUnicode.body [] (QRes [T.str] c_strings_trimLeftUnicode.res) :=
 Sim.seqI <| Sim.op1 (h_mv o_s) <|
 Sim.doneS <| Sim.seqI <| Sim.blkI <| Sim.loop (id := 0) (σ := Str) (τ := Str) (fun s1 => ⟨[(0, .val T.str s1), (1, .val T.str a.2)], []⟩) (fun p2 => ⟨[(0, .val T.str p2)], []⟩) a.1 ⟨⟨⟨rfl, trivial⟩, ⟨⟨rfl, trivial⟩, trivial⟩⟩, trivial⟩ (fun _ => rfl) (fun s1 =>
 Sim.seqI <| Sim.seqI <| Sim.op1 (h_mv (o_t rfl)) <|
 Sim.op (h_lens (o_t rfl)) fun x3 =>
 Sim.op (h_cmp (I := (IT.int .i64)) rfl (o_t rfl) o_i) fun x4 =>
 Sim.doneS <| Sim.cond (o_t rfl) (
 Sim.skip <| Sim.doneS <| Sim.blkI <| Sim.seqI <| Sim.op1 (h_mv (o_t rfl)) <|
 Sim.op (h_callN sp_unicode_utf8_DecodeRuneInString (.one (o_t rfl))) fun x5 =>
 Sim.op1 (h_mv (o_t rfl)) <|
 Sim.opn (h_ext (o_t rfl) rfl) fun x6 =>
 Sim.opn (h_ext (o_t rfl) rfl) fun x7 =>
 Sim.op1 (h_mv (o_t rfl)) <|
 Sim.op1 (h_mv (o_t rfl)) <|
 Sim.doneS <| Sim.seqI <| Sim.seqI <| Sim.op1 (h_mv (o_t rfl)) <|
 Sim.op1 (h_mv (o_t rfl)) <|
 Sim.op (h_call1 sp_strings_ContainsRune (.cons (o_t rfl) <| .one (o_t rfl))) fun x8 =>
 Sim.op (h_not (o_t rfl)) fun x9 =>
 Sim.doneS <| Sim.cond (o_t rfl) (
 Sim.exitS <| Sim.exitO rfl <| Sim.out s1 ⟨⟨⟨rfl, trivial⟩, trivial⟩, trivial⟩) (
 Sim.skip <| Sim.doneS <| Sim.op1 (h_mv (o_t rfl)) <|
 Sim.op1 (h_mv (o_t rfl)) <|
 Sim.op (h_sls (o_t rfl) (.some (o_t rfl)) .none) fun x10 =>
 Sim.op1 (h_mv (o_t rfl)) <|
 Sim.doneB <| Sim.next x10 ⟨⟨⟨rfl, trivial⟩, ⟨⟨rfl, trivial⟩, trivial⟩⟩, trivial⟩)) (
 Sim.exitS <| Sim.out s1 ⟨⟨⟨rfl, trivial⟩, trivial⟩, trivial⟩)) (fun p2 =>
 Sim.exitB <| Sim.doneS <| Sim.seqI <| Sim.op1 (h_mv (o_t rfl)) <|
 Sim.op1 (h_mv (o_t rfl)) <|
 Sim.doneS <| Sim.ret (.one (res_t rfl)))
theorem sp_strings_trimLeftUnicode : Spec tb fn_strings_trimLeftUnicode [T.str, T.str] [T.str] (fun a => strings_trimLeftUnicode a.1 a.2) :=
  Spec.of f_strings_trimLeftUnicode rfl rfl rfl sim_strings_trimLeftUnicode

noncomputable def strings_Trim (a0 : Str) (a1 : Str) : Option Str :=
 (orO (decide (a0 = [])) (some (decide (a1 = [])))).bind fun x3 =>
 if x3 = true then
 some a0
 else
 (andO (decide ((a1.length : Int) = 1)) ((idx a1 0).bind fun x6 =>
 let x7 := decide ((x6.toNat : Int) < ((128 : UInt8).toNat : Int))
 some x7)).bind fun x8 =>
 if x8 = true then
 (idx a1 0).bind fun x9 =>
 (strings_trimRightByte a0 x9).bind fun x10 =>
 (idx a1 0).bind fun x11 =>
 (strings_trimLeftByte x10 x11).bind fun x12 =>
 some x12
 else
 (strings_makeASCIISet a1).bind fun x13 =>
 if x13.2 = true then
 (strings_trimRightASCII a0 (some x13.1)).bind fun x18 =>
 (strings_trimLeftASCII x18 (some x13.1)).bind fun x19 =>
 some x19
 else
 (strings_trimRightUnicode a0 a1).bind fun x20 =>
 (strings_trimLeftUnicode x20 a1).bind fun x21 =>
 some x21
noncomputable def sim_strings_Trim (a : Res [T.str, T.str]) : Sim tb ⟨argsT [T.str, T.str] 0 a, []⟩ c_strings_Trim.body [] (QRes [T.str] c_strings_Trim.res) :=
 Sim.seqI <| Sim.op1 (h_mv o_s) <|
 Sim.doneS <| Sim.seqI <| Sim.seqI <| Sim.op1 (h_mv (o_t rfl)) <|
 Sim.op (h_seql (o_t rfl) o_s) fun x1 =>
 Sim.op1 (h_mv (o_t rfl)) <|
 Sim.or 2 rfl rfl rfl (Grp.op1 (h_mv (o_t rfl)) <|
 Grp.op (h_seql (o_t rfl) o_s) fun x2 =>
 Grp.nil (o_t rfl)) fun x3 =>
 Sim.doneS <| Sim.cond (o_t rfl) (
 Sim.seqI <| Sim.op1 (h_mv (o_t rfl)) <|
 Sim.op1 (h_mv (o_t rfl)) <|
 Sim.doneS <| Sim.ret (.one (res_t rfl))) (
 Sim.skip <| Sim.doneS <| Sim.seqI <| Sim.seqI <| Sim.op1 (h_mv (o_t rfl)) <|
 Sim.op (h_lens (o_t rfl)) fun x4 =>
 Sim.op (h_cmp (I := (IT.int .i64)) rfl (o_t rfl) o_i) fun x5 =>
 Sim.op1 (h_mv (o_t rfl)) <|
 Sim.and 3 rfl rfl rfl (Grp.op1 (h_mv (o_t rfl)) <|
 Grp.op (h_ixs (o_t rfl) o_i) fun x6 =>
 Grp.op (h_cmp (I := IT.u8) rfl (o_t rfl) (o_u8 128 rfl)) fun x7 =>
 Grp.nil (o_t rfl)) fun x8 =>
 Sim.doneS <| Sim.cond (o_t rfl) (
 Sim.seqI <| Sim.op1 (h_mv (o_t rfl)) <|
 Sim.op1 (h_mv (o_t rfl)) <|
 Sim.op (h_ixs (o_t rfl) o_i) fun x9 =>
 Sim.op (h_call1 sp_strings_trimRightByte (.cons (o_t rfl) <| .one (o_t rfl))) fun x10 =>
 Sim.op1 (h_mv (o_t rfl)) <|
 Sim.op (h_ixs (o_t rfl) o_i) fun x11 =>
 Sim.op (h_call1 sp_strings_trimLeftByte (.cons (o_t rfl) <| .one (o_t rfl))) fun x12 =>
 Sim.op1 (h_mv (o_t rfl)) <|
 Sim.doneS <| Sim.ret (.one (res_t rfl))) (
 Sim.skip <| Sim.doneS <| Sim.seqI <| Sim.seqI <| Sim.op1 (h_mv (o_t rfl)) <|
 Sim.op (h_callN sp_strings_makeASCIISet (.one (o_t rfl))) fun x13 =>
 Sim.op1 (h_mv (o_t rfl)) <|
 Sim.opn (h_ext (o_t rfl) rfl) fun x14 =>
 Sim.opn (h_ext (o_t rfl) rfl) fun x15 =>
 Sim.opM (M_alloc (t := (T.arr 256 T.b)) 5 rfl rfl) fun x16 =>
 Sim.opM (M_stC (o_t rfl) (o_t rfl) rfl rfl (Fld.id _) rfl) fun x17 =>
 Sim.op1 (h_mv (o_t rfl)) <|
 Sim.doneS <| Sim.seqI <| Sim.op1 (h_mv (o_t rfl)) <|
 Sim.doneS <| Sim.cond (o_t rfl) (
 Sim.seqI <| Sim.op1 (h_mv (o_t rfl)) <|
 Sim.op (h_callR1 sp_strings_trimRightASCII (.cons flat_str .nil) (.cons (a_v (o_t rfl)) <| .one (a_p (o_t rfl) rfl rfl))) fun x18 =>
 Sim.op (h_callR1 sp_strings_trimLeftASCII (.cons flat_str .nil) (.cons (a_v (o_t rfl)) <| .one (a_p (o_t rfl) rfl rfl))) fun x19 =>
 Sim.op1 (h_mv (o_t rfl)) <|
 Sim.doneS <| Sim.ret (.one (res_t rfl))) (
 Sim.skip <| Sim.doneS <| Sim.seqI <| Sim.op1 (h_mv (o_t rfl)) <|
 Sim.op1 (h_mv (o_t rfl)) <|
 Sim.op (h_call1 sp_strings_trimRightUnicode (.cons (o_t rfl) <| .one (o_t rfl))) fun x20 =>
 Sim.op1 (h_mv (o_t rfl)) <|
 Sim.op (h_call1 sp_strings_trimLeftUnicode (.cons (o_t rfl) <| .one (o_t rfl))) fun x21 =>
 Sim.op1 (h_mv (o_t rfl)) <|
 Sim.doneS <| Sim.ret (.one (res_t rfl)))))
theorem sp_strings_Trim : Spec tb fn_strings_Trim [T.str, T.str] [T.str] (fun a => strings_Trim a.1 a.2) :=
  Spec.of f_strings_Trim rfl rfl rfl sim_strings_Trim

noncomputable def lines_Trim (a0 : Str) : Option Str :=
 (strings_Trim a0 [32, 9, 13]).bind fun x1 =>
 some x1
noncomputable def sim_lines_Trim (a : Res [T.str]) : Sim tb ⟨argsT [T.str] 0 a, []⟩ c_lines_Trim.body [] (QRes [T.str] c_lines_Trim.res) :=
 Sim.seqI <| Sim.op1 (h_mv o_s) <|
 Sim.doneS <| Sim.seqI <| Sim.op1 (h_mv (o_t rfl)) <|
 Sim.op (h_call1 sp_strings_Trim (.cons (o_t rfl) <| .one o_s)) fun x1 =>
 Sim.op1 (h_mv (o_t rfl)) <|
 Sim.doneS <| Sim.ret (.one (res_t rfl))
theorem sp_lines_Trim : Spec tb fn_lines_Trim [T.str] [T.str] (fun a => lines_Trim a) :=
  Spec.of f_lines_Trim rfl rfl rfl sim_lines_Trim

noncomputable def internal_stringslite_HasPrefix (a0 : Str) (a1 : Str) : Option Bool :=
 (andO (decide ((a1.length : Int) ≤ (a0.length : Int))) ((subL a0 none (some (a1.length : Int))).bind fun x5 =>
 some (decide (x5 = a1)))).bind fun x7 =>
 some x7
noncomputable def sim_internal_stringslite_HasPrefix (a : Res [T.str, T.str]) : Sim tb ⟨argsT [T.str, T.str] 0 a, []⟩ c_internal_stringslite_HasPrefix.body [] (QRes [T.b] c_internal_stringslite_HasPrefix.res) :=
 Sim.seqI <| Sim.op1 (h_mv o_b) <|
 Sim.doneS <| Sim.seqI <| Sim.op1 (h_mv (o_t rfl)) <|
 Sim.op (h_lens (o_t rfl)) fun x1 =>
 Sim.op1 (h_mv (o_t rfl)) <|
 Sim.op (h_lens (o_t rfl)) fun x2 =>
 Sim.op (h_cmp (I := (IT.int .i64)) rfl (o_t rfl) (o_t rfl)) fun x3 =>
 Sim.op1 (h_mv (o_t rfl)) <|
 Sim.and 6 rfl rfl rfl (Grp.op1 (h_mv (o_t rfl)) <|
 Grp.op1 (h_mv (o_t rfl)) <|
 Grp.op (h_lens (o_t rfl)) fun x4 =>
 Grp.op (h_sls (o_t rfl) .none (.some (o_t rfl))) fun x5 =>
 Grp.op1 (h_mv (o_t rfl)) <|
 Grp.op (h_seql (o_t rfl) (o_t rfl)) fun x6 =>
 Grp.nil (o_t rfl)) fun x7 =>
 Sim.op1 (h_mv (o_t rfl)) <|
 Sim.doneS <| Sim.ret (.one (res_t rfl))
theorem sp_internal_stringslite_HasPrefix : Spec tb fn_internal_stringslite_HasPrefix [T.str, T.str] [T.b] (fun a => internal_stringslite_HasPrefix a.1 a.2) :=
  Spec.of f_internal_stringslite_HasPrefix rfl rfl rfl sim_internal_stringslite_HasPrefix

noncomputable def strings_HasPrefix (a0 : Str) (a1 : Str) : Option Bool :=
 (internal_stringslite_HasPrefix a0 a1).bind fun x1 =>
 some x1
noncomputable def sim_strings_HasPrefix (a : Res [T.str, T.str]) : Sim tb ⟨argsT [T.str, T.str] 0 a, []⟩ c_strings_HasPrefix.body [] (QRes [T.b] c_strings_HasPrefix.res) :=
 Sim.seqI <| Sim.op1 (h_mv o_b) <|
 Sim.doneS <| Sim.seqI <| Sim.op1 (h_mv (o_t rfl)) <|
 Sim.op1 (h_mv (o_t rfl)) <|
 Sim.op (h_call1 sp_internal_stringslite_HasPrefix (.cons (o_t rfl) <| .one (o_t rfl))) fun x1 =>
 Sim.op1 (h_mv (o_t rfl)) <|
 Sim.doneS <| Sim.ret (.one (res_t rfl))
theorem sp_strings_HasPrefix : Spec tb fn_strings_HasPrefix [T.str, T.str] [T.b] (fun a => strings_HasPrefix a.1 a.2) :=
  Spec.of f_strings_HasPrefix rfl rfl rfl sim_strings_HasPrefix

noncomputable def internal_stringslite_CutSuffix (a0 : Str) (a1 : Str) : Option (Str × Bool) :=
 (internal_stringslite_HasSuffix a0 a1).bind fun x1 =>
 if (!x1) = true then
 some (a0, false)
 else
 let x5 := IntKind.i64.wrap ((a0.length : Int) - (a1.length : Int))
 (subL a0 none (some x5)).bind fun x6 =>
 some (x6, true)
noncomputable def sim_internal_stringslite_CutSuffix (a : Res [T.str, T.str]) : Sim tb ⟨argsT [T.str, T.str] 0 a, []⟩ c_internal_stringslite_CutSuffix.body [] (QRes [T.str, T.b] c_internal_stringslite_CutSuffix.res) :=
 Sim.seqI <| Sim.op1 (h_mv o_s) <|
 Sim.op1 (h_mv o_b) <|
 Sim.doneS <| Sim.seqI <| Sim.seqI <| Sim.op1 (h_mv (o_t rfl)) <|
 Sim.op1 (h_mv (o_t rfl)) <|
 Sim.op (h_call1 sp_internal_stringslite_HasSuffix (.cons (o_t rfl) <| .one (o_t rfl))) fun x1 =>
 Sim.op (h_not (o_t rfl)) fun x2 =>
 Sim.doneS <| Sim.cond (o_t rfl) (
 Sim.seqI <| Sim.op1 (h_mv (o_t rfl)) <|
 Sim.op1 (h_mv (o_t rfl)) <|
 Sim.op1 (h_mv o_b) <|
 Sim.doneS <| Sim.ret (.cons (res_t rfl) <| .one (res_t rfl))) (
 Sim.skip <| Sim.doneS <| Sim.seqI <| Sim.op1 (h_mv (o_t rfl)) <|
 Sim.op1 (h_mv (o_t rfl)) <|
 Sim.op (h_lens (o_t rfl)) fun x3 =>
 Sim.op1 (h_mv (o_t rfl)) <|
 Sim.op (h_lens (o_t rfl)) fun x4 =>
 Sim.op (h_sub (I := (IT.int .i64)) (o_t rfl) (o_t rfl)) fun x5 =>
 Sim.op (h_sls (o_t rfl) .none (.some (o_t rfl))) fun x6 =>
 Sim.op1 (h_mv (o_t rfl)) <|
 Sim.op1 (h_mv o_b) <|
 Sim.doneS <| Sim.ret (.cons (res_t rfl) <| .one (res_t rfl)))
theorem sp_internal_stringslite_CutSuffix : Spec tb fn_internal_stringslite_CutSuffix [T.str, T.str] [T.str, T.b] (fun a => internal_stringslite_CutSuffix a.1 a.2) :=
  Spec.of f_internal_stringslite_CutSuffix rfl rfl rfl sim_internal_stringslite_CutSuffix

noncomputable def strings_CutSuffix (a0 : Str) (a1 : Str) : Option (Str × Bool) :=
 (internal_stringslite_CutSuffix a0 a1).bind fun x1 =>
 some (x1.1, x1.2)
noncomputable def sim_strings_CutSuffix (a : Res [T.str, T.str]) : Sim tb ⟨argsT [T.str, T.str] 0 a, []⟩ c_strings_CutSuffix.body [] (QRes [T.str, T.b] c_strings_CutSuffix.res) :=
 Sim.seqI <| Sim.op1 (h_mv o_s) <|
 Sim.op1 (h_mv o_b) <|
 Sim.doneS <| Sim.seqI <| Sim.op1 (h_mv (o_t rfl)) <|
 Sim.op1 (h_mv (o_t rfl)) <|
 Sim.op (h_callN sp_internal_stringslite_CutSuffix (.cons (o_t rfl) <| .one (o_t rfl))) fun x1 =>
 Sim.opn (h_ext (o_t rfl) rfl) fun x2 =>
 Sim.opn (h_ext (o_t rfl) rfl) fun x3 =>
 Sim.op1 (h_mv (o_t rfl)) <|
 Sim.op1 (h_mv (o_t rfl)) <|
 Sim.doneS <| Sim.ret (.cons (res_t rfl) <| .one (res_t rfl))
theorem sp_strings_CutSuffix : Spec tb fn_strings_CutSuffix [T.str, T.str] [T.str, T.b] (fun a => strings_CutSuffix a.1 a.2) :=
  Spec.of f_strings_CutSuffix rfl rfl rfl sim_strings_CutSuffix

noncomputable def internal_stringslite_TrimPrefix (a0 : Str) (a1 : Str) : Option Str :=
 (internal_stringslite_HasPrefix a0 a1).bind fun x1 =>
 if x1 = true then
 (subL a0 (some (a1.length : Int)) none).bind fun x3 =>
 some x3
 else
 some a0
noncomputable def sim_internal_stringslite_TrimPrefix (a : Res [T.str, T.str]) : Sim tb ⟨argsT [T.str, T.str] 0 a, []⟩ c_internal_stringslite_TrimPrefix.body [] (QRes [T.str] c_internal_stringslite_TrimPrefix.res) :=
 Sim.seqI <| Sim.op1 (h_mv o_s) <|
 Sim.doneS <| Sim.seqI <| Sim.seqI <| Sim.op1 (h_mv (o_t rfl)) <|
 Sim.op1 (h_mv (o_t rfl)) <|
 Sim.op (h_call1 sp_internal_stringslite_HasPrefix (.cons (o_t rfl) <| .one (o_t rfl))) fun x1 =>
 Sim.doneS <| Sim.cond (o_t rfl) (
 Sim.seqI <| Sim.op1 (h_mv (o_t rfl)) <|
 Sim.op1 (h_mv (o_t rfl)) <|
 Sim.op (h_lens (o_t rfl)) fun x2 =>
 Sim.op (h_sls (o_t rfl) (.some (o_t rfl)) .none) fun x3 =>
 Sim.op1 (h_mv (o_t rfl)) <|
 Sim.doneS <| Sim.ret (.one (res_t rfl))) (
 Sim.skip <| Sim.doneS <| Sim.seqI <| Sim.op1 (h_mv (o_t rfl)) <|
 Sim.op1 (h_mv (o_t rfl)) <|
 Sim.doneS <| Sim.ret (.one (res_t rfl)))
theorem sp_internal_stringslite_TrimPrefix : Spec tb fn_internal_stringslite_TrimPrefix [T.str, T.str] [T.str] (fun a => internal_stringslite_TrimPrefix a.1 a.2) :=
  Spec.of f_internal_stringslite_TrimPrefix rfl rfl rfl sim_internal_stringslite_TrimPrefix

noncomputable def strings_TrimPrefix (a0 : Str) (a1 : Str) : Option Str :=
 (internal_stringslite_TrimPrefix a0 a1).bind fun x1 =>
 some x1
noncomputable def sim_strings_TrimPrefix (a : Res [T.str, T.str]) : Sim tb ⟨argsT [T.str, T.str] 0 a, []⟩ c_strings_TrimPrefix.body [] (QRes [T.str] c_strings_TrimPrefix.res) :=
 Sim.seqI <| Sim.op1 (h_mv o_s) <|
 Sim.doneS <| Sim.seqI <| Sim.op1 (h_mv (o_t rfl)) <|
 Sim.op1 (h_mv (o_t rfl)) <|
 Sim.op (h_call1 sp_internal_stringslite_TrimPrefix (.cons (o_t rfl) <| .one (o_t rfl))) fun x1 =>
 Sim.op1 (h_mv (o_t rfl)) <|
 Sim.doneS <| Sim.ret (.one (res_t rfl))
theorem sp_strings_TrimPrefix : Spec tb fn_strings_TrimPrefix [T.str, T.str] [T.str] (fun a => strings_TrimPrefix a.1 a.2) :=
  Spec.of f_strings_TrimPrefix rfl rfl rfl sim_strings_TrimPrefix

end Go.Proofs.YtkmdppdlglikkaaDoor.Am
