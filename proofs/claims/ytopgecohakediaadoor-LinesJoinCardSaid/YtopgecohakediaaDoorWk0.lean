/-
  What functions compute, and that they do. Printed by mkwalk.py.
-/
import Derived.Test.YtopgecohakediaaDoorCodes
set_option linter.unusedVariables false
set_option maxRecDepth 100000
namespace Go.Proofs.YtopgecohakediaaDoor.Am

def internal_bytealg_IndexByteString (a0 : Str) (a1 : UInt8) : Option Int := some (findB a0 a1)
theorem sp_internal_bytealg_IndexByteString : Spec tb fn_internal_bytealg_IndexByteString [T.str, T.u8] [T.int .i64] (fun a => internal_bytealg_IndexByteString a.1 a.2) := Spec.byteS rfl
def internal_bytealg_CountString (a0 : Str) (a1 : UInt8) : Option Int := some (countB a0 a1)
theorem sp_internal_bytealg_CountString : Spec tb fn_internal_bytealg_CountString [T.str, T.u8] [T.int .i64] (fun a => internal_bytealg_CountString a.1 a.2) := Spec.byteS rfl
noncomputable def internal_stringslite_HasSuffix (a0 : Str) (a1 : Str) : Option Bool :=
 (andO (decide ((a1.length : Int) ≤ (a0.length : Int))) (let x6 := IntKind.i64.wrap ((a0.length : Int) - (a1.length : Int))
 (subL a0 (some x6) none).bind fun x7 =>
 some (decide (x7 = a1)))).bind fun x9 =>
 some x9
noncomputable def sim_internal_stringslite_HasSuffix (a : Res [T.str, T.str]) : Sim tb ⟨argsT [T.str, T.str] 0 a, []⟩ c_internal_stringslite_HasSuffix.body [] (QRes [T.b] c_internal_stringslite_HasSuffix.res) :=
 Sim.seqI <| Sim.op1 (h_mv o_b) <|
 Sim.doneS <| Sim.seqI <| Sim.op1 (h_mv (o_t rfl)) <|
 Sim.op (h_lens (o_t rfl)) fun x1 =>
 Sim.op1 (h_mv (o_t rfl)) <|
 Sim.op (h_lens (o_t rfl)) fun x2 =>
 Sim.op (h_cmp (I := (IT.int .i64)) rfl (o_t rfl) (o_t rfl)) fun x3 =>
 Sim.op1 (h_mv (o_t rfl)) <|
 Sim.and 9 rfl rfl rfl (Grp.op1 (h_mv (o_t rfl)) <|
 Grp.op1 (h_mv (o_t rfl)) <|
 Grp.op (h_lens (o_t rfl)) fun x4 =>
 Grp.op1 (h_mv (o_t rfl)) <|
 Grp.op (h_lens (o_t rfl)) fun x5 =>
 Grp.op (h_sub (I := (IT.int .i64)) (o_t rfl) (o_t rfl)) fun x6 =>
 Grp.op (h_sls (o_t rfl) (.some (o_t rfl)) .none) fun x7 =>
 Grp.op1 (h_mv (o_t rfl)) <|
 Grp.op (h_seql (o_t rfl) (o_t rfl)) fun x8 =>
 Grp.nil (o_t rfl)) fun x9 =>
 Sim.op1 (h_mv (o_t rfl)) <|
 Sim.doneS <| Sim.ret (.one (res_t rfl))
theorem sp_internal_stringslite_HasSuffix : Spec tb fn_internal_stringslite_HasSuffix [T.str, T.str] [T.b] (fun a => internal_stringslite_HasSuffix a.1 a.2) :=
  Spec.of f_internal_stringslite_HasSuffix rfl rfl rfl sim_internal_stringslite_HasSuffix

noncomputable def strings_HasSuffix (a0 : Str) (a1 : Str) : Option Bool :=
 (internal_stringslite_HasSuffix a0 a1).bind fun x1 =>
 some x1
noncomputable def sim_strings_HasSuffix (a : Res [T.str, T.str]) : Sim tb ⟨argsT [T.str, T.str] 0 a, []⟩ c_strings_HasSuffix.body [] (QRes [T.b] c_strings_HasSuffix.res) :=
 Sim.seqI <| Sim.op1 (h_mv o_b) <|
 Sim.doneS <| Sim.seqI <| Sim.op1 (h_mv (o_t rfl)) <|
 Sim.op1 (h_mv (o_t rfl)) <|
 Sim.op (h_call1 sp_internal_stringslite_HasSuffix (.cons (o_t rfl) <| .one (o_t rfl))) fun x1 =>
 Sim.op1 (h_mv (o_t rfl)) <|
 Sim.doneS <| Sim.ret (.one (res_t rfl))
theorem sp_strings_HasSuffix : Spec tb fn_strings_HasSuffix [T.str, T.str] [T.b] (fun a => strings_HasSuffix a.1 a.2) :=
  Spec.of f_strings_HasSuffix rfl rfl rfl sim_strings_HasSuffix

noncomputable def internal_stringslite_TrimSuffix (a0 : Str) (a1 : Str) : Option Str :=
 (internal_stringslite_HasSuffix a0 a1).bind fun x1 =>
 if x1 = true then
 let x4 := IntKind.i64.wrap ((a0.length : Int) - (a1.length : Int))
 (subL a0 none (some x4)).bind fun x5 =>
 some x5
 else
 some a0
noncomputable def sim_internal_stringslite_TrimSuffix (a : Res [T.str, T.str]) : Sim tb ⟨argsT [T.str, T.str] 0 a, []⟩ c_internal_stringslite_TrimSuffix.body [] (QRes [T.str] c_internal_stringslite_TrimSuffix.res) :=
 Sim.seqI <| Sim.op1 (h_mv o_s) <|
 Sim.doneS <| Sim.seqI <| Sim.seqI <| Sim.op1 (h_mv (o_t rfl)) <|
 Sim.op1 (h_mv (o_t rfl)) <|
 Sim.op (h_call1 sp_internal_stringslite_HasSuffix (.cons (o_t rfl) <| .one (o_t rfl))) fun x1 =>
 Sim.doneS <| Sim.cond (o_t rfl) (
 Sim.seqI <| Sim.op1 (h_mv (o_t rfl)) <|
 Sim.op1 (h_mv (o_t rfl)) <|
 Sim.op (h_lens (o_t rfl)) fun x2 =>
 Sim.op1 (h_mv (o_t rfl)) <|
 Sim.op (h_lens (o_t rfl)) fun x3 =>
 Sim.op (h_sub (I := (IT.int .i64)) (o_t rfl) (o_t rfl)) fun x4 =>
 Sim.op (h_sls (o_t rfl) .none (.some (o_t rfl))) fun x5 =>
 Sim.op1 (h_mv (o_t rfl)) <|
 Sim.doneS <| Sim.ret (.one (res_t rfl))) (
 Sim.skip <| Sim.doneS <| Sim.seqI <| Sim.op1 (h_mv (o_t rfl)) <|
 Sim.op1 (h_mv (o_t rfl)) <|
 Sim.doneS <| Sim.ret (.one (res_t rfl)))
theorem sp_internal_stringslite_TrimSuffix : Spec tb fn_internal_stringslite_TrimSuffix [T.str, T.str] [T.str] (fun a => internal_stringslite_TrimSuffix a.1 a.2) :=
  Spec.of f_internal_stringslite_TrimSuffix rfl rfl rfl sim_internal_stringslite_TrimSuffix

noncomputable def strings_TrimSuffix (a0 : Str) (a1 : Str) : Option Str :=
 (internal_stringslite_TrimSuffix a0 a1).bind fun x1 =>
 some x1
noncomputable def sim_strings_TrimSuffix (a : Res [T.str, T.str]) : Sim tb ⟨argsT [T.str, T.str] 0 a, []⟩ c_strings_TrimSuffix.body [] (QRes [T.str] c_strings_TrimSuffix.res) :=
 Sim.seqI <| Sim.op1 (h_mv o_s) <|
 Sim.doneS <| Sim.seqI <| Sim.op1 (h_mv (o_t rfl)) <|
 Sim.op1 (h_mv (o_t rfl)) <|
 Sim.op (h_call1 sp_internal_stringslite_TrimSuffix (.cons (o_t rfl) <| .one (o_t rfl))) fun x1 =>
 Sim.op1 (h_mv (o_t rfl)) <|
 Sim.doneS <| Sim.ret (.one (res_t rfl))
theorem sp_strings_TrimSuffix : Spec tb fn_strings_TrimSuffix [T.str, T.str] [T.str] (fun a => strings_TrimSuffix a.1 a.2) :=
  Spec.of f_strings_TrimSuffix rfl rfl rfl sim_strings_TrimSuffix

noncomputable def unicode_utf8_RuneCountInString (a0 : Str) : Option Int :=
 (iter (fun (s1 : (Int × Nat)) =>
 if s1.2 < a0.length then
 let x3 := runeAt a0 s1.2
 some (.inl (IntKind.i64.wrap (s1.1 + 1), s1.2 + x3.2))
 else
 some (.inr (.inl s1.1))) (0, 0)).bind (Sum.elim (fun (p2 : Int) =>
 some p2) some)
noncomputable def sim_unicode_utf8_RuneCountInString (a : Res [T.str]) : Sim tb ⟨argsT [T.str] 0 a, []⟩ c_unicode_utf8_RuneCountInString.body [] (QRes [(T.int .i64)] c_unicode_utf8_RuneCountInString.res) :=
 Sim.seqI <| Sim.op1 (h_mv o_i) <|
 Sim.doneS <| Sim.seqI <| Sim.seqI <| Sim.op1 (h_mv (o_t rfl)) <|
 Sim.opM (M_rng 1004 rfl (o_t rfl)) fun _ =>
 Sim.doneS <| Sim.blkI <| Sim.loop (id := 0) (σ := (Int × Nat)) (τ := Int) (fun s1 => ⟨[(2, .val (T.int .i64) s1.1), (4, .own 1004)], [(1004, .dom DIter (a, s1.2))]⟩) (fun p2 => ⟨[(2, .val (T.int .i64) p2)], []⟩) (0, 0) ⟨⟨⟨rfl, trivial⟩, ⟨⟨rfl, trivial⟩, trivial⟩⟩, ⟨⟨rfl, trivial⟩, trivial⟩⟩ (fun _ => rfl) (fun s1 =>
 Sim.seqI <| Sim.nxt (o_t rfl) rfl (fun x3 =>
 Sim.op1 (h_ext (o_t rfl) rfl) <|
 Sim.doneS <| Sim.seqI <| Sim.condT (o_t rfl) <|
 Sim.skip <| Sim.doneS <| Sim.blkI <| Sim.op1 (h_mv (o_t rfl)) <|
 Sim.op (h_add (I := (IT.int .i64)) (o_t rfl) o_i) fun x4 =>
 Sim.op1 (h_mv (o_t rfl)) <|
 Sim.doneB <| Sim.next (x4, s1.2 + x3.2) ⟨⟨⟨rfl, trivial⟩, ⟨⟨rfl, trivial⟩, trivial⟩⟩, ⟨⟨rfl, trivial⟩, trivial⟩⟩) (
 Sim.op1 (h_ext (o_t rfl) rfl) <|
 Sim.doneS <| Sim.seqI <| Sim.condF (o_t rfl) <|
 Sim.exitS <| Sim.out s1.1 ⟨⟨⟨rfl, trivial⟩, trivial⟩, trivial⟩)) (fun p2 =>
 Sim.exitB <| Sim.doneS <| Sim.seqI <| Sim.op1 (h_mv (o_t rfl)) <|
 Sim.op1 (h_mv (o_t rfl)) <|
 Sim.doneS <| Sim.ret (.one (res_t rfl)))
theorem sp_unicode_utf8_RuneCountInString : Spec tb fn_unicode_utf8_RuneCountInString [T.str] [(T.int .i64)] (fun a => unicode_utf8_RuneCountInString a) :=
  Spec.of f_unicode_utf8_RuneCountInString rfl rfl rfl sim_unicode_utf8_RuneCountInString

noncomputable def unicode_utf8_decodeRuneInStringSlow (a0 : Str) : Option (Int × Int) :=
 if (decide ((a0.length : Int) < 1)) = true then
 some (65533, 0)
 else
 (idx a0 0).bind fun x3 =>
 none
noncomputable def sim_unicode_utf8_decodeRuneInStringSlow (a : Res [T.str]) : Sim tb ⟨argsT [T.str] 0 a, []⟩ c_unicode_utf8_decodeRuneInStringSlow.body [] (QRes [(T.int .i32), (T.int .i64)] c_unicode_utf8_decodeRuneInStringSlow.res) :=
 Sim.seqI <| Sim.op1 (h_mv o_i) <|
 Sim.op1 (h_mv o_i) <|
 Sim.doneS <| Sim.seqI <| Sim.op1 (h_mv (o_t rfl)) <|
 Sim.op (h_lens (o_t rfl)) fun x1 =>
 Sim.op1 (h_mv (o_t rfl)) <|
 Sim.doneS <| Sim.seqI <| Sim.seqI <| Sim.op1 (h_mv (o_t rfl)) <|
 Sim.op (h_cmp (I := (IT.int .i64)) rfl (o_t rfl) o_i) fun x2 =>
 Sim.doneS <| Sim.cond (o_t rfl) (
 Sim.seqI <| Sim.op1 (h_mv o_i) <|
 Sim.op1 (h_mv o_i) <|
 Sim.doneS <| Sim.ret (.cons (res_t rfl) <| .one (res_t rfl))) (
 Sim.skip <| Sim.doneS <| Sim.seqI <| Sim.op1 (h_mv (o_t rfl)) <|
 Sim.op (h_ixs (o_t rfl) o_i) fun x3 =>
 Sim.op1 (h_mv (o_t rfl)) <|
 Sim.doneS <| Sim.seqI <| Sim.op1 (h_mv (o_t rfl)) <|
 Sim.stop)
theorem sp_unicode_utf8_decodeRuneInStringSlow : Spec tb fn_unicode_utf8_decodeRuneInStringSlow [T.str] [(T.int .i32), (T.int .i64)] (fun a => unicode_utf8_decodeRuneInStringSlow a) :=
  Spec.of f_unicode_utf8_decodeRuneInStringSlow rfl rfl rfl sim_unicode_utf8_decodeRuneInStringSlow

noncomputable def unicode_utf8_DecodeRuneInString (a0 : Str) : Option (Int × Int) :=
 (andO (!decide (a0 = [])) ((idx a0 0).bind fun x2 =>
 let x3 := decide ((x2.toNat : Int) < ((128 : UInt8).toNat : Int))
 some x3)).bind fun x4 =>
 if x4 = true then
 (idx a0 0).bind fun x5 =>
 some (IntKind.i32.wrap (x5.toNat : Int), 1)
 else
 (unicode_utf8_decodeRuneInStringSlow a0).bind fun x7 =>
 some (x7.1, x7.2)
noncomputable def sim_unicode_utf8_DecodeRuneInString (a : Res [T.str]) : Sim tb ⟨argsT [T.str] 0 a, []⟩ c_unicode_utf8_DecodeRuneInString.body [] (QRes [(T.int .i32), (T.int .i64)] c_unicode_utf8_DecodeRuneInString.res) :=
 Sim.seqI <| Sim.op1 (h_mv o_i) <|
 Sim.op1 (h_mv o_i) <|
 Sim.doneS <| Sim.seqI <| Sim.seqI <| Sim.op1 (h_mv (o_t rfl)) <|
 Sim.op (h_sneq (o_t rfl) o_s) fun x1 =>
 Sim.op1 (h_mv (o_t rfl)) <|
 Sim.and 3 rfl rfl rfl (Grp.op1 (h_mv (o_t rfl)) <|
 Grp.op (h_ixs (o_t rfl) o_i) fun x2 =>
 Grp.op (h_cmp (I := IT.u8) rfl (o_t rfl) (o_u8 128 rfl)) fun x3 =>
 Grp.nil (o_t rfl)) fun x4 =>
 Sim.doneS <| Sim.cond (o_t rfl) (
 Sim.seqI <| Sim.op1 (h_mv (o_t rfl)) <|
 Sim.op (h_ixs (o_t rfl) o_i) fun x5 =>
 Sim.op (h_cvi (I := IT.u8) (J := (IT.int .i32)) rfl (o_t rfl)) fun x6 =>
 Sim.op1 (h_mv (o_t rfl)) <|
 Sim.op1 (h_mv o_i) <|
 Sim.doneS <| Sim.ret (.cons (res_t rfl) <| .one (res_t rfl))) (
 Sim.op1 (h_mv (o_t rfl)) <|
 Sim.op (h_callN sp_unicode_utf8_decodeRuneInStringSlow (.one (o_t rfl))) fun x7 =>
 Sim.op1 (h_mv (o_t rfl)) <|
 Sim.opn (h_ext (o_t rfl) rfl) fun x8 =>
 Sim.opn (h_ext (o_t rfl) rfl) fun x9 =>
 Sim.op1 (h_mv (o_t rfl)) <|
 Sim.op1 (h_mv (o_t rfl)) <|
 Sim.doneS <| Sim.ret (.cons (res_t rfl) <| .one (res_t rfl)))
theorem sp_unicode_utf8_DecodeRuneInString : Spec tb fn_unicode_utf8_DecodeRuneInString [T.str] [(T.int .i32), (T.int .i64)] (fun a => unicode_utf8_DecodeRuneInString a) :=
  Spec.of f_unicode_utf8_DecodeRuneInString rfl rfl rfl sim_unicode_utf8_DecodeRuneInString

noncomputable def strings_explode (a0 : Str) (a1 : Int) : Option (GS Str) :=
 (unicode_utf8_RuneCountInString a0).bind fun x1 =>
 (orO (decide (a1 < 0)) (some (decide (x1 < a1)))).bind fun x4 =>
 (fun (k6 : Int → Option _) => if x4 = true then
 k6 x1
 else
 k6 a1) fun p5 =>
 (mkG [] 16 p5 p5).bind fun x7 =>
 (iter (fun (s8 : (Str × Int × (GS Str))) =>
 if (decide (s8.2.1 < IntKind.i64.wrap (p5 - 1))) = true then
 (unicode_utf8_DecodeRuneInString s8.1).bind fun x12 =>
 (subL s8.1 none (some x12.2)).bind fun x15 =>
 (idxN s8.2.2.l.length s8.2.1).bind fun x16 =>
 (s8.2.2.l[x16]?.map fun y => s8.2.2.set x16 x15).bind fun x17 =>
 (subL s8.1 (some x12.2) none).bind fun x18 =>
 some (.inl (x18, IntKind.i64.wrap (s8.2.1 + 1), x17))
 else
 some (.inr (.inl (s8.1, s8.2.2)))) (a0, 0, x7)).bind (Sum.elim (fun (p9 : (Str × (GS Str))) =>
 if (decide (0 < p5)) = true then
 (idxN p9.2.l.length (IntKind.i64.wrap (p5 - 1))).bind fun x22 =>
 (p9.2.l[x22]?.map fun y => p9.2.set x22 p9.1).bind fun x23 =>
 some x23
 else
 some p9.2) some)
noncomputable def sim_strings_explode (a : Res [T.str, (T.int .i64)]) : Sim tb ⟨argsT [T.str, (T.int .i64)] 0 a, []⟩ c_strings_explode.body [] (QRes [(T.sl T.str)] c_strings_explode.res) :=
 Sim.seqI <| Sim.op1 (h_mv (o_nils (t := T.str))) <|
 Sim.doneS <| Sim.seqI <| Sim.op1 (h_mv (o_t rfl)) <|
 Sim.op (h_call1 sp_unicode_utf8_RuneCountInString (.one (o_t rfl))) fun x1 =>
 Sim.op1 (h_mv (o_t rfl)) <|
 Sim.doneS <| Sim.seqI <| Sim.seqI <| Sim.op1 (h_mv (o_t rfl)) <|
 Sim.op (h_cmp (I := (IT.int .i64)) rfl (o_t rfl) o_i) fun x2 =>
 Sim.op1 (h_mv (o_t rfl)) <|
 Sim.or 3 rfl rfl rfl (Grp.op1 (h_mv (o_t rfl)) <|
 Grp.op1 (h_mv (o_t rfl)) <|
 Grp.op (h_cmp (I := (IT.int .i64)) rfl (o_t rfl) (o_t rfl)) fun x3 =>
 Grp.nil (o_t rfl)) fun x4 =>
 Sim.doneS <| Sim.join (τ := Int) (fun p5 => ⟨[(0, .val T.str a.1), (1, .val (T.int .i64) p5)], []⟩) (fun p5 =>
 Sim.doneS <| Sim.seqI <| Sim.op1 (h_mv (o_t rfl)) <|
 Sim.opM (M_mks (t := T.str) 1021 rfl rfl rfl (o_t rfl) (o_t rfl)) fun x7 =>
 Sim.op1 (h_mv (o_t rfl)) <|
 Sim.doneS <| Sim.seqI <| Sim.seqI <| Sim.op1 (h_mv o_i) <|
 Sim.doneS <| Sim.blkI <| Sim.loop (id := 0) (σ := (Str × Int × (GS Str))) (τ := (Str × (GS Str))) (fun s8 => ⟨[(0, .val T.str s8.1), (1, .val (T.int .i64) p5), (6, .own 1021), (7, .val (T.int .i64) s8.2.1)], [(1021, .row T.str s8.2.2)]⟩) (fun p9 => ⟨[(0, .val T.str p9.1), (1, .val (T.int .i64) p5), (6, .own 1021)], [(1021, .row T.str p9.2)]⟩) (a.1, 0, x7) ⟨⟨⟨rfl, trivial⟩, ⟨⟨rfl, trivial⟩, ⟨⟨rfl, trivial⟩, ⟨⟨rfl, trivial⟩, trivial⟩⟩⟩⟩, ⟨⟨rfl, trivial⟩, trivial⟩⟩ (fun _ => rfl) (fun s8 =>
 Sim.seqI <| Sim.seqI <| Sim.op1 (h_mv (o_t rfl)) <|
 Sim.op1 (h_mv (o_t rfl)) <|
 Sim.op (h_sub (I := (IT.int .i64)) (o_t rfl) o_i) fun x10 =>
 Sim.op (h_cmp (I := (IT.int .i64)) rfl (o_t rfl) (o_t rfl)) fun x11 =>
 Sim.doneS <| Sim.cond (o_t rfl) (
 Sim.skip <| Sim.doneS <| Sim.seqI <| Sim.blkI <| Sim.seqI <| Sim.op1 (h_mv (o_t rfl)) <|
 Sim.op (h_callN sp_unicode_utf8_DecodeRuneInString (.one (o_t rfl))) fun x12 =>
 Sim.op1 (h_mv (o_t rfl)) <|
 Sim.opn (h_ext (o_t rfl) rfl) fun x13 =>
 Sim.opn (h_ext (o_t rfl) rfl) fun x14 =>
 Sim.op1 (h_mv (o_t rfl)) <|
 Sim.op1 (h_mv (o_t rfl)) <|
 Sim.doneS <| Sim.seqI <| Sim.op1 (h_mv (o_t rfl)) <|
 Sim.op1 (h_mv (o_t rfl)) <|
 Sim.op1 (h_mv (o_t rfl)) <|
 Sim.op1 (h_mv (o_t rfl)) <|
 Sim.op (h_sls (o_t rfl) .none (.some (o_t rfl))) fun x15 =>
 Sim.op (h_iasO rfl (o_t rfl) rfl (o_t rfl)) fun x16 =>
 Sim.opM (M_stE (t := T.str) (u := T.str) rfl (Fld.id _) (o_t rfl) (o_t rfl) rfl) fun x17 =>
 Sim.doneS <| Sim.op1 (h_mv (o_t rfl)) <|
 Sim.op1 (h_mv (o_t rfl)) <|
 Sim.op (h_sls (o_t rfl) (.some (o_t rfl)) .none) fun x18 =>
 Sim.op1 (h_mv (o_t rfl)) <|
 Sim.doneB <| Sim.doneS <| Sim.op1 (h_mv (o_t rfl)) <|
 Sim.op (h_add (I := (IT.int .i64)) (o_t rfl) o_i) fun x19 =>
 Sim.op1 (h_mv (o_t rfl)) <|
 Sim.next (x18, x19, x17) ⟨⟨⟨rfl, trivial⟩, ⟨⟨rfl, trivial⟩, ⟨⟨rfl, trivial⟩, ⟨⟨rfl, trivial⟩, trivial⟩⟩⟩⟩, ⟨⟨rfl, trivial⟩, trivial⟩⟩) (
 Sim.exitS <| Sim.out (s8.1, s8.2.2) ⟨⟨⟨rfl, trivial⟩, ⟨⟨rfl, trivial⟩, ⟨⟨rfl, trivial⟩, trivial⟩⟩⟩, ⟨⟨rfl, trivial⟩, trivial⟩⟩)) (fun p9 =>
 Sim.exitB <| Sim.doneS <| Sim.seqI <| Sim.seqI <| Sim.op1 (h_mv (o_t rfl)) <|
 Sim.op (h_cmp (I := (IT.int .i64)) rfl (o_t rfl) o_i) fun x20 =>
 Sim.doneS <| Sim.cond (o_t rfl) (
 Sim.op1 (h_mv (o_t rfl)) <|
 Sim.op1 (h_mv (o_t rfl)) <|
 Sim.op (h_sub (I := (IT.int .i64)) (o_t rfl) o_i) fun x21 =>
 Sim.op1 (h_mv (o_t rfl)) <|
 Sim.op (h_iasO rfl (o_t rfl) rfl (o_t rfl)) fun x22 =>
 Sim.opM (M_stE (t := T.str) (u := T.str) rfl (Fld.id _) (o_t rfl) (o_t rfl) rfl) fun x23 =>
 Sim.doneS <| Sim.seqI <| Sim.op1 (h_mv (o_t rfl)) <|
 Sim.op1 (h_mv (o_t rfl)) <|
 Sim.doneS <| Sim.frzRow 1021 rfl rfl <| Sim.ret (.one (res_t rfl))) (
 Sim.skip <| Sim.doneS <| Sim.seqI <| Sim.op1 (h_mv (o_t rfl)) <|
 Sim.op1 (h_mv (o_t rfl)) <|
 Sim.doneS <| Sim.frzRow 1021 rfl rfl <| Sim.ret (.one (res_t rfl))))) fun k6 => Sim.cond (o_t rfl) (
 Sim.op1 (h_mv (o_t rfl)) <|
 Sim.op1 (h_mv (o_t rfl)) <|
 Sim.weak (k6 x1) ⟨⟨⟨rfl, trivial⟩, ⟨⟨rfl, trivial⟩, trivial⟩⟩, trivial⟩) (
 Sim.skip <| Sim.weak (k6 a.2) ⟨⟨⟨rfl, trivial⟩, ⟨⟨rfl, trivial⟩, trivial⟩⟩, trivial⟩)
theorem sp_strings_explode : Spec tb fn_strings_explode [T.str, (T.int .i64)] [(T.sl T.str)] (fun a => strings_explode a.1 a.2) :=
  Spec.of f_strings_explode rfl rfl rfl sim_strings_explode

noncomputable def internal_stringslite_IndexByte (a0 : Str) (a1 : UInt8) : Option Int :=
 (internal_bytealg_IndexByteString a0 a1).bind fun x1 =>
 some x1
noncomputable def sim_internal_stringslite_IndexByte (a : Res [T.str, T.u8]) : Sim tb ⟨argsT [T.str, T.u8] 0 a, []⟩ c_internal_stringslite_IndexByte.body [] (QRes [(T.int .i64)] c_internal_stringslite_IndexByte.res) :=
 Sim.seqI <| Sim.op1 (h_mv o_i) <|
 Sim.doneS <| Sim.seqI <| Sim.op1 (h_mv (o_t rfl)) <|
 Sim.op1 (h_mv (o_t rfl)) <|
 Sim.op (h_call1 sp_internal_bytealg_IndexByteString (.cons (o_t rfl) <| .one (o_t rfl))) fun x1 =>
 Sim.op1 (h_mv (o_t rfl)) <|
 Sim.doneS <| Sim.ret (.one (res_t rfl))
theorem sp_internal_stringslite_IndexByte : Spec tb fn_internal_stringslite_IndexByte [T.str, T.u8] [(T.int .i64)] (fun a => internal_stringslite_IndexByte a.1 a.2) :=
  Spec.of f_internal_stringslite_IndexByte rfl rfl rfl sim_internal_stringslite_IndexByte

noncomputable def internal_bytealg_Cutover (a0 : Int) : Option Int :=
 (if 8 = 0 then none else some (IntKind.i64.wrap (Int.tdiv (IntKind.i64.wrap (a0 + 16)) 8))).bind fun x2 =>
 some x2
noncomputable def sim_internal_bytealg_Cutover (a : Res [(T.int .i64)]) : Sim tb ⟨argsT [(T.int .i64)] 0 a, []⟩ c_internal_bytealg_Cutover.body [] (QRes [(T.int .i64)] c_internal_bytealg_Cutover.res) :=
 Sim.seqI <| Sim.op1 (h_mv o_i) <|
 Sim.doneS <| Sim.seqI <| Sim.op1 (h_mv (o_t rfl)) <|
 Sim.op (h_add (I := (IT.int .i64)) (o_t rfl) o_i) fun x1 =>
 Sim.op (h_quo (I := (IT.int .i64)) (o_t rfl) o_i) fun x2 =>
 Sim.op1 (h_mv (o_t rfl)) <|
 Sim.doneS <| Sim.ret (.one (res_t rfl))
theorem sp_internal_bytealg_Cutover : Spec tb fn_internal_bytealg_Cutover [(T.int .i64)] [(T.int .i64)] (fun a => internal_bytealg_Cutover a) :=
  Spec.of f_internal_bytealg_Cutover rfl rfl rfl sim_internal_bytealg_Cutover

noncomputable def internal_bytealg_hashStr_string (a0 : Str) : Option (UInt32 × UInt32) :=
 (iter (fun (s1 : (UInt32 × Int)) =>
 if (decide (s1.2 < (a0.length : Int))) = true then
 let x5 := IT.u32.ofI ((s1.1.toNat : Int) * ((16777619 : UInt32).toNat : Int))
 (idx a0 s1.2).bind fun x6 =>
 let x8 := IT.u32.ofI ((x5.toNat : Int) + ((IT.u32.ofI (x6.toNat : Int)).toNat : Int))
 some (.inl (x8, IntKind.i64.wrap (s1.2 + 1)))
 else
 some (.inr (.inl s1.1))) ((0 : UInt32), 0)).bind (Sum.elim (fun (p2 : UInt32) =>
 (iter (fun (s11 : (UInt32 × UInt32 × Int)) =>
 if (decide (0 < s11.2.2)) = true then
 let x15 := !decide (IntKind.i64.wrap (bitsR .and .i64 s11.2.2 1) = 0)
 (fun (k17 : UInt32 → Option _) => if x15 = true then
 let x20 := IT.u32.ofI ((s11.1.toNat : Int) * (s11.2.1.toNat : Int))
 k17 x20
 else
 k17 s11.1) fun p16 =>
 let x18 := IT.u32.ofI ((s11.2.1.toNat : Int) * (s11.2.1.toNat : Int))
 (if ((1 : UInt64).toNat : Int) < 0 then none else some (Int.fdiv s11.2.2 (2 ^ (min ((1 : UInt64).toNat : Int).toNat 64)))).bind fun x19 =>
 some (.inl (p16, x18, x19))
 else
 some (.inr (.inl s11.1))) ((1 : UInt32), (16777619 : UInt32), (a0.length : Int))).bind (Sum.elim (fun (p12 : UInt32) =>
 some (p2, p12)) some)) some)
noncomputable def sim_internal_bytealg_hashStr_string (a : Res [T.str]) : Sim tb ⟨argsT [T.str] 0 a, []⟩ c_internal_bytealg_hashStr_string.body [] (QRes [T.u32, T.u32] c_internal_bytealg_hashStr_string.res) :=
 Sim.seqI <| Sim.op1 (h_mv (o_u32 0 rfl)) <|
 Sim.op1 (h_mv (o_u32 0 rfl)) <|
 Sim.doneS <| Sim.seqI <| Sim.op1 (h_mv (o_u32 0 rfl)) <|
 Sim.doneS <| Sim.seqI <| Sim.seqI <| Sim.op1 (h_mv o_i) <|
 Sim.doneS <| Sim.blkI <| Sim.loop (id := 0) (σ := (UInt32 × Int)) (τ := UInt32) (fun s1 => ⟨[(0, .val T.str a), (4, .val T.u32 s1.1), (5, .val (T.int .i64) s1.2)], []⟩) (fun p2 => ⟨[(0, .val T.str a), (4, .val T.u32 p2)], []⟩) ((0 : UInt32), 0) ⟨⟨⟨rfl, trivial⟩, ⟨⟨rfl, trivial⟩, ⟨⟨rfl, trivial⟩, trivial⟩⟩⟩, trivial⟩ (fun _ => rfl) (fun s1 =>
 Sim.seqI <| Sim.seqI <| Sim.op1 (h_mv (o_t rfl)) <|
 Sim.op1 (h_mv (o_t rfl)) <|
 Sim.op (h_lens (o_t rfl)) fun x3 =>
 Sim.op (h_cmp (I := (IT.int .i64)) rfl (o_t rfl) (o_t rfl)) fun x4 =>
 Sim.doneS <| Sim.cond (o_t rfl) (
 Sim.skip <| Sim.doneS <| Sim.seqI <| Sim.blkI <| Sim.op1 (h_mv (o_t rfl)) <|
 Sim.op (h_mul (I := IT.u32) (o_t rfl) (o_u32 16777619 rfl)) fun x5 =>
 Sim.op1 (h_mv (o_t rfl)) <|
 Sim.op1 (h_mv (o_t rfl)) <|
 Sim.op (h_ixs (o_t rfl) (o_t rfl)) fun x6 =>
 Sim.op (h_cvi (I := IT.u8) (J := IT.u32) rfl (o_t rfl)) fun x7 =>
 Sim.op (h_add (I := IT.u32) (o_t rfl) (o_t rfl)) fun x8 =>
 Sim.op1 (h_mv (o_t rfl)) <|
 Sim.doneB <| Sim.doneS <| Sim.op1 (h_mv (o_t rfl)) <|
 Sim.op (h_add (I := (IT.int .i64)) (o_t rfl) o_i) fun x9 =>
 Sim.op1 (h_mv (o_t rfl)) <|
 Sim.next (x8, x9) ⟨⟨⟨rfl, trivial⟩, ⟨⟨rfl, trivial⟩, ⟨⟨rfl, trivial⟩, trivial⟩⟩⟩, trivial⟩) (
 Sim.exitS <| Sim.out s1.1 ⟨⟨⟨rfl, trivial⟩, ⟨⟨rfl, trivial⟩, trivial⟩⟩, trivial⟩)) (fun p2 =>
 Sim.exitB <| Sim.doneS <| Sim.seqI <| Sim.op1 (h_mv (o_u32 1 rfl)) <|
 Sim.op1 (h_mv (o_u32 16777619 rfl)) <|
 Sim.doneS <| Sim.seqI <| Sim.seqI <| Sim.op1 (h_mv (o_t rfl)) <|
 Sim.op (h_lens (o_t rfl)) fun x10 =>
 Sim.op1 (h_mv (o_t rfl)) <|
 Sim.doneS <| Sim.blkI <| Sim.loop (id := 2) (σ := (UInt32 × UInt32 × Int)) (τ := UInt32) (fun s11 => ⟨[(4, .val T.u32 p2), (6, .val T.u32 s11.1), (7, .val T.u32 s11.2.1), (8, .val (T.int .i64) s11.2.2)], []⟩) (fun p12 => ⟨[(4, .val T.u32 p2), (6, .val T.u32 p12)], []⟩) ((1 : UInt32), (16777619 : UInt32), x10) ⟨⟨⟨rfl, trivial⟩, ⟨⟨rfl, trivial⟩, ⟨⟨rfl, trivial⟩, ⟨⟨rfl, trivial⟩, trivial⟩⟩⟩⟩, trivial⟩ (fun _ => rfl) (fun s11 =>
 Sim.seqI <| Sim.seqI <| Sim.op1 (h_mv (o_t rfl)) <|
 Sim.op (h_cmp (I := (IT.int .i64)) rfl (o_t rfl) o_i) fun x13 =>
 Sim.doneS <| Sim.cond (o_t rfl) (
 Sim.skip <| Sim.doneS <| Sim.seqI <| Sim.blkI <| Sim.seqI <| Sim.seqI <| Sim.op1 (h_mv (o_t rfl)) <|
 Sim.op (h_and (I := (IT.int .i64)) (o_t rfl) o_i) fun x14 =>
 Sim.op (h_cmp (I := (IT.int .i64)) rfl (o_t rfl) o_i) fun x15 =>
 Sim.doneS <| Sim.join (τ := UInt32) (fun p16 => ⟨[(4, .val T.u32 p2), (6, .val T.u32 p16), (7, .val T.u32 s11.2.1), (8, .val (T.int .i64) s11.2.2)], []⟩) (fun p16 =>
 Sim.doneS <| Sim.op1 (h_mv (o_t rfl)) <|
 Sim.op1 (h_mv (o_t rfl)) <|
 Sim.op (h_mul (I := IT.u32) (o_t rfl) (o_t rfl)) fun x18 =>
 Sim.op1 (h_mv (o_t rfl)) <|
 Sim.doneB <| Sim.doneS <| Sim.op1 (h_mv (o_t rfl)) <|
 Sim.op (h_shr (J := IT.u64) (o_t rfl) (o_u64 1 rfl)) fun x19 =>
 Sim.op1 (h_mv (o_t rfl)) <|
 Sim.next (p16, x18, x19) ⟨⟨⟨rfl, trivial⟩, ⟨⟨rfl, trivial⟩, ⟨⟨rfl, trivial⟩, ⟨⟨rfl, trivial⟩, trivial⟩⟩⟩⟩, trivial⟩) fun k17 => Sim.cond (o_t rfl) (
 Sim.op1 (h_mv (o_t rfl)) <|
 Sim.op1 (h_mv (o_t rfl)) <|
 Sim.op (h_mul (I := IT.u32) (o_t rfl) (o_t rfl)) fun x20 =>
 Sim.op1 (h_mv (o_t rfl)) <|
 Sim.weak (k17 x20) ⟨⟨⟨rfl, trivial⟩, ⟨⟨rfl, trivial⟩, ⟨⟨rfl, trivial⟩, ⟨⟨rfl, trivial⟩, trivial⟩⟩⟩⟩, trivial⟩) (
 Sim.skip <| Sim.weak (k17 s11.1) ⟨⟨⟨rfl, trivial⟩, ⟨⟨rfl, trivial⟩, ⟨⟨rfl, trivial⟩, ⟨⟨rfl, trivial⟩, trivial⟩⟩⟩⟩, trivial⟩)) (
 Sim.exitS <| Sim.out s11.1 ⟨⟨⟨rfl, trivial⟩, ⟨⟨rfl, trivial⟩, trivial⟩⟩, trivial⟩)) (fun p12 =>
 Sim.exitB <| Sim.doneS <| Sim.seqI <| Sim.op1 (h_mv (o_t rfl)) <|
 Sim.op1 (h_mv (o_t rfl)) <|
 Sim.op1 (h_mv (o_t rfl)) <|
 Sim.op1 (h_mv (o_t rfl)) <|
 Sim.doneS <| Sim.ret (.cons (res_t rfl) <| .one (res_t rfl))))
theorem sp_internal_bytealg_hashStr_string : Spec tb fn_internal_bytealg_hashStr_string [T.str] [T.u32, T.u32] (fun a => internal_bytealg_hashStr_string a) :=
  Spec.of f_internal_bytealg_hashStr_string rfl rfl rfl sim_internal_bytealg_hashStr_string

noncomputable def internal_bytealg_IndexRabinKarp_string (a0 : Str) (a1 : Str) : Option Int :=
 (internal_bytealg_hashStr_string a1).bind fun x1 =>
 (iter (fun (s5 : (UInt32 × Int)) =>
 if (decide (s5.2 < (a1.length : Int))) = true then
 let x8 := IT.u32.ofI ((s5.1.toNat : Int) * ((16777619 : UInt32).toNat : Int))
 (idx a0 s5.2).bind fun x9 =>
 let x11 := IT.u32.ofI ((x8.toNat : Int) + ((IT.u32.ofI (x9.toNat : Int)).toNat : Int))
 some (.inl (x11, IntKind.i64.wrap (s5.2 + 1)))
 else
 some (.inr (.inl s5.1))) ((0 : UInt32), 0)).bind (Sum.elim (fun (p6 : UInt32) =>
 (andO (decide ((p6.toNat : Int) = (x1.1.toNat : Int))) ((subL a0 none (some (a1.length : Int))).bind fun x14 =>
 some (decide (x14 = a1)))).bind fun x16 =>
 if x16 = true then
 some 0
 else
 (iter (fun (s17 : (UInt32 × Int)) =>
 if (decide (s17.2 < (a0.length : Int))) = true then
 let x21 := IT.u32.ofI ((s17.1.toNat : Int) * ((16777619 : UInt32).toNat : Int))
 (idx a0 s17.2).bind fun x22 =>
 let x24 := IT.u32.ofI ((x21.toNat : Int) + ((IT.u32.ofI (x22.toNat : Int)).toNat : Int))
 (idx a0 (IntKind.i64.wrap (s17.2 - (a1.length : Int)))).bind fun x26 =>
 let x28 := IT.u32.ofI ((x1.2.toNat : Int) * ((IT.u32.ofI (x26.toNat : Int)).toNat : Int))
 let x29 := IT.u32.ofI ((x24.toNat : Int) - (x28.toNat : Int))
 (andO (decide ((x29.toNat : Int) = (x1.1.toNat : Int))) (let x32 := IntKind.i64.wrap (IntKind.i64.wrap (s17.2 + 1) - (a1.length : Int))
 (subL a0 (some x32) (some (IntKind.i64.wrap (s17.2 + 1)))).bind fun x33 =>
 some (decide (x33 = a1)))).bind fun x35 =>
 if x35 = true then
 let x36 := IntKind.i64.wrap (IntKind.i64.wrap (s17.2 + 1) - (a1.length : Int))
 (some x36).map fun r => .inr (.inr r)
 else
 some (.inl (x29, IntKind.i64.wrap (s17.2 + 1)))
 else
 some (.inr (.inl ()))) (p6, (a1.length : Int))).bind (Sum.elim (fun (p18 : Unit) =>
 some (-1)) some)) some)
noncomputable def sim_internal_bytealg_IndexRabinKarp_string (a : Res [T.str, T.str]) : Sim tb ⟨argsT [T.str, T.str] 0 a, []⟩ c_internal_bytealg_IndexRabinKarp_string.body [] (QRes [(T.int .i64)] c_internal_bytealg_IndexRabinKarp_string.res) :=
 Sim.seqI <| Sim.op1 (h_mv o_i) <|
 Sim.doneS <| Sim.seqI <| Sim.op1 (h_mv (o_t rfl)) <|
 Sim.op (h_callN sp_internal_bytealg_hashStr_string (.one (o_t rfl))) fun x1 =>
 Sim.op1 (h_mv (o_t rfl)) <|
 Sim.opn (h_ext (o_t rfl) rfl) fun x2 =>
 Sim.opn (h_ext (o_t rfl) rfl) fun x3 =>
 Sim.op1 (h_mv (o_t rfl)) <|
 Sim.op1 (h_mv (o_t rfl)) <|
 Sim.doneS <| Sim.seqI <| Sim.op1 (h_mv (o_t rfl)) <|
 Sim.op (h_lens (o_t rfl)) fun x4 =>
 Sim.op1 (h_mv (o_t rfl)) <|
 Sim.doneS <| Sim.seqI <| Sim.op1 (h_mv (o_u32 0 rfl)) <|
 Sim.doneS <| Sim.seqI <| Sim.seqI <| Sim.op1 (h_mv o_i) <|
 Sim.doneS <| Sim.blkI <| Sim.loop (id := 0) (σ := (UInt32 × Int)) (τ := UInt32) (fun s5 => ⟨[(0, .val T.str a.1), (1, .val T.str a.2), (5, .val T.u32 x2), (6, .val T.u32 x3), (7, .val (T.int .i64) x4), (8, .val T.u32 s5.1), (9, .val (T.int .i64) s5.2)], []⟩) (fun p6 => ⟨[(0, .val T.str a.1), (1, .val T.str a.2), (5, .val T.u32 x2), (6, .val T.u32 x3), (7, .val (T.int .i64) x4), (8, .val T.u32 p6)], []⟩) ((0 : UInt32), 0) ⟨⟨⟨rfl, trivial⟩, ⟨⟨rfl, trivial⟩, ⟨⟨rfl, trivial⟩, ⟨⟨rfl, trivial⟩, ⟨⟨rfl, trivial⟩, ⟨⟨rfl, trivial⟩, ⟨⟨rfl, trivial⟩, trivial⟩⟩⟩⟩⟩⟩⟩, trivial⟩ (fun _ => rfl) (fun s5 =>
 Sim.seqI <| Sim.seqI <| Sim.op1 (h_mv (o_t rfl)) <|
 Sim.op1 (h_mv (o_t rfl)) <|
 Sim.op (h_cmp (I := (IT.int .i64)) rfl (o_t rfl) (o_t rfl)) fun x7 =>
 Sim.doneS <| Sim.cond (o_t rfl) (
 Sim.skip <| Sim.doneS <| Sim.seqI <| Sim.blkI <| Sim.op1 (h_mv (o_t rfl)) <|
 Sim.op (h_mul (I := IT.u32) (o_t rfl) (o_u32 16777619 rfl)) fun x8 =>
 Sim.op1 (h_mv (o_t rfl)) <|
 Sim.op1 (h_mv (o_t rfl)) <|
 Sim.op (h_ixs (o_t rfl) (o_t rfl)) fun x9 =>
 Sim.op (h_cvi (I := IT.u8) (J := IT.u32) rfl (o_t rfl)) fun x10 =>
 Sim.op (h_add (I := IT.u32) (o_t rfl) (o_t rfl)) fun x11 =>
 Sim.op1 (h_mv (o_t rfl)) <|
 Sim.doneB <| Sim.doneS <| Sim.op1 (h_mv (o_t rfl)) <|
 Sim.op (h_add (I := (IT.int .i64)) (o_t rfl) o_i) fun x12 =>
 Sim.op1 (h_mv (o_t rfl)) <|
 Sim.next (x11, x12) ⟨⟨⟨rfl, trivial⟩, ⟨⟨rfl, trivial⟩, ⟨⟨rfl, trivial⟩, ⟨⟨rfl, trivial⟩, ⟨⟨rfl, trivial⟩, ⟨⟨rfl, trivial⟩, ⟨⟨rfl, trivial⟩, trivial⟩⟩⟩⟩⟩⟩⟩, trivial⟩) (
 Sim.exitS <| Sim.out s5.1 ⟨⟨⟨rfl, trivial⟩, ⟨⟨rfl, trivial⟩, ⟨⟨rfl, trivial⟩, ⟨⟨rfl, trivial⟩, ⟨⟨rfl, trivial⟩, ⟨⟨rfl, trivial⟩, trivial⟩⟩⟩⟩⟩⟩, trivial⟩)) (fun p6 =>
 Sim.exitB <| Sim.doneS <| Sim.seqI <| Sim.seqI <| Sim.op1 (h_mv (o_t rfl)) <|
 Sim.op1 (h_mv (o_t rfl)) <|
 Sim.op (h_cmp (I := IT.u32) rfl (o_t rfl) (o_t rfl)) fun x13 =>
 Sim.op1 (h_mv (o_t rfl)) <|
 Sim.and 5 rfl rfl rfl (Grp.op1 (h_mv (o_t rfl)) <|
 Grp.op1 (h_mv (o_t rfl)) <|
 Grp.op (h_sls (o_t rfl) .none (.some (o_t rfl))) fun x14 =>
 Grp.op1 (h_mv (o_t rfl)) <|
 Grp.op (h_seql (o_t rfl) (o_t rfl)) fun x15 =>
 Grp.nil (o_t rfl)) fun x16 =>
 Sim.doneS <| Sim.cond (o_t rfl) (
 Sim.seqI <| Sim.op1 (h_mv o_i) <|
 Sim.doneS <| Sim.ret (.one (res_t rfl))) (
 Sim.skip <| Sim.doneS <| Sim.seqI <| Sim.seqI <| Sim.op1 (h_mv (o_t rfl)) <|
 Sim.op1 (h_mv (o_t rfl)) <|
 Sim.doneS <| Sim.blkI <| Sim.loop (id := 2) (σ := (UInt32 × Int)) (τ := Unit) (fun s17 => ⟨[(0, .val T.str a.1), (1, .val T.str a.2), (5, .val T.u32 x2), (6, .val T.u32 x3), (7, .val (T.int .i64) x4), (8, .val T.u32 s17.1), (10, .val (T.int .i64) s17.2)], []⟩) (fun p18 => ⟨[], []⟩) (p6, x4) ⟨⟨⟨rfl, trivial⟩, ⟨⟨rfl, trivial⟩, ⟨⟨rfl, trivial⟩, ⟨⟨rfl, trivial⟩, ⟨⟨rfl, trivial⟩, ⟨⟨rfl, trivial⟩, ⟨⟨rfl, trivial⟩, trivial⟩⟩⟩⟩⟩⟩⟩, trivial⟩ (fun _ => rfl) (fun s17 =>
 Sim.seqI <| Sim.seqI <| Sim.op1 (h_mv (o_t rfl)) <|
 Sim.op1 (h_mv (o_t rfl)) <|
 Sim.op (h_lens (o_t rfl)) fun x19 =>
 Sim.op (h_cmp (I := (IT.int .i64)) rfl (o_t rfl) (o_t rfl)) fun x20 =>
 Sim.doneS <| Sim.cond (o_t rfl) (
 Sim.skip <| Sim.doneS <| Sim.blkI <| Sim.seqI <| Sim.op1 (h_mv (o_t rfl)) <|
 Sim.op (h_mul (I := IT.u32) (o_t rfl) (o_u32 16777619 rfl)) fun x21 =>
 Sim.op1 (h_mv (o_t rfl)) <|
 Sim.doneS <| Sim.seqI <| Sim.op1 (h_mv (o_t rfl)) <|
 Sim.op1 (h_mv (o_t rfl)) <|
 Sim.op1 (h_mv (o_t rfl)) <|
 Sim.op (h_ixs (o_t rfl) (o_t rfl)) fun x22 =>
 Sim.op (h_cvi (I := IT.u8) (J := IT.u32) rfl (o_t rfl)) fun x23 =>
 Sim.op (h_add (I := IT.u32) (o_t rfl) (o_t rfl)) fun x24 =>
 Sim.op1 (h_mv (o_t rfl)) <|
 Sim.doneS <| Sim.seqI <| Sim.op1 (h_mv (o_t rfl)) <|
 Sim.op1 (h_mv (o_t rfl)) <|
 Sim.op1 (h_mv (o_t rfl)) <|
 Sim.op1 (h_mv (o_t rfl)) <|
 Sim.op1 (h_mv (o_t rfl)) <|
 Sim.op (h_sub (I := (IT.int .i64)) (o_t rfl) (o_t rfl)) fun x25 =>
 Sim.op (h_ixs (o_t rfl) (o_t rfl)) fun x26 =>
 Sim.op (h_cvi (I := IT.u8) (J := IT.u32) rfl (o_t rfl)) fun x27 =>
 Sim.op (h_mul (I := IT.u32) (o_t rfl) (o_t rfl)) fun x28 =>
 Sim.op (h_sub (I := IT.u32) (o_t rfl) (o_t rfl)) fun x29 =>
 Sim.op1 (h_mv (o_t rfl)) <|
 Sim.doneS <| Sim.seqI <| Sim.op1 (h_mv (o_t rfl)) <|
 Sim.op (h_add (I := (IT.int .i64)) (o_t rfl) o_i) fun x30 =>
 Sim.op1 (h_mv (o_t rfl)) <|
 Sim.doneS <| Sim.seqI <| Sim.op1 (h_mv (o_t rfl)) <|
 Sim.op1 (h_mv (o_t rfl)) <|
 Sim.op (h_cmp (I := IT.u32) rfl (o_t rfl) (o_t rfl)) fun x31 =>
 Sim.op1 (h_mv (o_t rfl)) <|
 Sim.and 8 rfl rfl rfl (Grp.op1 (h_mv (o_t rfl)) <|
 Grp.op1 (h_mv (o_t rfl)) <|
 Grp.op1 (h_mv (o_t rfl)) <|
 Grp.op (h_sub (I := (IT.int .i64)) (o_t rfl) (o_t rfl)) fun x32 =>
 Grp.op1 (h_mv (o_t rfl)) <|
 Grp.op (h_sls (o_t rfl) (.some (o_t rfl)) (.some (o_t rfl))) fun x33 =>
 Grp.op1 (h_mv (o_t rfl)) <|
 Grp.op (h_seql (o_t rfl) (o_t rfl)) fun x34 =>
 Grp.nil (o_t rfl)) fun x35 =>
 Sim.doneS <| Sim.cond (o_t rfl) (
 Sim.seqI <| Sim.op1 (h_mv (o_t rfl)) <|
 Sim.op1 (h_mv (o_t rfl)) <|
 Sim.op (h_sub (I := (IT.int .i64)) (o_t rfl) (o_t rfl)) fun x36 =>
 Sim.op1 (h_mv (o_t rfl)) <|
 Sim.doneS <| Sim.outRet <| Sim.ret (.one (res_t rfl))) (
 Sim.skip <| Sim.doneB <| Sim.next (x29, x30) ⟨⟨⟨rfl, trivial⟩, ⟨⟨rfl, trivial⟩, ⟨⟨rfl, trivial⟩, ⟨⟨rfl, trivial⟩, ⟨⟨rfl, trivial⟩, ⟨⟨rfl, trivial⟩, ⟨⟨rfl, trivial⟩, trivial⟩⟩⟩⟩⟩⟩⟩, trivial⟩)) (
 Sim.exitS <| Sim.out () ⟨trivial, trivial⟩)) (fun p18 =>
 Sim.exitB <| Sim.doneS <| Sim.seqI <| Sim.op1 (h_mv o_i) <|
 Sim.doneS <| Sim.ret (.one (res_t rfl)))))
theorem sp_internal_bytealg_IndexRabinKarp_string : Spec tb fn_internal_bytealg_IndexRabinKarp_string [T.str, T.str] [(T.int .i64)] (fun a => internal_bytealg_IndexRabinKarp_string a.1 a.2) :=
  Spec.of f_internal_bytealg_IndexRabinKarp_string rfl rfl rfl sim_internal_bytealg_IndexRabinKarp_string

noncomputable def internal_stringslite_Index (a0 : Str) (a1 : Str) : Option Int :=
 (orO (decide ((a1.length : Int) = 0)) (some (decide (a1 = a0)))).bind fun x4 =>
 if x4 = true then
 some 0
 else
 if (decide ((a1.length : Int) = 1)) = true then
 (idx a1 0).bind fun x6 =>
 (internal_stringslite_IndexByte a0 x6).bind fun x7 =>
 some x7
 else
 if (decide ((a0.length : Int) ≤ (a1.length : Int))) = true then
 some (-1)
 else
 none
noncomputable def sim_internal_stringslite_Index (a : Res [T.str, T.str]) : Sim tb ⟨argsT [T.str, T.str] 0 a, []⟩ c_internal_stringslite_Index.body [] (QRes [(T.int .i64)] c_internal_stringslite_Index.res) :=
 Sim.seqI <| Sim.op1 (h_mv o_i) <|
 Sim.doneS <| Sim.seqI <| Sim.op1 (h_mv (o_t rfl)) <|
 Sim.op (h_lens (o_t rfl)) fun x1 =>
 Sim.op1 (h_mv (o_t rfl)) <|
 Sim.doneS <| Sim.seqI <| Sim.blkI <| Sim.seqI <| Sim.op1 (h_mv (o_t rfl)) <|
 Sim.op (h_cmp (I := (IT.int .i64)) rfl (o_t rfl) o_i) fun x2 =>
 Sim.op1 (h_mv (o_t rfl)) <|
 Sim.or 3 rfl rfl rfl (Grp.op1 (h_mv (o_t rfl)) <|
 Grp.op1 (h_mv (o_t rfl)) <|
 Grp.op (h_seql (o_t rfl) (o_t rfl)) fun x3 =>
 Grp.nil (o_t rfl)) fun x4 =>
 Sim.op1 (h_mv (o_t rfl)) <|
 Sim.doneS <| Sim.cond (o_t rfl) (
 Sim.seqI <| Sim.op1 (h_mv o_i) <|
 Sim.doneS <| Sim.ret (.one (res_t rfl))) (
 Sim.seqI <| Sim.op1 (h_mv (o_t rfl)) <|
 Sim.op (h_cmp (I := (IT.int .i64)) rfl (o_t rfl) o_i) fun x5 =>
 Sim.op1 (h_mv (o_t rfl)) <|
 Sim.doneS <| Sim.cond (o_t rfl) (
 Sim.seqI <| Sim.op1 (h_mv (o_t rfl)) <|
 Sim.op1 (h_mv (o_t rfl)) <|
 Sim.op (h_ixs (o_t rfl) o_i) fun x6 =>
 Sim.op (h_call1 sp_internal_stringslite_IndexByte (.cons (o_t rfl) <| .one (o_t rfl))) fun x7 =>
 Sim.op1 (h_mv (o_t rfl)) <|
 Sim.doneS <| Sim.ret (.one (res_t rfl))) (
 Sim.seqI <| Sim.op1 (h_mv (o_t rfl)) <|
 Sim.op1 (h_mv (o_t rfl)) <|
 Sim.op (h_lens (o_t rfl)) fun x8 =>
 Sim.op (h_cmp (I := (IT.int .i64)) rfl (o_t rfl) (o_t rfl)) fun x9 =>
 Sim.op1 (h_mv (o_t rfl)) <|
 Sim.doneS <| Sim.cond (o_t rfl) (
 Sim.seqI <| Sim.op1 (h_mv o_i) <|
 Sim.doneS <| Sim.ret (.one (res_t rfl))) (
 Sim.seqI <| Sim.op1 (h_mv (o_t rfl)) <|
 Sim.stop)))
theorem sp_internal_stringslite_Index : Spec tb fn_internal_stringslite_Index [T.str, T.str] [(T.int .i64)] (fun a => internal_stringslite_Index a.1 a.2) :=
  Spec.of f_internal_stringslite_Index rfl rfl rfl sim_internal_stringslite_Index

noncomputable def strings_Index (a0 : Str) (a1 : Str) : Option Int :=
 (internal_stringslite_Index a0 a1).bind fun x1 =>
 some x1
noncomputable def sim_strings_Index (a : Res [T.str, T.str]) : Sim tb ⟨argsT [T.str, T.str] 0 a, []⟩ c_strings_Index.body [] (QRes [(T.int .i64)] c_strings_Index.res) :=
 Sim.seqI <| Sim.op1 (h_mv o_i) <|
 Sim.doneS <| Sim.seqI <| Sim.op1 (h_mv (o_t rfl)) <|
 Sim.op1 (h_mv (o_t rfl)) <|
 Sim.op (h_call1 sp_internal_stringslite_Index (.cons (o_t rfl) <| .one (o_t rfl))) fun x1 =>
 Sim.op1 (h_mv (o_t rfl)) <|
 Sim.doneS <| Sim.ret (.one (res_t rfl))
theorem sp_strings_Index : Spec tb fn_strings_Index [T.str, T.str] [(T.int .i64)] (fun a => strings_Index a.1 a.2) :=
  Spec.of f_strings_Index rfl rfl rfl sim_strings_Index

end Go.Proofs.YtopgecohakediaaDoor.Am
