/-
  What functions compute, and that they do. Printed by mkwalk.py.
-/
import Derived.Test.YtopgecohakediaaDoorCodes
set_option linter.unusedVariables false
set_option maxRecDepth 100000
namespace Go.Proofs.YtopgecohakediaaDoor.Am

def internal_bytealg_IndexByteString (a0 : Str) (a1 : UInt8) : Option Int := some (findB a0 a1)
theorem sp_internal_bytealg_IndexByteString : Spec tb fn_internal_bytealg_IndexByteString [T.str, T.u8] [T.int .i64] (fun a => internal_bytealg_IndexByteString a.1 a.2) := Spec.byteS rfl
def internal_bytealg_CountString (a0 : Str) (a1 : UInt8) : Option Int := some (countB a0 a1)
theorem sp_internal_bytealg_CountString : Spec tb fn_internal_bytealg_CountString [T.str, T.u8] [T.int .i64] (fun a => internal_bytealg_CountString a.1 a.2) := Spec.byteS rfl
noncomputable def internal_stringslite_HasSuffix (a0 : Str) (a1 : Str) : Option Bool :=
 (andO (decide ((a1.length : Int) ≤ (a0.length : Int))) (let x6 := IntKind.i64.wrap ((a0.length : Int) - (a1.length : Int))
 (subL a0 (some x6) none).bind fun x7 =>
 some (decide (x7 = a1)))).bind fun x9 =>
 some x9
noncomputable def sim_internal_stringslite_HasSuffix (a : Res [T.str, T.str]) : Sim tb ⟨argsT [T.str, T.str] 0 a, []⟩ c_internal_stringslite_HasSuffix.body [] (QRes [T.b] c_internal_stringslite_HasSuffix.res) :=
 Sim.seqI <| Sim.op1 (h_mv o_b) <|
 Sim.doneS <| Sim.seqI <| Sim.op1 (h_mv (o_t rfl)) <|
 Sim.op (h_lens (o_t rfl)) fun x1 =>
 Sim.op1 (h_mv (o_t rfl)) <|
 Sim.op (h_lens (o_t rfl)) fun x2 =>
 Sim.op (h_cmp (I := (IT.int .i64)) rfl (o_t rfl) (o_t rfl)) fun x3 =>
 Sim.op1 (h_mv (o_t rfl)) <|
 Sim.and 9 rfl rfl rfl (Grp.op1 (h_mv (o_t rfl)) <|
 Grp.op1 (h_mv (o_t rfl)) <|
 Grp.op (h_lens (o_t rfl)) fun x4 =>
 Grp.op1 (h_mv (o_t rfl)) <|
 Grp.op (h_lens (o_t rfl)) fun x5 =>
 Grp.op (h_sub (I := (IT.int .i64)) (o_t rfl) (o_t rfl)) fun x6 =>
 Grp.op (h_sls (o_t rfl) (.some (o_t rfl)) .none) fun x7 =>
 Grp.op1 (h_mv (o_t rfl)) <|
 Grp.op (h_seql (o_t rfl) (o_t rfl)) fun x8 =>
 Grp.nil (o_t rfl)) fun x9 =>
 Sim.op1 (h_mv (o_t rfl)) <|
 Sim.doneS <| Sim.ret (.one (res_t rfl))
theorem sp_internal_stringslite_HasSuffix : Spec tb fn_internal_stringslite_HasSuffix [T.str, T.str] [T.b] (fun a => internal_stringslite_HasSuffix a.1 a.2) :=
  Spec.of f_internal_stringslite_HasSuffix rfl rfl rfl sim_internal_stringslite_HasSuffix

noncomputable def strings_HasSuffix (a0 : Str) (a1 : Str) : Option Bool :=
 (internal_stringslite_HasSuffix a0 a1).bind fun x1 =>
 some x1
noncomputable def sim_strings_HasSuffix (a : Res [T.str, T.str]) : Sim tb ⟨argsT [T.str, T.str] 0 a, []⟩ c_strings_HasSuffix.body [] (QRes [T.b] c_strings_HasSuffix.res) :=
 Sim.seqI <| Sim.op1 (h_mv o_b) <|
 Sim.doneS <| Sim.seqI <| Sim.op1 (h_mv (o_t rfl)) <|
 Sim.op1 (h_mv (o_t rfl)) <|
 Sim.op (h_call1 sp_internal_stringslite_HasSuffix (.cons (o_t rfl) <| .one (o_t rfl))) fun x1 =>
 Sim.op1 (h_mv (o_t rfl)) <|
 Sim.doneS <| Sim.ret (.one (res_t rfl))
theorem sp_strings_HasSuffix : Spec tb fn_strings_HasSuffix [T.str, T.str] [T.b] (fun a => strings_HasSuffix a.1 a.2) :=
  Spec.of f_strings_HasSuffix rfl rfl rfl sim_strings_HasSuffix

noncomputable def internal_stringslite_TrimSuffix (a0 : Str) (a1 : Str) : Option Str :=
 (internal_stringslite_HasSuffix a0 a1).bind fun x1 =>
 if x1 = true then
 let x4 := IntKind.i64.wrap ((a0.length : Int) - (a1.length : Int))
 (subL a0 none (some x4)).bind fun x5 =>
 some x5
 else
 some a0
noncomputable def sim_internal_stringslite_TrimSuffix (a : Res [T.str, T.str]) : Sim tb ⟨argsT [T.str, T.str] 0 a, []⟩ c_internal_stringslite_TrimSuffix.body [] (QRes [T.str] c_internal_stringslite_TrimSuffix.res) :=
 Sim.seqI <| Sim.op1 (h_mv o_s) <|
 Sim.doneS <| Sim.seqI <| Sim.seqI <| Sim.op1 (h_mv (o_t rfl)) <|
 Sim.op1 (h_mv (o_t rfl)) <|
 Sim.op (h_call1 sp_internal_stringslite_HasSuffix (.cons (o_t rfl) <| .one (o_t rfl))) fun x1 =>
 Sim.doneS <| Sim.cond (o_t rfl) (
 Sim.seqI <| Sim.op1 (h_mv (o_t rfl)) <|
 Sim.op1 (h_mv (o_t rfl)) <|
 Sim.op (h_lens (o_t rfl)) fun x2 =>
 Sim.op1 (h_mv (o_t rfl)) <|
 Sim.op (h_lens (o_t rfl)) fun x3 =>
 Sim.op (h_sub (I := (IT.int .i64)) (o_t rfl) (o_t rfl)) fun x4 =>
 Sim.op (h_sls (o_t rfl) .none (.some (o_t rfl))) fun x5 =>
 Sim.op1 (h_mv (o_t rfl)) <|
 Sim.doneS <| Sim.ret (.one (res_t rfl))) (
 Sim.skip <| Sim.doneS <| Sim.seqI <| Sim.op1 (h_mv (o_t rfl)) <|
 Sim.op1 (h_mv (o_t rfl)) <|
 Sim.doneS <| Sim.ret (.one (res_t rfl)))
theorem sp_internal_stringslite_TrimSuffix : Spec tb fn_internal_stringslite_TrimSuffix [T.str, T.str] [T.str] (fun a => internal_stringslite_TrimSuffix a.1 a.2) :=
  Spec.of f_internal_stringslite_TrimSuffix rfl rfl rfl sim_internal_stringslite_TrimSuffix

noncomputable def strings_TrimSuffix (a0 : Str) (a1 : Str) : Option Str :=
 (internal_stringslite_TrimSuffix a0 a1).bind fun x1 =>
 some x1
noncomputable def sim_strings_TrimSuffix (a : Res [T.str, T.str]) : Sim tb ⟨argsT [T.str, T.str] 0 a, []⟩ c_strings_TrimSuffix.body [] (QRes [T.str] c_strings_TrimSuffix.res) :=
 Sim.seqI <| Sim.op1 (h_mv o_s) <|
 Sim.doneS <| Sim.seqI <| Sim.op1 (h_mv (o_t rfl)) <|
 Sim.op1 (h_mv (o_t rfl)) <|
 Sim.op (h_call1 sp_internal_stringslite_TrimSuffix (.cons (o_t rfl) <| .one (o_t rfl))) fun x1 =>
 Sim.op1 (h_mv (o_t rfl)) <|
 Sim.doneS <| Sim.ret (.one (res_t rfl))
theorem sp_strings_TrimSuffix : Spec tb fn_strings_TrimSuffix [T.str, T.str] [T.str] (fun a => strings_TrimSuffix a.1 a.2) :=
  Spec.of f_strings_TrimSuffix rfl rfl rfl sim_strings_TrimSuffix

noncomputable def unicode_utf8_RuneCountInString (a0 : Str) : Option Int :=
 (iter (fun (s1 : (Int × Nat)) =>
 if s1.2 < a0.length then
 let x3 := runeAt a0 s1.2
 some (.inl (IntKind.i64.wrap (s1.1 + 1), s1.2 + x3.2))
 else
 some (.inr (.inl s1.1))) (0, 0)).bind (Sum.elim (fun (p2 : Int) =>
 some p2) some)
noncomputable def sim_unicode_utf8_RuneCountInString (a : Res [T.str]) : Sim tb ⟨argsT [T.str] 0 a, []⟩ c_unicode_utf8_RuneCountInString.body [] (QRes [(T.int .i64)] c_unicode_utf8_RuneCountInString.res) :=
 Sim.seqI <| Sim.op1 (h_mv o_i) <|
 Sim.doneS <| Sim.seqI <| Sim.seqI <| Sim.op1 (h_mv (o_t rfl)) <|
 Sim.opM (M_rng 1004 rfl (o_t rfl)) fun _ =>
 Sim.doneS <| Sim.blkI <| Sim.loop (id := 0) (σ := (Int × Nat)) (τ := Int) (fun s1 => ⟨[(2, .val (T.int .i64) s1.1), (4, .own 1004)], [(1004, .dom DIter (a, s1.2))]⟩) (fun p2 => ⟨[(2, .val (T.int .i64) p2)], []⟩) (0, 0) ⟨⟨⟨rfl, trivial⟩, ⟨⟨rfl, trivial⟩, trivial⟩⟩, ⟨⟨rfl, trivial⟩, trivial⟩⟩ (fun _ => rfl) (fun s1 =>
 Sim.seqI <| Sim.nxt (o_t rfl) rfl (fun x3 =>
 Sim.op1 (h_ext (o_t rfl) rfl) <|
 Sim.doneS <| Sim.seqI <| Sim.condT (o_t rfl) <|
 Sim.skip <| Sim.doneS <| Sim.blkI <| Sim.op1 (h_mv (o_t rfl)) <|
 Sim.op (h_add (I := (IT.int .i64)) (o_t rfl) o_i) fun x4 =>
 Sim.op1 (h_mv (o_t rfl)) <|
 Sim.doneB <| Sim.next (x4, s1.2 + x3.2) ⟨⟨⟨rfl, trivial⟩, ⟨⟨rfl, trivial⟩, trivial⟩⟩, ⟨⟨rfl, trivial⟩, trivial⟩⟩) (
 Sim.op1 (h_ext (o_t rfl) rfl) <|
 Sim.doneS <| Sim.seqI <| Sim.condF (o_t rfl) <|
 Sim.exitS <| Sim.out s1.1 ⟨⟨⟨rfl, trivial⟩, trivial⟩, trivial⟩)) (fun p2 =>
 Sim.exitB <| Sim.doneS <| Sim.seqI <| Sim.op1 (h_mv (o_t rfl)) <|
 Sim.op1 (h_mv (o_t rfl)) <|
 Sim.doneS <| Sim.ret (.one (res_t rfl)))
theorem sp_unicode_utf8_RuneCountInString : Spec tb fn_unicode_utf8_RuneCountInString [T.str] [(T.int .i64)] (fun a => unicode_utf8_RuneCountInString a) :=
  Spec.of f_unicode_utf8_RuneCountInString rfl rfl rfl sim_unicode_utf8_RuneCountInString

noncomputable def unicode_utf8_decodeRuneInStringSlow (a0 : Str) : Option (Int × Int) :=
 if (decide ((a0.length : Int) < 1)) = true then
 some (65533, 0)
 else
 (idx a0 0).bind fun x3 =>
 none
noncomputable def sim_unicode_utf8_decodeRuneInStringSlow (a : Res [T.str]) : Sim tb ⟨argsT [T.str] 0 a, []⟩ c_unicode_utf8_decodeRuneInStringSlow.body [] (QRes [(T.int .i32), (T.int .i64)] c_unicode_utf8_decodeRuneInStringSlow.res) :=
 Sim.seqI <| Sim.op1 (h_mv o_i) <|
 Sim.op1 (h_mv o_i) <|
 Sim.doneS <| Sim.seqI <| Sim.op1 (h_mv (o_t rfl)) <|
 Sim.op (h_lens (o_t rfl)) fun x1 =>
 Sim.op1 (h_mv (o_t rfl)) <|
 Sim.doneS <| Sim.seqI <| Sim.seqI <| Sim.op1 (h_mv (o_t rfl)) <|
 Sim.op (h_cmp (I := (IT.int .i64)) rfl (o_t rfl) o_i) fun x2 =>
 Sim.doneS <| Sim.cond (o_t rfl) (
 Sim.seqI <| Sim.op1 (h_mv o_i) <|
 Sim.op1 (h_mv o_i) <|
 Sim.doneS <| Sim.ret (.cons (res_t rfl) <| .one (res_t rfl))) (
 Sim.skip <| Sim.doneS <| Sim.seqI <| Sim.op1 (h_mv (o_t rfl)) <|
 Sim.op (h_ixs (o_t rfl) o_i) fun x3 =>
 Sim.op1 (h_mv (o_t rfl)) <|
 Sim.doneS <| Sim.seqI <| Sim.op1 (h_mv (o_t rfl)) <|
 Sim.stop)
theorem sp_unicode_utf8_decodeRuneInStringSlow : Spec tb fn_unicode_utf8_decodeRuneInStringSlow [T.str] [(T.int .i32), (T.int .i64)] (fun a => unicode_utf8_decodeRuneInStringSlow a) :=
  Spec.of f_unicode_utf8_decodeRuneInStringSlow rfl rfl rfl sim_unicode_utf8_decodeRuneInStringSlow

noncomputable def unicode_utf8_DecodeRuneInString (a0 : Str) : Option (Int × Int) :=
 (andO (!decide (a0 = [])) ((idx a0 0).bind fun x2 =>
 let x3 := decide ((x2.toNat : Int) < ((128 : UInt8).toNat : Int))
 some x3)).bind fun x4 =>
 if x4 = true then
 (idx a0 0).bind fun x5 =>
 some (IntKind.i32.wrap (x5.toNat : Int), 1)
 else
 (unicode_utf8_decodeRuneInStringSlow a0).bind fun x7 =>
 some (x7.1, x7.2)
noncomputable def sim_unicode_utf8_DecodeRuneInString (a : Res [T.str]) : Sim tb ⟨argsT [T.str] 0 a, []⟩ c_unicode_utf8_DecodeRuneInString.body [] (QRes [(T.int .i32), (T.int .i64)] c_unicode_utf8_DecodeRuneInString.res) :=
 Sim.seqI <| Sim.op1 (h_mv o_i) <|
 Sim.op1 (h_mv o_i) <|
 Sim.doneS <| Sim.seqI <| Sim.seqI <| Sim.op1 (h_mv (o_t rfl)) <|
 Sim.op (h_sneq (o_t rfl) o_s) fun x1 =>
 Sim.op1 (h_mv (o_t rfl)) <|
 Sim.and 3 rfl rfl rfl (Grp.op1 (h_mv (o_t rfl)) <|
 Grp.op (h_ixs (o_t rfl) o_i) fun x2 =>
 Grp.op (h_cmp (I := IT.u8) rfl (o_t rfl) (o_u8 128 rfl)) fun x3 =>
 Grp.nil (o_t rfl)) fun x4 =>
 Sim.doneS <| Sim.cond (o_t rfl) (
 Sim.seqI <| Sim.op1 (h_mv (o_t rfl)) <|
 Sim.op (h_ixs (o_t rfl) o_i) fun x5 =>
 Sim.op (h_cvi (I := IT.u8) (J := (IT.int .i32)) rfl (o_t rfl)) fun x6 =>
 Sim.op1 (h_mv (o_t rfl)) <|
 Sim.op1 (h_mv o_i) <|
 Sim.doneS <| Sim.ret (.cons (res_t rfl) <| .one (res_t rfl))) (
 Sim.op1 (h_mv (o_t rfl)) <|
 Sim.op (h_callN sp_unicode_utf8_decodeRuneInStringSlow (.one (o_t rfl))) fun x7 =>
 Sim.op1 (h_mv (o_t rfl)) <|
 Sim.opn (h_ext (o_t rfl) rfl) fun x8 =>
 Sim.opn (h_ext (o_t rfl) rfl) fun x9 =>
 Sim.op1 (h_mv (o_t rfl)) <|
 Sim.op1 (h_mv (o_t rfl)) <|
 Sim.doneS <| Sim.ret (.cons (res_t rfl) <| .one (res_t rfl)))
theorem sp_unicode_utf8_DecodeRuneInString : Spec tb fn_unicode_utf8_DecodeRuneInString [T.str] [(T.int .i32), (T.int .i64)] (fun a => unicode_utf8_DecodeRuneInString a) :=
  Spec.of f_unicode_utf8_DecodeRuneInString rfl rfl rfl sim_unicode_utf8_DecodeRuneInString

noncomputable def strings_explode (a0 : Str) (a1 : Int) : Option (GS Str) :=
 (unicode_utf8_RuneCountInString a0).bind fun x1 =>
 (orO (decide (a1 < 0)) (some (decide (x1 < a1)))).bind fun x4 =>
 (fun (k6 : Int → Option _) => if x4 = true then
 k6 x1
 else
 k6 a1) fun p5 =>
 (mkG [] 16 p5 p5).bind fun x7 =>
 (iter (fun (s8 : (Str × Int × (GS Str))) =>
 if (decide (s8.2.1 < IntKind.i64.wrap (p5 - 1))) = true then
 (unicode_utf8_DecodeRuneInString s8.1).bind fun x12 =>
 (subL s8.1 none (some x12.2)).bind fun x15 =>
 (idxN s8.2.2.l.length s8.2.1).bind fun x16 =>
 (s8.2.2.l[x16]?.map fun y => s8.2.2.set x16 x15).bind fun x17 =>
 (subL s8.1 (some x12.2) none).bind fun x18 =>
 some (.inl (x18, IntKind.i64.wrap (s8.2.1 + 1), x17))
 else
 some (.inr (.inl (s8.1, s8.2.2)))) (a0, 0, x7)).bind (Sum.elim (fun (p9 : (Str × (GS Str))) =>
 if (decide (0 < p5)) = true then
 (idxN p9.2.l.length (IntKind.i64.wrap (p5 - 1))).bind fun x22 =>
 (p9.2.l[x22]?.map fun y => p9.2.set x22 p9.1).bind fun x23 =>
 some x23
 else
 some p9.2) some)
noncomputable def sim_strings_explode (a : Res [T.str, (T.int .i64)]) : Sim tb ⟨argsT [T.str, (T.int .i64)] 0 a, []⟩ c_strings_explode.body [] (QRes [(T.sl T.str)] c_strings_explode.res) :=
 Sim.seqI <| Sim.op1 (h_mv (o_nils (t := T.str))) <|
 Sim.doneS <| Sim.seqI <| Sim.op1 (h_mv (o_t rfl)) <|
 Sim.op (h_call1 sp_unicode_utf8_RuneCountInString (.one (o_t rfl))) fun x1 =>
 Sim.op1 (h_mv (o_t rfl)) <|
 Sim.doneS <| Sim.seqI <| Sim.seqI <| Sim.op1 (h_mv (o_t rfl)) <|
 Sim.op (h_cmp (I := (IT.int .i64)) rfl (o_t rfl) o_i) fun x2 =>
 Sim.op1 (h_mv (o_t rfl)) <|
 Sim.or 3 rfl rfl rfl (Grp.op1 (h_mv (o_t rfl)) <|
 Grp.op1 (h_mv (o_t rfl)) <|
 Grp.op (h_cmp (I := (IT.int .i64)) rfl (o_t rfl) (o_t rfl)) fun x3 =>
 Grp.nil (o_t rfl)) fun x4 =>
 Sim.doneS <| Sim.join (τ := Int) (fun p5 => ⟨[(0, .val T.str a.1), (1, .val (T.int .i64) p5)], []⟩) (fun p5 =>
 Sim.doneS <| Sim.seqI <| Sim.op1 (h_mv (o_t rfl)) <|
 Sim.opM (M_mks (t := T.str) 1021 rfl rfl rfl (o_t rfl) (o_t rfl)) fun x7 =>
 Sim.op1 (h_mv (o_t rfl)) <|
 Sim.doneS <| Sim.seqI <| Sim.seqI <| Sim.op1 (h_mv o_i) <|
 Sim.doneS <| Sim.blkI <| Sim.loop (id := 0) (σ := (Str × Int × (GS Str))) (τ := (Str × (GS Str))) (fun s8 => ⟨[(0, .val T.str s8.1), (1, .val (T.int .i64) p5), (6, .own 1021), (7, .val (T.int .i64) s8.2.1)], [(1021, .row T.str s8.2.2)]⟩) (fun p9 => ⟨[(0, .val T.str p9.1), (1, .val (T.int .i64) p5), (6, .own 1021)], [(1021, .row T.str p9.2)]⟩) (a.1, 0, x7) ⟨⟨⟨rfl, trivial⟩, ⟨⟨rfl, trivial⟩, ⟨⟨rfl, trivial⟩, ⟨⟨rfl, trivial⟩, trivial⟩⟩⟩⟩, ⟨⟨rfl, trivial⟩, trivial⟩⟩ (fun _ => rfl) (fun s8 =>
 Sim.seqI <| Sim.seqI <| Sim.op1 (h_mv (o_t rfl)) <|
 Sim.op1 (h_mv (o_t rfl)) <|
 Sim.op (h_sub (I := (IT.int .i64)) (o_t rfl) o_i) fun x10 =>
 Sim.op (h_cmp (I := (IT.int .i64)) rfl (o_t rfl) (o_t rfl)) fun x11 =>
 Sim.doneS <| Sim.cond (o_t rfl) (
 Sim.skip <| Sim.doneS <| Sim.seqI <| Sim.blkI <| Sim.seqI <| Sim.op1 (h_mv (o_t rfl)) <|
 Sim.op (h_callN sp_unicode_utf8_DecodeRuneInString (.one (o_t rfl))) fun x12 =>
 Sim.op1 (h_mv (o_t rfl)) <|
 Sim.opn (h_ext (o_t rfl) rfl) fun x13 =>
 Sim.opn (h_ext (o_t rfl) rfl) fun x14 =>
 Sim.op1 (h_mv (o_t rfl)) <|
 Sim.op1 (h_mv (o_t rfl)) <|
 Sim.doneS <| Sim.seqI <| Sim.op1 (h_mv (o_t rfl)) <|
 Sim.op1 (h_mv (o_t rfl)) <|
 Sim.op1 (h_mv (o_t rfl)) <|
 Sim.op1 (h_mv (o_t rfl)) <|
 Sim.op (h_sls (o_t rfl) .none (.some (o_t rfl))) fun x15 =>
 Sim.op (h_iasO rfl (o_t rfl) rfl (o_t rfl)) fun x16 =>
 Sim.opM (M_stE (t := T.str) (u := T.str) rfl (Fld.id _) (o_t rfl) (o_t rfl) rfl) fun x17 =>
 Sim.doneS <| Sim.op1 (h_mv (o_t rfl)) <|
 Sim.op1 (h_mv (o_t rfl)) <|
 Sim.op (h_sls (o_t rfl) (.some (o_t rfl)) .none) fun x18 =>
 Sim.op1 (h_mv (o_t rfl)) <|
 Sim.doneB <| Sim.doneS <| Sim.op1 (h_mv (o_t rfl)) <|
 Sim.op (h_add (I := (IT.int .i64)) (o_t rfl) o_i) fun x19 =>
 Sim.op1 (h_mv (o_t rfl)) <|
 Sim.next (x18, x19, x17) ⟨⟨⟨rfl, trivial⟩, ⟨⟨rfl, trivial⟩, ⟨⟨rfl, trivial⟩, ⟨⟨rfl, trivial⟩, trivial⟩⟩⟩⟩, ⟨⟨rfl, trivial⟩, trivial⟩⟩) (
 Sim.exitS <| Sim.out (s8.1, s8.2.2) ⟨⟨⟨rfl, trivial⟩, ⟨⟨rfl, trivial⟩, ⟨⟨rfl, trivial⟩, trivial⟩⟩⟩, ⟨⟨rfl, trivial⟩, trivial⟩⟩)) (fun p9 =>
 Sim.exitB <| Sim.doneS <| Sim.seqI <| Sim.seqI <| Sim.op1 (h_mv (o_t rfl)) <|
 Sim.op (h_cmp (I := (IT.int .i64)) rfl (o_t rfl) o_i) fun x20 =>
 Sim.doneS <| Sim.cond (o_t rfl) (
 Sim.op1 (h_mv (o_t rfl)) <|
 Sim.op1 (h_mv (o_t rfl)) <|
 Sim.op (h_sub (I := (IT.int .i64)) (o_t rfl) o_i) fun x21 =>
 Sim.op1 (h_mv (o_t rfl)) <|
 Sim.op (h_iasO rfl (o_t rfl) rfl (o_t rfl)) fun x22 =>
 Sim.opM (M_stE (t := T.str) (u := T.str) rfl (Fld.id _) (o_t rfl) (o_t rfl) rfl) fun x23 =>
 Sim.doneS <| Sim.seqI <| Sim.op1 (h_mv (o_t rfl)) <|
 Sim.op1 (h_mv (o_t rfl)) <|
 Sim.doneS <| Sim.frzRow 1021 rfl rfl <| Sim.ret (.one (res_t rfl))) (
 Sim.skip <| Sim.doneS <| Sim.seqI <| Sim.op1 (h_mv (o_t rfl)) <|
 Sim.op1 (h_mv (o_t rfl)) <|
 Sim.doneS <| Sim.frzRow 1021 rfl rfl <| Sim.ret (.one (res_t rfl))))) fun k6 => Sim.cond (o_t rfl) (
 Sim.op1 (h_mv (o_t rfl)) <|
 Sim.op1 (h_mv (o_t rfl)) <|
 Sim.weak (k6 x1) ⟨⟨⟨rfl, trivial⟩, ⟨⟨rfl, trivial⟩, trivial⟩⟩, trivial⟩) (
 Sim.skip <| Sim.weak (k6 a.2) ⟨⟨⟨rfl, trivial⟩, ⟨⟨rfl, trivial⟩, trivial⟩⟩, trivial⟩)
theorem sp_strings_explode : Spec tb fn_strings_explode [T.str, (T.int .i64)] [(T.sl T.str)] (fun a => strings_explode a.1 a.2) :=
  Spec.of f_strings_explode rfl rfl rfl sim_strings_explode

noncomputable def internal_stringslite_IndexByte (a0 : Str) (a1 : UInt8) : Option Int :=
 (internal_bytealg_IndexByteString a0 a1).bind fun x1 =>
 some x1
noncomputable def sim_internal_stringslite_IndexByte (a : Res [T.str, T.u8]) : Sim tb ⟨argsT [T.str, T.u8] 0 a, []⟩ c_internal_stringslite_IndexByte.body [] (QRes [(T.int .i64)] c_internal_stringslite_IndexByte.res) :=
 Sim.seqI <| Sim.op1 (h_mv o_i) <|
 Sim.doneS <| Sim.seqI <| Sim.op1 (h_mv (o_t rfl)) <|
 Sim.op1 (h_mv (o_t rfl)) <|
 Sim.op (h_call1 sp_internal_bytealg_IndexByteString (.cons (o_t rfl) <| .one (o_t rfl))) fun x1 =>
 Sim.op1 (h_mv (o_t rfl)) <|
 Sim.doneS <| Sim.ret (.one (res_t rfl))
theorem sp_internal_stringslite_IndexByte : Spec tb fn_internal_stringslite_IndexByte [T.str, T.u8] [(T.int .i64)] (fun a => internal_stringslite_IndexByte a.1 a.2) :=
  Spec.of f_internal_stringslite_IndexByte rfl rfl rfl sim_internal_stringslite_IndexByte

noncomputable def internal_bytealg_Cutover (a0 : Int) : Option Int :=
 (if 8 = 0 then none else some (IntKind.i64.wrap (Int.tdiv (IntKind.i64.wrap (a0 + 16)) 8))).bind fun x2 =>
 some x2
noncomputable def sim_internal_bytealg_Cutover (a : Res [(T.int .i64)]) : Sim tb ⟨argsT [(T.int .i64)] 0 a, []⟩ c_internal_bytealg_Cutover.body [] (QRes [(T.int .i64)] c_internal_bytealg_Cutover.res) :=
 Sim.seqI <| Sim.op1 (h_mv o_i) <|
 Sim.doneS <| Sim.seqI <| Sim.op1 (h_mv (o_t rfl)) <|
 Sim.op (h_add (I := (IT.int .i64)) (o_t rfl) o_i) fun x1 =>
 Sim.op (h_quo (I := (IT.int .i64)) (o_t rfl) o_i) fun x2 =>
 Sim.op1 (h_mv (o_t rfl)) <|
 Sim.doneS <| Sim.ret (.one (res_t rfl))
theorem sp_internal_bytealg_Cutover : Spec tb fn_internal_bytealg_Cutover [(T.int .i64)] [(T.int .i64)] (fun a => internal_bytealg_Cutover a) :=
  Spec.of f_internal_bytealg_Cutover rfl rfl rfl sim_internal_bytealg_Cutover

noncomputable def internal_bytealg_hashStr_string (a0 : Str) : Option (UInt32 × UInt32) :=
 (iter (fun (s1 : (UInt32 × Int)) =>
 if (decide (s1.2 < (a0.length : Int))) = true then
 let x5 := IT.u32.ofI ((s1.1.toNat : Int) * ((16777619 : UInt32).toNat : Int))
 (idx a0 s1.2).bind fun x6 =>
 let x8 := IT.u32.ofI ((x5.toNat : Int) + ((IT.u32.ofI (x6.toNat : Int)).toNat : Int))
 some (.inl (x8, IntKind.i64.wrap (s1.2 + 1)))
 else
 some (.inr (.inl s1.1))) ((0 : UInt32), 0)).bind (Sum.elim (fun (p2 : UInt32) =>
 (iter (fun (s11 : (UInt32 × UInt32 × Int)) =>
 if (decide (0 < s11.2.2)) = true then
 let x15 := !decide (IntKind.i64.wrap (bitsR .and .i64 s11.2.2 1) = 0)
 (fun (k17 : UInt32 → Option _) => if x15 = true then
 let x20 := IT.u32.ofI ((s11.1.toNat : Int) * (s11.2.1.toNat : Int))
 k17 x20
 else
 k17 s11.1) fun p16 =>
 let x18 := IT.u32.ofI ((s11.2.1.toNat : Int) * (s11.2.1.toNat : Int))
 (if ((1 : UInt64).toNat : Int) < 0 then none else some (Int.fdiv s11.2.2 (2 ^ (min ((1 : UInt64).toNat : Int).toNat 64)))).bind fun x19 =>
 some (.inl (p16, x18, x19))
 else
 some (.inr (.inl s11.1))) ((1 : UInt32), (16777619 : UInt32), (a0.length : Int))).bind (Sum.elim (fun (p12 : UInt32) =>
 some (p2, p12)) some)) some)
noncomputable def sim_internal_bytealg_hashStr_string (a : Res [T.str]) : Sim tb ⟨argsT [T.str] 0 a, []⟩ c_internal_bytealg_hashStr_string.body [] (QRes [T.u32, T.u32] c_internal_bytealg_hashStr_string.res) :=
 Sim.seqI <| Sim.op1 (h_mv (o_u32 0 rfl)) <|
 Sim.op1 (h_mv (o_u32 0 rfl)) <|
 Sim.doneS <| Sim.seqI <| Sim.op1 (h_mv (o_u32 0 rfl)) <|
 Sim.doneS <| Sim.seqI <| Sim.seqI <| Sim.op1 (h_mv o_i) <|
 Sim.doneS <| Sim.blkI <| Sim.loop (id := 0) (σ := (UInt32 × Int)) (τ := UInt32) (fun s1 => ⟨[(0, .val T.str a), (4, .val T.u32 s1.1), (5, .val (T.int .i64) s1.2)], []⟩) (fun p2 => ⟨[(0, .val T.str a), (4, .val T.u32 p2)], []⟩) ((0 : UInt32), 0) ⟨⟨⟨rfl, trivial⟩, ⟨⟨rfl, trivial⟩, ⟨⟨rfl, trivial⟩, trivial⟩⟩⟩, trivial⟩ (fun _ => rfl) (fun s1 =>
 Sim.seqI <| Sim.seqI <| Sim.op1 (h_mv (o_t rfl)) <|
 Sim.op1 (h_mv (o_t rfl)) <|
 Sim.op (h_lens (o_t rfl)) fun x3 =>
 Sim.op (h_cmp (I := (IT.int .i64)) rfl (o_t rfl) (o_t rfl)) fun x4 =>
 Sim.doneS <| Sim.cond (o_t rfl) (
 Sim.skip <| Sim.doneS <| Sim.seqI <| Sim.blkI <| Sim.op1 (h_mv (o_t rfl)) <|
 Sim.op (h_mul (I := IT.u32) (o_t rfl) (o_u32 16777619 rfl)) fun x5 =>
 Sim.op1 (h_mv (o_t rfl)) <|
 Sim.op1 (h_mv (o_t rfl)) <|
 Sim.op (h_ixs (o_t rfl) (o_t rfl)) fun x6 =>
 Sim.op (h_cvi (I := IT.u8) (J := IT.u32) rfl (o_t rfl)) fun x7 =>
 Sim.op (h_add (I := IT.u32) (o_t rfl) (o_t rfl)) fun x8 =>
 Sim.op1 (h_mv (o_t rfl)) <|
 Sim.doneB <| Sim.doneS <| Sim.op1 (h_mv (o_t rfl)) <|
 Sim.op (h_add (I := (IT.int .i64)) (o_t rfl) o_i) fun x9 =>
 Sim.op1 (h_mv (o_t rfl)) <|
 Sim.next (x8, x9) ⟨⟨⟨rfl, trivial⟩, ⟨⟨rfl, trivial⟩, ⟨⟨rfl, trivial⟩, trivial⟩⟩⟩, trivial⟩) (
 Sim.exitS <| Sim.out s1.1 ⟨⟨⟨rfl, trivial⟩, ⟨⟨rfl, trivial⟩, trivial⟩⟩, trivial⟩)) (fun p2 =>
 Sim.exitB <| Sim.doneS <| Sim.seqI <| Sim.op1 (h_mv (o_u32 1 rfl)) <|
 Sim.op1 (h_mv (o_u32 16777619 rfl)) <|
 Sim.doneS <| Sim.seqI <| Sim.seqI <| Sim.op1 (h_mv (o_t rfl)) <|
 Sim.op (h_lens (o_t rfl)) fun x10 =>
 Sim.op1 (h_mv (o_t rfl)) <|
 Sim.doneS <| Sim.blkI <| Sim.loop (id := 2) (σ := (UInt32 × UInt32 × Int)) (τ := UInt32) (fun s11 => ⟨[(4, .val T.u32 p2), (6, .val T.u32 s11.1), (7, .val T.u32 s11.2.1), (8, .val (T.int .i64) s11.2.2)], []⟩) (fun p12 => ⟨[(4, .val T.u32 p2), (6, .val T.u32 p12)], []⟩) ((1 : UInt32), (16777619 : UInt32), x10) ⟨⟨⟨rfl, trivial⟩, ⟨⟨rfl, trivial⟩, ⟨⟨rfl, trivial⟩, ⟨⟨rfl, trivial⟩, trivial⟩⟩⟩⟩, trivial⟩ (fun _ => rfl) (fun s11 =>
 Sim.seqI <| Sim.seqI <| Sim.op1 (h_mv (o_t rfl)) <|
 Sim.op (h_cmp (I := (IT.int .i64)) rfl (o_t rfl) o_i) fun x13 =>
 Sim.doneS <| Sim.cond (o_t rfl) (
 Sim.skip <| Sim.doneS <| Sim.seqI <| Sim.blkI <| Sim.seqI <| Sim.seqI <| Sim.op1 (h_mv (o_t rfl)) <|
 Sim.op (h_and (I := (IT.int .i64)) (o_t rfl) o_i) fun x14 =>
 Sim.op (h_cmp (I := (IT.int .i64)) rfl (o_t rfl) o_i) fun x15 =>
 Sim.doneS <| Sim.join (τ := UInt32) (fun p16 => ⟨[(4, .val T.u32 p2), (6, .val T.u32 p16), (7, .val T.u32 s11.2.1), (8, .val (T.int .i64) s11.2.2)], []⟩) (fun p16 =>
 Sim.doneS <| Sim.op1 (h_mv (o_t rfl)) <|
 Sim.op1 (h_mv (o_t rfl)) <|
 Sim.op (h_mul (I := IT.u32) (o_t rfl) (o_t rfl)) fun x18 =>
 Sim.op1 (h_mv (o_t rfl)) <|
 Sim.doneB <| Sim.doneS <| Sim.op1 (h_mv (o_t rfl)) <|
 Sim.op (h_shr (J := IT.u64) (o_t rfl) (o_u64 1 rfl)) fun x19 =>
 Sim.op1 (h_mv (o_t rfl)) <|
 Sim.next (p16, x18, x19) ⟨⟨⟨rfl, trivial⟩, ⟨⟨rfl, trivial⟩, ⟨⟨rfl, trivial⟩, ⟨⟨rfl, trivial⟩, trivial⟩⟩⟩⟩, trivial⟩) fun k17 => Sim.cond (o_t rfl) (
 Sim.op1 (h_mv (o_t rfl)) <|
 Sim.op1 (h_mv (o_t rfl)) <|
 Sim.op (h_mul (I := IT.u32) (o_t rfl) (o_t rfl)) fun x20 =>
 Sim.op1 (h_mv (o_t rfl)) <|
 Sim.weak (k17 x20) ⟨⟨⟨rfl, trivial⟩, ⟨⟨rfl, trivial⟩, ⟨⟨rfl, trivial⟩, ⟨⟨rfl, trivial⟩, trivial⟩⟩⟩⟩, trivial⟩) (
 Sim.skip <| Sim.weak (k17 s11.1) ⟨⟨⟨rfl, trivial⟩, ⟨⟨rfl, trivial⟩, ⟨⟨rfl, trivial⟩, ⟨⟨rfl, trivial⟩, trivial⟩⟩⟩⟩, trivial⟩)) (
 Sim.exitS <| Sim.out s11.1 ⟨⟨⟨rfl, trivial⟩, ⟨⟨rfl, trivial⟩, trivial⟩⟩, trivial⟩)) (fun p12 =>
 Sim.exitB <| Sim.doneS <| Sim.seqI <| Sim.op1 (h_mv (o_t rfl)) <|
 Sim.op1 (h_mv (o_t rfl)) <|
 Sim.op1 (h_mv (o_t rfl)) <|
 Sim.op1 (h_mv (o_t rfl)) <|
 Sim.doneS <| Sim.ret (.cons (res_t rfl) <| .one (res_t rfl))))
theorem sp_internal_bytealg_hashStr_string : Spec tb fn_internal_bytealg_hashStr_string [T.str] [T.u32, T.u32] (fun a => internal_bytealg_hashStr_string a) :=
  Spec.of f_internal_bytealg_hashStr_string rfl rfl rfl sim_internal_bytealg_hashStr_string

noncomputable def internal_bytealg_IndexRabinKarp_string (a0 : Str) (a1 : Str) : Option Int :=
 (internal_bytealg_hashStr_string a1).bind fun x1 =>
 (iter (fun (s5 : (UInt32 × Int)) =>
 if (decide (s5.2 < (a1.length : Int))) = true then
 let x8 := IT.u32.ofI ((s5.1.toNat : Int) * ((16777619 : UInt32).toNat : Int))
 (idx a0 s5.2).bind fun x9 =>
 let x11 := IT.u32.ofI ((x8.toNat : Int) + ((IT.u32.ofI (x9.toNat : Int)).toNat : Int))
 some (.inl (x11, IntKind.i64.wrap (s5.2 + 1)))
 else
 some (.inr (.inl s5.1))) ((0 : UInt32), 0)).bind (Sum.elim (fun (p6 : UInt32) =>
 (andO (decide ((p6.toNat : Int) = (x1.1.toNat : Int))) ((subL a0 none (some (a1.length : Int))).bind fun x14 =>
 some (decide (x14 = a1)))).bind fun x16 =>
 if x16 = true then
 some 0
 else
 (iter (fun (s17 : (UInt32 × Int)) =>
 if (decide (s17.2 < (a0.length : Int))) = true then
 let x21 := IT.u32.ofI ((s17.1.toNat : Int) * ((16777619 : UInt32).toNat : Int))
 (idx a0 s17.2).bind fun x22 =>
 let x24 := IT.u32.ofI ((x21.toNat : Int) + ((IT.u32.ofI (x22.toNat : Int)).toNat : Int))
 (idx a0 (IntKind.i64.wrap (s17.2 - (a1.length : Int)))).bind fun x26 =>
 let x28 := IT.u32.ofI ((x1.2.toNat : Int) * ((IT.u32.ofI (x26.toNat : Int)).toNat : Int))
 let x29 := IT.u32.ofI ((x24.toNat : Int) - (x28.toNat : Int))
 (andO (decide ((x29.toNat : Int) = (x1.1.toNat : Int))) (let x32 := IntKind.i64.wrap (IntKind.i64.wrap (s17.2 + 1) - (a1.length : Int))
 (subL a0 (some x32) (some (IntKind.i64.wrap (s17.2 + 1)))).bind fun x33 =>
 some (decide (x33 = a1)))).bind fun x35 =>
 if x35 = true then
 let x36 := IntKind.i64.wrap (IntKind.i64.wrap (s17.2 + 1) - (a1.length : Int))
 (some x36).map fun r => .inr (.inr r)
 else
 some (.inl (x29, IntKind.i64.wrap (s17.2 + 1)))
 else
 some (.inr (.inl ()))) (p6, (a1.length : Int))).bind (Sum.elim (fun (p18 : Unit) =>
 some (-1)) some)) some)
noncomputable def sim_internal_bytealg_IndexRabinKarp_string (a : Res [T.str, T.str]) : Sim tb ⟨argsT [T.str, T.str] 0 a, []⟩ c_internal_bytealg_IndexRabinKarp_string.body [] (QRes [(T.int .i64)] c_internal_bytealg_IndexRabinKarp_string.res) :=
 Sim.seqI <| Sim.op1 (h_mv o_i) <|
 Sim.doneS <| Sim.seqI <| Sim.op1 (h_mv (o_t rfl)) <|
 Sim.op (h_callN sp_internal_bytealg_hashStr_string (.one (o_t rfl))) fun x1 =>
 Sim.op1 (h_mv (o_t rfl)) <|
 Sim.opn (h_ext (o_t rfl) rfl) fun x2 =>
 Sim.opn (h_ext (o_t rfl) rfl) fun x3 =>
 Sim.op1 (h_mv (o_t rfl)) <|
 Sim.op1 (h_mv (o_t rfl)) <|
 Sim.doneS <| Sim.seqI <| Sim.op1 (h_mv (o_t rfl)) <|
 Sim.op (h_lens (o_t rfl)) fun x4 =>
 Sim.op1 (h_mv (o_t rfl)) <|
 Sim.doneS <| Sim.seqI <| Sim.op1 (h_mv (o_u32 0 rfl)) <|
 Sim.doneS <| Sim.seqI <| Sim.seqI <| Sim.op1 (h_mv o_i) <|
 Sim.doneS <| Sim.blkI <| Sim.loop (id := 0) (σ := (UInt32 × Int)) (τ := UInt32) (fun s5 => ⟨[(0, .val T.str a.1), (1, .val T.str a.2), (5, .val T.u32 x2), (6, .val T.u32 x3), (7, .val (T.int .i64) x4), (8, .val T.u32 s5.1), (9, .val (T.int .i64) s5.2)], []⟩) (fun p6 => ⟨[(0, .val T.str a.1), (1, .val T.str a.2), (5, .val T.u32 x2), (6, .val T.u32 x3), (7, .val (T.int .i64) x4), (8, .val T.u32 p6)], []⟩) ((0 : UInt32), 0) ⟨⟨⟨rfl, trivial⟩, ⟨⟨rfl, trivial⟩, ⟨⟨rfl, trivial⟩, ⟨⟨rfl, trivial⟩, ⟨⟨rfl, trivial⟩, ⟨⟨rfl, trivial⟩, ⟨⟨rfl, trivial⟩, trivial⟩⟩⟩⟩⟩⟩⟩, trivial⟩ (fun _ => rfl) (fun s5 =>
 Sim.seqI <| Sim.seqI <| Sim.op1 (h_mv (o_t rfl)) <|
 Sim.op1 (h_mv (o_t rfl)) <|
 Sim.op (h_cmp (I := (IT.int .i64)) rfl (o_t rfl) (o_t rfl)) fun x7 =>
 Sim.doneS <| Sim.cond (o_t rfl) (
 Sim.skip <| Sim.doneS <| Sim.seqI <| Sim.blkI <| Sim.op1 (h_mv (o_t rfl)) <|
 Sim.op (h_mul (I := IT.u32) (o_t rfl) (o_u32 16777619 rfl)) fun x8 =>
 Sim.op1 (h_mv (o_t rfl)) <|
 Sim.op1 (h_mv (o_t rfl)) <|
 Sim.op (h_ixs (o_t rfl) (o_t rfl)) fun x9 =>
 Sim.op (h_cvi (I := IT.u8) (J := IT.u32) rfl (o_t rfl)) fun x10 =>
 Sim.op (h_add (I := IT.u32) (o_t rfl) (o_t rfl)) fun x11 =>
 Sim.op1 (h_mv (o_t rfl)) <|
 Sim.doneB <| Sim.doneS <| Sim.op1 (h_mv (o_t rfl)) <|
 Sim.op (h_add (I := (IT.int .i64)) (o_t rfl) o_i) fun x12 =>
 Sim.op1 (h_mv (o_t rfl)) <|
 Sim.next (x11, x12) ⟨⟨⟨rfl, trivial⟩, ⟨⟨rfl, trivial⟩, ⟨⟨rfl, trivial⟩, ⟨⟨rfl, trivial⟩, ⟨⟨rfl, trivial⟩, ⟨⟨rfl, trivial⟩, ⟨⟨rfl, trivial⟩, trivial⟩⟩⟩⟩⟩⟩⟩, trivial⟩) (
 Sim.exitS <| Sim.out s5.1 ⟨⟨⟨rfl, trivial⟩, ⟨⟨rfl, trivial⟩, ⟨⟨rfl, trivial⟩, ⟨⟨rfl, trivial⟩, ⟨⟨rfl, trivial⟩, ⟨⟨rfl, trivial⟩, trivial⟩⟩⟩⟩⟩⟩, trivial⟩)) (fun p6 =>
 Sim.exitB <| Sim.doneS <| Sim.seqI <| Sim.seqI <| Sim.op1 (h_mv (o_t rfl)) <|
 Sim.op1 (h_mv (o_t rfl)) <|
 Sim.op (h_cmp (I := IT.u32) rfl (o_t rfl) (o_t rfl)) fun x13 =>
 Sim.op1 (h_mv (o_t rfl)) <|
 Sim.and 5 rfl rfl rfl (Grp.op1 (h_mv (o_t rfl)) <|
 Grp.op1 (h_mv (o_t rfl)) <|
 Grp.op (h_sls (o_t rfl) .none (.some (o_t rfl))) fun x14 =>
 Grp.op1 (h_mv (o_t rfl)) <|
 Grp.op (h_seql (o_t rfl) (o_t rfl)) fun x15 =>
 Grp.nil (o_t rfl)) fun x16 =>
 Sim.doneS <| Sim.cond (o_t rfl) (
 Sim.seqI <| Sim.op1 (h_mv o_i) <|
 Sim.doneS <| Sim.ret (.one (res_t rfl))) (
 Sim.skip <| Sim.doneS <| Sim.seqI <| Sim.seqI <| Sim.op1 (h_mv (o_t rfl)) <|
 Sim.op1 (h_mv (o_t rfl)) <|
 Sim.doneS <| Sim.blkI <| Sim.loop (id := 2) (σ := (UInt32 × Int)) (τ := Unit) (fun s17 => ⟨[(0, .val T.str a.1), (1, .val T.str a.2), (5, .val T.u32 x2), (6, .val T.u32 x3), (7, .val (T.int .i64) x4), (8, .val T.u32 s17.1), (10, .val (T.int .i64) s17.2)], []⟩) (fun p18 => ⟨[], []⟩) (p6, x4) ⟨⟨⟨rfl, trivial⟩, ⟨⟨rfl, trivial⟩, ⟨⟨rfl, trivial⟩, ⟨⟨rfl, trivial⟩, ⟨⟨rfl, trivial⟩, ⟨⟨rfl, trivial⟩, ⟨⟨rfl, trivial⟩, trivial⟩⟩⟩⟩⟩⟩⟩, trivial⟩ (fun _ => rfl) (fun s17 =>
 Sim.seqI <| Sim.seqI <| Sim.op1 (h_mv (o_t rfl)) <|
 Sim.op1 (h_mv (o_t rfl)) <|
 Sim.op (h_lens (o_t rfl)) fun x19 =>
 Sim.op (h_cmp (I := (IT.int .i64)) rfl (o_t rfl) (o_t rfl)) fun x20 =>
 Sim.doneS <| Sim.cond (o_t rfl) (
 Sim.skip <| Sim.doneS <| Sim.blkI <| Sim.seqI <| Sim.op1 (h_mv (o_t rfl)) <|
 Sim.op (h_mul (I := IT.u32) (o_t rfl) (o_u32 16777619 rfl)) fun x21 =>
 Sim.op1 (h_mv (o_t rfl)) <|
 Sim.doneS <| Sim.seqI <| Sim.op1 (h_mv (o_t rfl)) <|
 Sim.op1 (h_mv (o_t rfl)) <|
 Sim.op1 (h_mv (o_t rfl)) <|
 Sim.op (h_ixs (o_t rfl) (o_t rfl)) fun x22 =>
 Sim.op (h_cvi (I := IT.u8) (J := IT.u32) rfl (o_t rfl)) fun x23 =>
 Sim.op (h_add (I := IT.u32) (o_t rfl) (o_t rfl)) fun x24 =>
 Sim.op1 (h_mv (o_t rfl)) <|
 Sim.doneS <| Sim.seqI <| Sim.op1 (h_mv (o_t rfl)) <|
 Sim.op1 (h_mv (o_t rfl)) <|
 Sim.op1 (h_mv (o_t rfl)) <|
 Sim.op1 (h_mv (o_t rfl)) <|
 Sim.op1 (h_mv (o_t rfl)) <|
 Sim.op (h_sub (I := (IT.int .i64)) (o_t rfl) (o_t rfl)) fun x25 =>
 Sim.op (h_ixs (o_t rfl) (o_t rfl)) fun x26 =>
 Sim.op (h_cvi (I := IT.u8) (J := IT.u32) rfl (o_t rfl)) fun x27 =>
 Sim.op (h_mul (I := IT.u32) (o_t rfl) (o_t rfl)) fun x28 =>
 Sim.op (h_sub (I := IT.u32) (o_t rfl) (o_t rfl)) fun x29 =>
 Sim.op1 (h_mv (o_t rfl)) <|
 Sim.doneS <| Sim.seqI <| Sim.op1 (h_mv (o_t rfl)) <|
 Sim.op (h_add (I := (IT.int .i64)) (o_t rfl) o_i) fun x30 =>
 Sim.op1 (h_mv (o_t rfl)) <|
 Sim.doneS <| Sim.seqI <| Sim.op1 (h_mv (o_t rfl)) <|
 Sim.op1 (h_mv (o_t rfl)) <|
 Sim.op (h_cmp (I := IT.u32) rfl (o_t rfl) (o_t rfl)) fun x31 =>
 Sim.op1 (h_mv (o_t rfl)) <|
 Sim.and 8 rfl rfl rfl (Grp.op1 (h_mv (o_t rfl)) <|
 Grp.op1 (h_mv (o_t rfl)) <|
 Grp.op1 (h_mv (o_t rfl)) <|
 Grp.op (h_sub (I := (IT.int .i64)) (o_t rfl) (o_t rfl)) fun x32 =>
 Grp.op1 (h_mv (o_t rfl)) <|
 Grp.op (h_sls (o_t rfl) (.some (o_t rfl)) (.some (o_t rfl))) fun x33 =>
 Grp.op1 (h_mv (o_t rfl)) <|
 Grp.op (h_seql (o_t rfl) (o_t rfl)) fun x34 =>
 Grp.nil (o_t rfl)) fun x35 =>
 Sim.doneS <| Sim.cond (o_t rfl) (
 Sim.seqI <| Sim.op1 (h_mv (o_t rfl)) <|
 Sim.op1 (h_mv (o_t rfl)) <|
 Sim.op (h_sub (I := (IT.int .i64)) (o_t rfl) (o_t rfl)) fun x36 =>
 Sim.op1 (h_mv (o_t rfl)) <|
 Sim.doneS <| Sim.outRet <| Sim.ret (.one (res_t rfl))) (
 Sim.skip <| Sim.doneB <| Sim.next (x29, x30) ⟨⟨⟨rfl, trivial⟩, ⟨⟨rfl, trivial⟩, ⟨⟨rfl, trivial⟩, ⟨⟨rfl, trivial⟩, ⟨⟨rfl, trivial⟩, ⟨⟨rfl, trivial⟩, ⟨⟨rfl, trivial⟩, trivial⟩⟩⟩⟩⟩⟩⟩, trivial⟩)) (
 Sim.exitS <| Sim.out () ⟨trivial, trivial⟩)) (fun p18 =>
 Sim.exitB <| Sim.doneS <| Sim.seqI <| Sim.op1 (h_mv o_i) <|
 Sim.doneS <| Sim.ret (.one (res_t rfl)))))
theorem sp_internal_bytealg_IndexRabinKarp_string : Spec tb fn_internal_bytealg_IndexRabinKarp_string [T.str, T.str] [(T.int .i64)] (fun a => internal_bytealg_IndexRabinKarp_string a.1 a.2) :=
  Spec.of f_internal_bytealg_IndexRabinKarp_string rfl rfl rfl sim_internal_bytealg_IndexRabinKarp_string

noncomputable def internal_stringslite_Index (a0 : Str) (a1 : Str) : Option Int :=
 (orO (decide ((a1.length : Int) = 0)) (some (decide (a1 = a0)))).bind fun x4 =>
 if x4 = true then
 some 0
 else
 if (decide ((a1.length : Int) = 1)) = true then
 (idx a1 0).bind fun x6 =>
 (internal_stringslite_IndexByte a0 x6).bind fun x7 =>
 some x7
 else
 if (decide ((a0.length : Int) ≤ (a1.length : Int))) = true then
 some (-1)
 else
 none
noncomputable def sim_internal_stringslite_Index (a : Res [T.str, T.str]) : Sim tb ⟨argsT [T.str, T.str] 0 a, []⟩ c_internal_stringslite_Index.body [] (QRes [(T.int .i64)] c_internal_stringslite_Index.res) :=
 Sim.seqI <| Sim.op1 (h_mv o_i) <|
 Sim.doneS <| Sim.seqI <| Sim.op1 (h_mv (o_t rfl)) <|
 Sim.op (h_lens (o_t rfl)) fun x1 =>
 Sim.op1 (h_mv (o_t rfl)) <|
 Sim.doneS <| Sim.seqI <| Sim.blkI <| Sim.seqI <| Sim.op1 (h_mv (o_t rfl)) <|
 Sim.op (h_cmp (I := (IT.int .i64)) rfl (o_t rfl) o_i) fun x2 =>
 Sim.op1 (h_mv (o_t rfl)) <|
 Sim.or 3 rfl rfl rfl (Grp.op1 (h_mv (o_t rfl)) <|
 Grp.op1 (h_mv (o_t rfl)) <|
 Grp.op (h_seql (o_t rfl) (o_t rfl)) fun x3 =>
 Grp.nil (o_t rfl)) fun x4 =>
 Sim.op1 (h_mv (o_t rfl)) <|
 Sim.doneS <| Sim.cond (o_t rfl) (
 Sim.seqI <| Sim.op1 (h_mv o_i) <|
 Sim.doneS <| Sim.ret (.one (res_t rfl))) (
 Sim.seqI <| Sim.op1 (h_mv (o_t rfl)) <|
 Sim.op (h_cmp (I := (IT.int .i64)) rfl (o_t rfl) o_i) fun x5 =>
 Sim.op1 (h_mv (o_t rfl)) <|
 Sim.doneS <| Sim.cond (o_t rfl) (
 Sim.seqI <| Sim.op1 (h_mv (o_t rfl)) <|
 Sim.op1 (h_mv (o_t rfl)) <|
 Sim.op (h_ixs (o_t rfl) o_i) fun x6 =>
 Sim.op (h_call1 sp_internal_stringslite_IndexByte (.cons (o_t rfl) <| .one (o_t rfl))) fun x7 =>
 Sim.op1 (h_mv (o_t rfl)) <|
 Sim.doneS <| Sim.ret (.one (res_t rfl))) (
 Sim.seqI <| Sim.op1 (h_mv (o_t rfl)) <|
 Sim.op1 (h_mv (o_t rfl)) <|
 Sim.op (h_lens (o_t rfl)) fun x8 =>
 Sim.op (h_cmp (I := (IT.int .i64)) rfl (o_t rfl) (o_t rfl)) fun x9 =>
 Sim.op1 (h_mv (o_t rfl)) <|
 Sim.doneS <| Sim.cond (o_t rfl) (
 Sim.seqI <| Sim.op1 (h_mv o_i) <|
 Sim.doneS <| Sim.ret (.one (res_t rfl))) (
 Sim.seqI <| Sim.op1 (h_mv (o_t rfl)) <|
 Sim.stop)))
theorem sp_internal_stringslite_Index : Spec tb fn_internal_stringslite_Index [T.str, T.str] [(T.int .i64)] (fun a => internal_stringslite_Index a.1 a.2) :=
  Spec.of f_internal_stringslite_Index rfl rfl rfl sim_internal_stringslite_Index

noncomputable def strings_Index (a0 : Str) (a1 : Str) : Option Int :=
 (internal_stringslite_Index a0 a1).bind fun x1 =>
 some x1
noncomputable def sim_strings_Index (a : Res [T.str, T.str]) : Sim tb ⟨argsT [T.str, T.str] 0 a, []⟩ c_strings_Index.body [] (QRes [(T.int .i64)] c_strings_Index.res) :=
 Sim.seqI <| Sim.op1 (h_mv o_i) <|
 Sim.doneS <| Sim.seqI <| Sim.op1 (h_mv (o_t rfl)) <|
 Sim.op1 (h_mv (o_t rfl)) <|
 Sim.op (h_call1 sp_internal_stringslite_Index (.cons (o_t rfl) <| .one (o_t rfl))) fun x1 =>
 Sim.op1 (h_mv (o_t rfl)) <|
 Sim.doneS <| Sim.ret (.one (res_t rfl))
theorem sp_strings_Index : Spec tb fn_strings_Index [T.str, T.str] [(T.int .i64)] (fun a => strings_Index a.1 a.2) :=
  Spec.of f_strings_Index rfl rfl rfl sim_strings_Index

noncomputable def strings_Count (a0 : Str) (a1 : Str) : Option Int :=
 if (decide ((a1.length : Int) = 0)) = true then
 (unicode_utf8_RuneCountInString a0).bind fun x3 =>
 some (IntKind.i64.wrap (x3 + 1))
 else
 if (decide ((a1.length : Int) = 1)) = true then
 (idx a1 0).bind fun x7 =>
 (internal_bytealg_CountString a0 x7).bind fun x8 =>
 some x8
 else
 (iter (fun (s9 : (Str × Int)) =>
 (strings_Index s9.1 a1).bind fun x11 =>
 if (decide (x11 = (-1))) = true then
 (some s9.2).map fun r => .inr (.inr r)
 else
 (subL s9.1 (some (IntKind.i64.wrap (x11 + (a1.length : Int)))) none).bind fun x16 =>
 some (.inl (x16, IntKind.i64.wrap (s9.2 + 1)))) (a0, 0)).bind (Sum.elim (fun _ : Empty => none) some)
noncomputable def sim_strings_Count (a : Res [T.str, T.str]) : Sim tb ⟨argsT [T.str, T.str] 0 a, []⟩ c_strings_Count.body [] (QRes [(T.int .i64)] c_strings_Count.res) :=
 Sim.seqI <| Sim.op1 (h_mv o_i) <|
 Sim.doneS <| Sim.seqI <| Sim.seqI <| Sim.op1 (h_mv (o_t rfl)) <|
 Sim.op (h_lens (o_t rfl)) fun x1 =>
 Sim.op (h_cmp (I := (IT.int .i64)) rfl (o_t rfl) o_i) fun x2 =>
 Sim.doneS <| Sim.cond (o_t rfl) (
 Sim.seqI <| Sim.op1 (h_mv (o_t rfl)) <|
 Sim.op (h_call1 sp_unicode_utf8_RuneCountInString (.one (o_t rfl))) fun x3 =>
 Sim.op (h_add (I := (IT.int .i64)) (o_t rfl) o_i) fun x4 =>
 Sim.op1 (h_mv (o_t rfl)) <|
 Sim.doneS <| Sim.ret (.one (res_t rfl))) (
 Sim.skip <| Sim.doneS <| Sim.seqI <| Sim.seqI <| Sim.op1 (h_mv (o_t rfl)) <|
 Sim.op (h_lens (o_t rfl)) fun x5 =>
 Sim.op (h_cmp (I := (IT.int .i64)) rfl (o_t rfl) o_i) fun x6 =>
 Sim.doneS <| Sim.cond (o_t rfl) (
 Sim.seqI <| Sim.op1 (h_mv (o_t rfl)) <|
 Sim.op1 (h_mv (o_t rfl)) <|
 Sim.op (h_ixs (o_t rfl) o_i) fun x7 =>
 Sim.op (h_call1 sp_internal_bytealg_CountString (.cons (o_t rfl) <| .one (o_t rfl))) fun x8 =>
 Sim.op1 (h_mv (o_t rfl)) <|
 Sim.doneS <| Sim.ret (.one (res_t rfl))) (
 Sim.skip <| Sim.doneS <| Sim.seqI <| Sim.op1 (h_mv o_i) <|
 Sim.doneS <| Sim.blkI <| Sim.loop (id := 0) (σ := (Str × Int)) (τ := Empty) (fun s9 => ⟨[(0, .val T.str s9.1), (1, .val T.str a.2), (5, .val (T.int .i64) s9.2)], []⟩) (fun p => p.elim) (a.1, 0) ⟨⟨⟨rfl, trivial⟩, ⟨⟨rfl, trivial⟩, ⟨⟨rfl, trivial⟩, trivial⟩⟩⟩, trivial⟩ (fun _ => rfl) (fun s9 =>
 Sim.blkI <| Sim.seqI <| Sim.op1 (h_mv (o_t rfl)) <|
 Sim.op1 (h_mv (o_t rfl)) <|
 Sim.op (h_call1 sp_strings_Index (.cons (o_t rfl) <| .one (o_t rfl))) fun x11 =>
 Sim.op1 (h_mv (o_t rfl)) <|
 Sim.doneS <| Sim.seqI <| Sim.seqI <| Sim.op1 (h_mv (o_t rfl)) <|
 Sim.op (h_cmp (I := (IT.int .i64)) rfl (o_t rfl) o_i) fun x12 =>
 Sim.doneS <| Sim.cond (o_t rfl) (
 Sim.seqI <| Sim.op1 (h_mv (o_t rfl)) <|
 Sim.op1 (h_mv (o_t rfl)) <|
 Sim.doneS <| Sim.outRet <| Sim.ret (.one (res_t rfl))) (
 Sim.skip <| Sim.doneS <| Sim.seqI <| Sim.op1 (h_mv (o_t rfl)) <|
 Sim.op (h_add (I := (IT.int .i64)) (o_t rfl) o_i) fun x13 =>
 Sim.op1 (h_mv (o_t rfl)) <|
 Sim.doneS <| Sim.op1 (h_mv (o_t rfl)) <|
 Sim.op1 (h_mv (o_t rfl)) <|
 Sim.op1 (h_mv (o_t rfl)) <|
 Sim.op (h_lens (o_t rfl)) fun x14 =>
 Sim.op (h_add (I := (IT.int .i64)) (o_t rfl) (o_t rfl)) fun x15 =>
 Sim.op (h_sls (o_t rfl) (.some (o_t rfl)) .none) fun x16 =>
 Sim.op1 (h_mv (o_t rfl)) <|
 Sim.doneB <| Sim.next (x16, x13) ⟨⟨⟨rfl, trivial⟩, ⟨⟨rfl, trivial⟩, ⟨⟨rfl, trivial⟩, trivial⟩⟩⟩, trivial⟩)) (fun _ => Sim.stop)))
theorem sp_strings_Count : Spec tb fn_strings_Count [T.str, T.str] [(T.int .i64)] (fun a => strings_Count a.1 a.2) :=
  Spec.of f_strings_Count rfl rfl rfl sim_strings_Count

noncomputable def strings_genSplit (a0 : Str) (a1 : Str) (a2 : Int) (a3 : Int) : Option (GS Str) :=
 if (decide (a3 = 0)) = true then
 some .nil
 else
 if (decide (a1 = [])) = true then
 (strings_explode a0 a3).bind fun x3 =>
 some x3
 else
 (fun (k6 : Int → Option _) => if (decide (a3 < 0)) = true then
 (strings_Count a0 a1).bind fun x29 =>
 k6 (IntKind.i64.wrap (x29 + 1))
 else
 k6 a3) fun p5 =>
 let x9 := if IntKind.i64.wrap ((a0.length : Int) + 1) < p5 then IntKind.i64.wrap ((a0.length : Int) + 1) else p5
 (mkG [] 16 x9 x9).bind fun x10 =>
 (iter (fun (s12 : (Str × Int × (GS Str))) =>
 if (decide (s12.2.1 < IntKind.i64.wrap (x9 - 1))) = true then
 (strings_Index s12.1 a1).bind fun x15 =>
 if (decide (x15 < 0)) = true then
 some (.inr (.inl (s12.1, s12.2.1, s12.2.2)))
 else
 (subL s12.1 none (some (IntKind.i64.wrap (x15 + a2)))).bind fun x18 =>
 (idxN s12.2.2.l.length s12.2.1).bind fun x19 =>
 (s12.2.2.l[x19]?.map fun y => s12.2.2.set x19 x18).bind fun x20 =>
 (subL s12.1 (some (IntKind.i64.wrap (x15 + (a1.length : Int)))) none).bind fun x23 =>
 some (.inl (x23, IntKind.i64.wrap (s12.2.1 + 1), x20))
 else
 some (.inr (.inl (s12.1, s12.2.1, s12.2.2)))) (a0, 0, x10)).bind (Sum.elim (fun (p13 : (Str × Int × (GS Str))) =>
 (idxN p13.2.2.l.length p13.2.1).bind fun x25 =>
 (p13.2.2.l[x25]?.map fun y => p13.2.2.set x25 p13.1).bind fun x26 =>
 (slG x26 none (some (IntKind.i64.wrap (p13.2.1 + 1)))).bind fun x28 =>
 some x28) some)
noncomputable def sim_strings_genSplit (a : Res [T.str, T.str, (T.int .i64), (T.int .i64)]) : Sim tb ⟨argsT [T.str, T.str, (T.int .i64), (T.int .i64)] 0 a, []⟩ c_strings_genSplit.body [] (QRes [(T.sl T.str)] c_strings_genSplit.res) :=
 Sim.seqI <| Sim.op1 (h_mv (o_nils (t := T.str))) <|
 Sim.doneS <| Sim.seqI <| Sim.seqI <| Sim.op1 (h_mv (o_t rfl)) <|
 Sim.op (h_cmp (I := (IT.int .i64)) rfl (o_t rfl) o_i) fun x1 =>
 Sim.doneS <| Sim.cond (o_t rfl) (
 Sim.seqI <| Sim.op1 (h_mv (o_nils (t := T.str))) <|
 Sim.doneS <| Sim.ret (.one (res_t rfl))) (
 Sim.skip <| Sim.doneS <| Sim.seqI <| Sim.seqI <| Sim.op1 (h_mv (o_t rfl)) <|
 Sim.op (h_seql (o_t rfl) o_s) fun x2 =>
 Sim.doneS <| Sim.cond (o_t rfl) (
 Sim.seqI <| Sim.op1 (h_mv (o_t rfl)) <|
 Sim.op1 (h_mv (o_t rfl)) <|
 Sim.op (h_call1 sp_strings_explode (.cons (o_t rfl) <| .one (o_t rfl))) fun x3 =>
 Sim.op1 (h_mv (o_t rfl)) <|
 Sim.doneS <| Sim.ret (.one (res_t rfl))) (
 Sim.skip <| Sim.doneS <| Sim.seqI <| Sim.seqI <| Sim.op1 (h_mv (o_t rfl)) <|
 Sim.op (h_cmp (I := (IT.int .i64)) rfl (o_t rfl) o_i) fun x4 =>
 Sim.doneS <| Sim.join (τ := Int) (fun p5 => ⟨[(0, .val T.str a.1), (1, .val T.str a.2.1), (2, .val (T.int .i64) a.2.2.1), (3, .val (T.int .i64) p5)], []⟩) (fun p5 =>
 Sim.doneS <| Sim.seqI <| Sim.op1 (h_mv (o_t rfl)) <|
 Sim.op1 (h_mv (o_t rfl)) <|
 Sim.op (h_lens (o_t rfl)) fun x7 =>
 Sim.op (h_add (I := (IT.int .i64)) (o_t rfl) o_i) fun x8 =>
 Sim.op (h_max (I := (IT.int .i64)) (mx := false) (o_t rfl) (o_t rfl)) fun x9 =>
 Sim.op1 (h_mv (o_t rfl)) <|
 Sim.doneS <| Sim.seqI <| Sim.op1 (h_mv (o_t rfl)) <|
 Sim.opM (M_mks (t := T.str) 1031 rfl rfl rfl (o_t rfl) (o_t rfl)) fun x10 =>
 Sim.op1 (h_mv (o_t rfl)) <|
 Sim.doneS <| Sim.seqI <| Sim.op1 (h_mv (o_t rfl)) <|
 Sim.op (h_sub (I := (IT.int .i64)) (o_t rfl) o_i) fun x11 =>
 Sim.op1 (h_mv (o_t rfl)) <|
 Sim.doneS <| Sim.seqI <| Sim.op1 (h_mv o_i) <|
 Sim.doneS <| Sim.seqI <| Sim.blkI <| Sim.loop (id := 0) (σ := (Str × Int × (GS Str))) (τ := (Str × Int × (GS Str))) (fun s12 => ⟨[(0, .val T.str s12.1), (1, .val T.str a.2.1), (2, .val (T.int .i64) a.2.2.1), (3, .val (T.int .i64) x11), (9, .own 1031), (10, .val (T.int .i64) s12.2.1)], [(1031, .row T.str s12.2.2)]⟩) (fun p13 => ⟨[(0, .val T.str p13.1), (9, .own 1031), (10, .val (T.int .i64) p13.2.1)], [(1031, .row T.str p13.2.2)]⟩) (a.1, 0, x10) ⟨⟨⟨rfl, trivial⟩, ⟨⟨rfl, trivial⟩, ⟨⟨rfl, trivial⟩, ⟨⟨rfl, trivial⟩, ⟨⟨rfl, trivial⟩, ⟨⟨rfl, trivial⟩, trivial⟩⟩⟩⟩⟩⟩, ⟨⟨rfl, trivial⟩, trivial⟩⟩ (fun _ => rfl) (fun s12 =>
 Sim.seqI <| Sim.seqI <| Sim.op1 (h_mv (o_t rfl)) <|
 Sim.op1 (h_mv (o_t rfl)) <|
 Sim.op (h_cmp (I := (IT.int .i64)) rfl (o_t rfl) (o_t rfl)) fun x14 =>
 Sim.doneS <| Sim.cond (o_t rfl) (
 Sim.skip <| Sim.doneS <| Sim.blkI <| Sim.seqI <| Sim.op1 (h_mv (o_t rfl)) <|
 Sim.op1 (h_mv (o_t rfl)) <|
 Sim.op (h_call1 sp_strings_Index (.cons (o_t rfl) <| .one (o_t rfl))) fun x15 =>
 Sim.op1 (h_mv (o_t rfl)) <|
 Sim.doneS <| Sim.seqI <| Sim.seqI <| Sim.op1 (h_mv (o_t rfl)) <|
 Sim.op (h_cmp (I := (IT.int .i64)) rfl (o_t rfl) o_i) fun x16 =>
 Sim.doneS <| Sim.cond (o_t rfl) (
 Sim.exitS <| Sim.exitO rfl <| Sim.out (s12.1, s12.2.1, s12.2.2) ⟨⟨⟨rfl, trivial⟩, ⟨⟨rfl, trivial⟩, ⟨⟨rfl, trivial⟩, trivial⟩⟩⟩, ⟨⟨rfl, trivial⟩, trivial⟩⟩) (
 Sim.skip <| Sim.doneS <| Sim.seqI <| Sim.op1 (h_mv (o_t rfl)) <|
 Sim.op1 (h_mv (o_t rfl)) <|
 Sim.op1 (h_mv (o_t rfl)) <|
 Sim.op1 (h_mv (o_t rfl)) <|
 Sim.op1 (h_mv (o_t rfl)) <|
 Sim.op (h_add (I := (IT.int .i64)) (o_t rfl) (o_t rfl)) fun x17 =>
 Sim.op (h_sls (o_t rfl) .none (.some (o_t rfl))) fun x18 =>
 Sim.op (h_iasO rfl (o_t rfl) rfl (o_t rfl)) fun x19 =>
 Sim.opM (M_stE (t := T.str) (u := T.str) rfl (Fld.id _) (o_t rfl) (o_t rfl) rfl) fun x20 =>
 Sim.doneS <| Sim.seqI <| Sim.op1 (h_mv (o_t rfl)) <|
 Sim.op1 (h_mv (o_t rfl)) <|
 Sim.op1 (h_mv (o_t rfl)) <|
 Sim.op (h_lens (o_t rfl)) fun x21 =>
 Sim.op (h_add (I := (IT.int .i64)) (o_t rfl) (o_t rfl)) fun x22 =>
 Sim.op (h_sls (o_t rfl) (.some (o_t rfl)) .none) fun x23 =>
 Sim.op1 (h_mv (o_t rfl)) <|
 Sim.doneS <| Sim.op1 (h_mv (o_t rfl)) <|
 Sim.op (h_add (I := (IT.int .i64)) (o_t rfl) o_i) fun x24 =>
 Sim.op1 (h_mv (o_t rfl)) <|
 Sim.doneB <| Sim.next (x23, x24, x20) ⟨⟨⟨rfl, trivial⟩, ⟨⟨rfl, trivial⟩, ⟨⟨rfl, trivial⟩, ⟨⟨rfl, trivial⟩, ⟨⟨rfl, trivial⟩, ⟨⟨rfl, trivial⟩, trivial⟩⟩⟩⟩⟩⟩, ⟨⟨rfl, trivial⟩, trivial⟩⟩)) (
 Sim.exitS <| Sim.out (s12.1, s12.2.1, s12.2.2) ⟨⟨⟨rfl, trivial⟩, ⟨⟨rfl, trivial⟩, ⟨⟨rfl, trivial⟩, trivial⟩⟩⟩, ⟨⟨rfl, trivial⟩, trivial⟩⟩)) (fun p13 =>
 Sim.exitB <| Sim.doneS <| Sim.seqI <| Sim.op1 (h_mv (o_t rfl)) <|
 Sim.op1 (h_mv (o_t rfl)) <|
 Sim.op1 (h_mv (o_t rfl)) <|
 Sim.op (h_iasO rfl (o_t rfl) rfl (o_t rfl)) fun x25 =>
 Sim.opM (M_stE (t := T.str) (u := T.str) rfl (Fld.id _) (o_t rfl) (o_t rfl) rfl) fun x26 =>
 Sim.doneS <| Sim.seqI <| Sim.op1 (h_mv (o_t rfl)) <|
 Sim.op1 (h_mv (o_t rfl)) <|
 Sim.op (h_add (I := (IT.int .i64)) (o_t rfl) o_i) fun x27 =>
 Sim.frzRow 1031 rfl rfl <| Sim.op (h_sll rfl (o_t rfl) .none (.some (o_t rfl))) fun x28 =>
 Sim.op1 (h_mv (o_t rfl)) <|
 Sim.doneS <| Sim.ret (.one (res_t rfl)))) fun k6 => Sim.cond (o_t rfl) (
 Sim.op1 (h_mv (o_t rfl)) <|
 Sim.op1 (h_mv (o_t rfl)) <|
 Sim.op (h_call1 sp_strings_Count (.cons (o_t rfl) <| .one (o_t rfl))) fun x29 =>
 Sim.op (h_add (I := (IT.int .i64)) (o_t rfl) o_i) fun x30 =>
 Sim.op1 (h_mv (o_t rfl)) <|
 Sim.weak (k6 x30) ⟨⟨⟨rfl, trivial⟩, ⟨⟨rfl, trivial⟩, ⟨⟨rfl, trivial⟩, ⟨⟨rfl, trivial⟩, trivial⟩⟩⟩⟩, trivial⟩) (
 Sim.skip <| Sim.weak (k6 a.2.2.2) ⟨⟨⟨rfl, trivial⟩, ⟨⟨rfl, trivial⟩, ⟨⟨rfl, trivial⟩, ⟨⟨rfl, trivial⟩, trivial⟩⟩⟩⟩, trivial⟩)))
theorem sp_strings_genSplit : Spec tb fn_strings_genSplit [T.str, T.str, (T.int .i64), (T.int .i64)] [(T.sl T.str)] (fun a => strings_genSplit a.1 a.2.1 a.2.2.1 a.2.2.2) :=
  Spec.of f_strings_genSplit rfl rfl rfl sim_strings_genSplit

noncomputable def strings_Split (a0 : Str) (a1 : Str) : Option (GS Str) :=
 (strings_genSplit a0 a1 0 (-1)).bind fun x1 =>
 some x1
noncomputable def sim_strings_Split (a : Res [T.str, T.str]) : Sim tb ⟨argsT [T.str, T.str] 0 a, []⟩ c_strings_Split.body [] (QRes [(T.sl T.str)] c_strings_Split.res) :=
 Sim.seqI <| Sim.op1 (h_mv (o_nils (t := T.str))) <|
 Sim.doneS <| Sim.seqI <| Sim.op1 (h_mv (o_t rfl)) <|
 Sim.op1 (h_mv (o_t rfl)) <|
 Sim.op (h_call1 sp_strings_genSplit (.cons (o_t rfl) <| .cons (o_t rfl) <| .cons o_i <| .one o_i)) fun x1 =>
 Sim.op1 (h_mv (o_t rfl)) <|
 Sim.doneS <| Sim.ret (.one (res_t rfl))
theorem sp_strings_Split : Spec tb fn_strings_Split [T.str, T.str] [(T.sl T.str)] (fun a => strings_Split a.1 a.2) :=
  Spec.of f_strings_Split rfl rfl rfl sim_strings_Split

noncomputable def lines_Loose (a0 : Str) : Option (GS Str) :=
 if (decide (a0 = [])) = true then
 some .nil
 else
 (strings_TrimSuffix a0 [10]).bind fun x2 =>
 (strings_Split x2 [10]).bind fun x3 =>
 some x3
noncomputable def sim_lines_Loose (a : Res [T.str]) : Sim tb ⟨argsT [T.str] 0 a, []⟩ c_lines_Loose.body [] (QRes [(T.sl T.str)] c_lines_Loose.res) :=
 Sim.seqI <| Sim.op1 (h_mv (o_nils (t := T.str))) <|
 Sim.doneS <| Sim.seqI <| Sim.seqI <| Sim.op1 (h_mv (o_t rfl)) <|
 Sim.op (h_seql (o_t rfl) o_s) fun x1 =>
 Sim.doneS <| Sim.cond (o_t rfl) (
 Sim.seqI <| Sim.op1 (h_mv (o_nils (t := T.str))) <|
 Sim.doneS <| Sim.ret (.one (res_t rfl))) (
 Sim.skip <| Sim.doneS <| Sim.seqI <| Sim.op1 (h_mv (o_t rfl)) <|
 Sim.op (h_call1 sp_strings_TrimSuffix (.cons (o_t rfl) <| .one o_s)) fun x2 =>
 Sim.op (h_call1 sp_strings_Split (.cons (o_t rfl) <| .one o_s)) fun x3 =>
 Sim.op1 (h_mv (o_t rfl)) <|
 Sim.doneS <| Sim.ret (.one (res_t rfl)))
theorem sp_lines_Loose : Spec tb fn_lines_Loose [T.str] [(T.sl T.str)] (fun a => lines_Loose a) :=
  Spec.of f_lines_Loose rfl rfl rfl sim_lines_Loose

noncomputable def lines_Split (a0 : Str) : Option ((GS Str) × Bool) :=
 (andO (!decide (a0 = [])) ((strings_HasSuffix a0 [10]).bind fun x2 =>
 some (!x2))).bind fun x4 =>
 if x4 = true then
 some (.nil, false)
 else
 (lines_Loose a0).bind fun x5 =>
 some (x5, true)
noncomputable def sim_lines_Split (a : Res [T.str]) : Sim tb ⟨argsT [T.str] 0 a, []⟩ c_lines_Split.body [] (QRes [(T.sl T.str), T.b] c_lines_Split.res) :=
 Sim.seqI <| Sim.op1 (h_mv (o_nils (t := T.str))) <|
 Sim.op1 (h_mv o_b) <|
 Sim.doneS <| Sim.seqI <| Sim.seqI <| Sim.op1 (h_mv (o_t rfl)) <|
 Sim.op (h_sneq (o_t rfl) o_s) fun x1 =>
 Sim.op1 (h_mv (o_t rfl)) <|
 Sim.and 3 rfl rfl rfl (Grp.op1 (h_mv (o_t rfl)) <|
 Grp.op (h_call1 sp_strings_HasSuffix (.cons (o_t rfl) <| .one o_s)) fun x2 =>
 Grp.op (h_not (o_t rfl)) fun x3 =>
 Grp.nil (o_t rfl)) fun x4 =>
 Sim.doneS <| Sim.cond (o_t rfl) (
 Sim.seqI <| Sim.op1 (h_mv (o_nils (t := T.str))) <|
 Sim.op1 (h_mv o_b) <|
 Sim.doneS <| Sim.ret (.cons (res_t rfl) <| .one (res_t rfl))) (
 Sim.skip <| Sim.doneS <| Sim.seqI <| Sim.op1 (h_mv (o_t rfl)) <|
 Sim.op (h_call1 sp_lines_Loose (.one (o_t rfl))) fun x5 =>
 Sim.op1 (h_mv (o_t rfl)) <|
 Sim.op1 (h_mv o_b) <|
 Sim.doneS <| Sim.ret (.cons (res_t rfl) <| .one (res_t rfl)))
theorem sp_lines_Split : Spec tb fn_lines_Split [T.str] [(T.sl T.str), T.b] (fun a => lines_Split a) :=
  Spec.of f_lines_Split rfl rfl rfl sim_lines_Split

noncomputable def r06_Same (a0 : (GS Str)) (a1 : (GS Str)) : Option Bool :=
 let x3 := !decide ((a0.l.length : Int) = (a1.l.length : Int))
 if x3 = true then
 some false
 else
 (iter (fun (s4 : Int) =>
 if (decide (s4 < (a0.l.length : Int))) = true then
 (idx a0.l s4).bind fun x8 =>
 (idx a1.l s4).bind fun x10 =>
 if (!decide (x8 = x10)) = true then
 (some false).map fun r => .inr (.inr r)
 else
 some (.inl (IntKind.i64.wrap (s4 + 1)))
 else
 some (.inr (.inl ()))) 0).bind (Sum.elim (fun (p5 : Unit) =>
 some true) some)
noncomputable def sim_r06_Same (a : Res [(T.sl T.str), (T.sl T.str)]) : Sim tb ⟨argsT [(T.sl T.str), (T.sl T.str)] 0 a, []⟩ c_r06_Same.body [] (QRes [T.b] c_r06_Same.res) :=
 Sim.seqI <| Sim.op1 (h_mv o_b) <|
 Sim.doneS <| Sim.seqI <| Sim.seqI <| Sim.op1 (h_mv (o_t rfl)) <|
 Sim.op (h_len (o_t rfl)) fun x1 =>
 Sim.op1 (h_mv (o_t rfl)) <|
 Sim.op (h_len (o_t rfl)) fun x2 =>
 Sim.op (h_cmp (I := (IT.int .i64)) rfl (o_t rfl) (o_t rfl)) fun x3 =>
 Sim.doneS <| Sim.cond (o_t rfl) (
 Sim.seqI <| Sim.op1 (h_mv o_b) <|
 Sim.doneS <| Sim.ret (.one (res_t rfl))) (
 Sim.skip <| Sim.doneS <| Sim.seqI <| Sim.seqI <| Sim.op1 (h_mv o_i) <|
 Sim.doneS <| Sim.blkI <| Sim.loop (id := 0) (σ := Int) (τ := Unit) (fun s4 => ⟨[(0, .val (T.sl T.str) a.1), (1, .val (T.sl T.str) a.2), (5, .val (T.int .i64) s4)], []⟩) (fun p5 => ⟨[], []⟩) 0 ⟨⟨⟨rfl, trivial⟩, ⟨⟨rfl, trivial⟩, ⟨⟨rfl, trivial⟩, trivial⟩⟩⟩, trivial⟩ (fun _ => rfl) (fun s4 =>
 Sim.seqI <| Sim.seqI <| Sim.op1 (h_mv (o_t rfl)) <|
 Sim.op1 (h_mv (o_t rfl)) <|
 Sim.op (h_len (o_t rfl)) fun x6 =>
 Sim.op (h_cmp (I := (IT.int .i64)) rfl (o_t rfl) (o_t rfl)) fun x7 =>
 Sim.doneS <| Sim.cond (o_t rfl) (
 Sim.skip <| Sim.doneS <| Sim.seqI <| Sim.blkI <| Sim.seqI <| Sim.op1 (h_mv (o_t rfl)) <|
 Sim.op1 (h_mv (o_t rfl)) <|
 Sim.op (h_ias rfl (o_t rfl) (o_t rfl)) fun x8 =>
 Sim.opn (h_ld rfl rfl (o_t rfl)) fun x9 =>
 Sim.op1 (h_mv (o_t rfl)) <|
 Sim.op1 (h_mv (o_t rfl)) <|
 Sim.op (h_ias rfl (o_t rfl) (o_t rfl)) fun x10 =>
 Sim.opn (h_ld rfl rfl (o_t rfl)) fun x11 =>
 Sim.op (h_sneq (o_t rfl) (o_t rfl)) fun x12 =>
 Sim.doneS <| Sim.cond (o_t rfl) (
 Sim.seqI <| Sim.op1 (h_mv o_b) <|
 Sim.doneS <| Sim.outRet <| Sim.ret (.one (res_t rfl))) (
 Sim.skip <| Sim.doneB <| Sim.doneS <| Sim.op1 (h_mv (o_t rfl)) <|
 Sim.op (h_add (I := (IT.int .i64)) (o_t rfl) o_i) fun x13 =>
 Sim.op1 (h_mv (o_t rfl)) <|
 Sim.next x13 ⟨⟨⟨rfl, trivial⟩, ⟨⟨rfl, trivial⟩, ⟨⟨rfl, trivial⟩, trivial⟩⟩⟩, trivial⟩)) (
 Sim.exitS <| Sim.out () ⟨trivial, trivial⟩)) (fun p5 =>
 Sim.exitB <| Sim.doneS <| Sim.seqI <| Sim.op1 (h_mv o_b) <|
 Sim.doneS <| Sim.ret (.one (res_t rfl))))
theorem sp_r06_Same : Spec tb fn_r06_Same [(T.sl T.str), (T.sl T.str)] [T.b] (fun a => r06_Same a.1 a.2) :=
  Spec.of f_r06_Same rfl rfl rfl sim_r06_Same

noncomputable def strings_IndexByte (a0 : Str) (a1 : UInt8) : Option Int :=
 (internal_stringslite_IndexByte a0 a1).bind fun x1 =>
 some x1
noncomputable def sim_strings_IndexByte (a : Res [T.str, T.u8]) : Sim tb ⟨argsT [T.str, T.u8] 0 a, []⟩ c_strings_IndexByte.body [] (QRes [(T.int .i64)] c_strings_IndexByte.res) :=
 Sim.seqI <| Sim.op1 (h_mv o_i) <|
 Sim.doneS <| Sim.seqI <| Sim.op1 (h_mv (o_t rfl)) <|
 Sim.op1 (h_mv (o_t rfl)) <|
 Sim.op (h_call1 sp_internal_stringslite_IndexByte (.cons (o_t rfl) <| .one (o_t rfl))) fun x1 =>
 Sim.op1 (h_mv (o_t rfl)) <|
 Sim.doneS <| Sim.ret (.one (res_t rfl))
theorem sp_strings_IndexByte : Spec tb fn_strings_IndexByte [T.str, T.u8] [(T.int .i64)] (fun a => strings_IndexByte a.1 a.2) :=
  Spec.of f_strings_IndexByte rfl rfl rfl sim_strings_IndexByte

noncomputable def lines_Cut (a0 : Str) (a1 : UInt8) : Option (Str × Str × Bool) :=
 (strings_IndexByte a0 a1).bind fun x1 =>
 if (decide (x1 < 0)) = true then
 some (a0, [], false)
 else
 (subL a0 none (some x1)).bind fun x3 =>
 (subL a0 (some (IntKind.i64.wrap (x1 + 1))) none).bind fun x5 =>
 some (x3, x5, true)
noncomputable def sim_lines_Cut (a : Res [T.str, T.u8]) : Sim tb ⟨argsT [T.str, T.u8] 0 a, []⟩ c_lines_Cut.body [] (QRes [T.str, T.str, T.b] c_lines_Cut.res) :=
 Sim.seqI <| Sim.op1 (h_mv o_s) <|
 Sim.op1 (h_mv o_s) <|
 Sim.op1 (h_mv o_b) <|
 Sim.doneS <| Sim.seqI <| Sim.op1 (h_mv (o_t rfl)) <|
 Sim.op1 (h_mv (o_t rfl)) <|
 Sim.op (h_call1 sp_strings_IndexByte (.cons (o_t rfl) <| .one (o_t rfl))) fun x1 =>
 Sim.op1 (h_mv (o_t rfl)) <|
 Sim.doneS <| Sim.seqI <| Sim.seqI <| Sim.op1 (h_mv (o_t rfl)) <|
 Sim.op (h_cmp (I := (IT.int .i64)) rfl (o_t rfl) o_i) fun x2 =>
 Sim.doneS <| Sim.cond (o_t rfl) (
 Sim.seqI <| Sim.op1 (h_mv (o_t rfl)) <|
 Sim.op1 (h_mv (o_t rfl)) <|
 Sim.op1 (h_mv o_s) <|
 Sim.op1 (h_mv o_b) <|
 Sim.doneS <| Sim.ret (.cons (res_t rfl) <| .cons (res_t rfl) <| .one (res_t rfl))) (
 Sim.skip <| Sim.doneS <| Sim.seqI <| Sim.op1 (h_mv (o_t rfl)) <|
 Sim.op1 (h_mv (o_t rfl)) <|
 Sim.op (h_sls (o_t rfl) .none (.some (o_t rfl))) fun x3 =>
 Sim.op1 (h_mv (o_t rfl)) <|
 Sim.op1 (h_mv (o_t rfl)) <|
 Sim.op (h_add (I := (IT.int .i64)) (o_t rfl) o_i) fun x4 =>
 Sim.op (h_sls (o_t rfl) (.some (o_t rfl)) .none) fun x5 =>
 Sim.op1 (h_mv (o_t rfl)) <|
 Sim.op1 (h_mv (o_t rfl)) <|
 Sim.op1 (h_mv o_b) <|
 Sim.doneS <| Sim.ret (.cons (res_t rfl) <| .cons (res_t rfl) <| .one (res_t rfl)))
theorem sp_lines_Cut : Spec tb fn_lines_Cut [T.str, T.u8] [T.str, T.str, T.b] (fun a => lines_Cut a.1 a.2) :=
  Spec.of f_lines_Cut rfl rfl rfl sim_lines_Cut

noncomputable def lines_Parts (a0 : Str) (a1 : UInt8) : Option (GS Str) :=
 (iter (fun (s1 : (Str × (GS Str))) =>
 (lines_Cut s1.1 a1).bind fun x3 =>
 (apG 16 s1.2 [x3.1]).bind fun x8 =>
 if (!x3.2.2) = true then
 (some x8).map fun r => .inr (.inr r)
 else
 some (.inl (x3.2.1, x8))) (a0, .nil)).bind (Sum.elim (fun _ : Empty => none) some)
noncomputable def sim_lines_Parts (a : Res [T.str, T.u8]) : Sim tb ⟨argsT [T.str, T.u8] 0 a, []⟩ c_lines_Parts.body [] (QRes [(T.sl T.str)] c_lines_Parts.res) :=
 Sim.seqI <| Sim.op1 (h_mv (o_nils (t := T.str))) <| Sim.turn (born (n := 4) (j := 1004) rfl rfl) <|
 Sim.doneS <| Sim.seqI <| Sim.op1 (h_mv (o_nils (t := T.str))) <| Sim.turn (born (n := 5) (j := 1005) rfl rfl) <|
 Sim.doneS <| Sim.blkI <| Sim.loop (id := 0) (σ := (Str × (GS Str))) (τ := Empty) (fun s1 => ⟨[(0, .val T.str s1.1), (1, .val T.u8 a.2), (5, .own 1005)], [(1005, .row T.str s1.2)]⟩) (fun p => p.elim) (a.1, .nil) ⟨⟨⟨rfl, trivial⟩, ⟨⟨rfl, trivial⟩, ⟨⟨rfl, trivial⟩, trivial⟩⟩⟩, ⟨⟨rfl, trivial⟩, trivial⟩⟩ (fun _ => rfl) (fun s1 =>
 Sim.blkI <| Sim.seqI <| Sim.op1 (h_mv (o_t rfl)) <|
 Sim.op1 (h_mv (o_t rfl)) <|
 Sim.op (h_callN sp_lines_Cut (.cons (o_t rfl) <| .one (o_t rfl))) fun x3 =>
 Sim.op1 (h_mv (o_t rfl)) <|
 Sim.opn (h_ext (o_t rfl) rfl) fun x4 =>
 Sim.opn (h_ext (o_t rfl) rfl) fun x5 =>
 Sim.opn (h_ext (o_t rfl) rfl) fun x6 =>
 Sim.op1 (h_mv (o_t rfl)) <|
 Sim.op1 (h_mv (o_t rfl)) <|
 Sim.op1 (h_mv (o_t rfl)) <|
 Sim.doneS <| Sim.seqI <| Sim.op1 (h_mv (o_t rfl)) <|
 Sim.op1 (h_mv (o_t rfl)) <|
 Sim.op (h_bll (t := T.str) (n := 1) rfl rfl (.cons rfl (o_t rfl) <| .nil _)) fun x7 =>
 Sim.opM (M_app rfl (o_t rfl) rfl (n_sl (o_t rfl))) fun x8 =>
 Sim.op1 (h_mv (o_t rfl)) <|
 Sim.doneS <| Sim.seqI <| Sim.seqI <| Sim.op1 (h_mv (o_t rfl)) <|
 Sim.op (h_not (o_t rfl)) fun x9 =>
 Sim.doneS <| Sim.cond (o_t rfl) (
 Sim.seqI <| Sim.op1 (h_mv (o_t rfl)) <|
 Sim.op1 (h_mv (o_t rfl)) <|
 Sim.doneS <| Sim.outRet <| Sim.frzRow 1005 rfl rfl <| Sim.ret (.one (res_t rfl))) (
 Sim.skip <| Sim.doneS <| Sim.op1 (h_mv (o_t rfl)) <|
 Sim.op1 (h_mv (o_t rfl)) <|
 Sim.doneB <| Sim.next (x5, x8) ⟨⟨⟨rfl, trivial⟩, ⟨⟨rfl, trivial⟩, ⟨⟨rfl, trivial⟩, trivial⟩⟩⟩, ⟨⟨rfl, trivial⟩, trivial⟩⟩)) (fun _ => Sim.stop)
theorem sp_lines_Parts : Spec tb fn_lines_Parts [T.str, T.u8] [(T.sl T.str)] (fun a => lines_Parts a.1 a.2) :=
  Spec.of f_lines_Parts rfl rfl rfl sim_lines_Parts

noncomputable def l06_alive (_ : Unit) : Option Bool :=
 (lines_Split [97, 10, 10]).bind fun x1 =>
 (andO x1.2 ((r06_Same x1.1 (GS.mk [[97], []])).bind fun x5 =>
 some x5)).bind fun x6 =>
 (andO x6 ((lines_Loose [97, 10, 98]).bind fun x7 =>
 (r06_Same x7 (GS.mk [[97], [98]])).bind fun x9 =>
 some x9)).bind fun x10 =>
 (andO x10 ((lines_Parts [97, 44, 44, 98] (44 : UInt8)).bind fun x11 =>
 some (decide ((x11.l.length : Int) = 3)))).bind fun x14 =>
 some x14
noncomputable def sim_l06_alive (a : Res []) : Sim tb ⟨argsT [] 0 a, []⟩ c_l06_alive.body [] (QRes [T.b] c_l06_alive.res) :=
 Sim.seqI <| Sim.op1 (h_mv o_b) <|
 Sim.doneS <| Sim.seqI <| Sim.op (h_callN sp_lines_Split (.one o_s)) fun x1 =>
 Sim.op1 (h_mv (o_t rfl)) <|
 Sim.opn (h_ext (o_t rfl) rfl) fun x2 =>
 Sim.opn (h_ext (o_t rfl) rfl) fun x3 =>
 Sim.op1 (h_mv (o_t rfl)) <|
 Sim.op1 (h_mv (o_t rfl)) <|
 Sim.doneS <| Sim.seqI <| Sim.op1 (h_mv (o_t rfl)) <|
 Sim.op1 (h_mv (o_t rfl)) <|
 Sim.and 3 rfl rfl rfl (Grp.op1 (h_mv (o_t rfl)) <|
 Grp.op (h_bll (t := T.str) (n := 2) rfl rfl (.cons rfl o_s <| .cons rfl o_s <| .nil _)) fun x4 =>
 Grp.op (h_call1 sp_r06_Same (.cons (o_t rfl) <| .one (o_t rfl))) fun x5 =>
 Grp.nil (o_t rfl)) fun x6 =>
 Sim.op1 (h_mv (o_t rfl)) <|
 Sim.and 3 rfl rfl rfl (Grp.op (h_call1 sp_lines_Loose (.one o_s)) fun x7 =>
 Grp.op (h_bll (t := T.str) (n := 2) rfl rfl (.cons rfl o_s <| .cons rfl o_s <| .nil _)) fun x8 =>
 Grp.op (h_call1 sp_r06_Same (.cons (o_t rfl) <| .one (o_t rfl))) fun x9 =>
 Grp.nil (o_t rfl)) fun x10 =>
 Sim.op1 (h_mv (o_t rfl)) <|
 Sim.and 3 rfl rfl rfl (Grp.op (h_call1 sp_lines_Parts (.cons o_s <| .one (o_u8 44 rfl))) fun x11 =>
 Grp.op (h_len (o_t rfl)) fun x12 =>
 Grp.op (h_cmp (I := (IT.int .i64)) rfl (o_t rfl) o_i) fun x13 =>
 Grp.nil (o_t rfl)) fun x14 =>
 Sim.op1 (h_mv (o_t rfl)) <|
 Sim.doneS <| Sim.ret (.one (res_t rfl))
theorem sp_l06_alive : Spec tb fn_l06_alive [] [T.b] (fun a => l06_alive ()) :=
  Spec.of f_l06_alive rfl rfl rfl sim_l06_alive

noncomputable def r06_Parts (a0 : Str) (a1 : UInt8) : Option (GS Str) :=
 (iter (fun (s1 : (Int × Int × (GS Str))) =>
 if (decide (s1.2.1 < (a0.length : Int))) = true then
 (idx a0 s1.2.1).bind fun x5 =>
 if (decide ((x5.toNat : Int) = (a1.toNat : Int))) = true then
 (subL a0 (some s1.1) (some s1.2.1)).bind fun x7 =>
 (apG 16 s1.2.2 [x7]).bind fun x9 =>
 some (.inl (IntKind.i64.wrap (s1.2.1 + 1), IntKind.i64.wrap (s1.2.1 + 1), x9))
 else
 some (.inl (s1.1, IntKind.i64.wrap (s1.2.1 + 1), s1.2.2))
 else
 some (.inr (.inl (s1.1, s1.2.2)))) (0, 0, .nil)).bind (Sum.elim (fun (p2 : (Int × (GS Str))) =>
 (subL a0 (some p2.1) none).bind fun x13 =>
 (apG 16 p2.2 [x13]).bind fun x15 =>
 some x15) some)
noncomputable def sim_r06_Parts (a : Res [T.str, T.u8]) : Sim tb ⟨argsT [T.str, T.u8] 0 a, []⟩ c_r06_Parts.body [] (QRes [(T.sl T.str)] c_r06_Parts.res) :=
 Sim.seqI <| Sim.op1 (h_mv (o_nils (t := T.str))) <| Sim.turn (born (n := 4) (j := 1004) rfl rfl) <|
 Sim.doneS <| Sim.seqI <| Sim.op1 (h_mv o_i) <|
 Sim.doneS <| Sim.seqI <| Sim.op1 (h_mv (o_nils (t := T.str))) <| Sim.turn (born (n := 6) (j := 1006) rfl rfl) <|
 Sim.doneS <| Sim.seqI <| Sim.seqI <| Sim.op1 (h_mv o_i) <|
 Sim.doneS <| Sim.blkI <| Sim.loop (id := 0) (σ := (Int × Int × (GS Str))) (τ := (Int × (GS Str))) (fun s1 => ⟨[(0, .val T.str a.1), (1, .val T.u8 a.2), (5, .val (T.int .i64) s1.1), (6, .own 1006), (7, .val (T.int .i64) s1.2.1)], [(1006, .row T.str s1.2.2)]⟩) (fun p2 => ⟨[(0, .val T.str a.1), (5, .val (T.int .i64) p2.1), (6, .own 1006)], [(1006, .row T.str p2.2)]⟩) (0, 0, .nil) ⟨⟨⟨rfl, trivial⟩, ⟨⟨rfl, trivial⟩, ⟨⟨rfl, trivial⟩, ⟨⟨rfl, trivial⟩, ⟨⟨rfl, trivial⟩, trivial⟩⟩⟩⟩⟩, ⟨⟨rfl, trivial⟩, trivial⟩⟩ (fun _ => rfl) (fun s1 =>
 Sim.seqI <| Sim.seqI <| Sim.op1 (h_mv (o_t rfl)) <|
 Sim.op1 (h_mv (o_t rfl)) <|
 Sim.op (h_lens (o_t rfl)) fun x3 =>
 Sim.op (h_cmp (I := (IT.int .i64)) rfl (o_t rfl) (o_t rfl)) fun x4 =>
 Sim.doneS <| Sim.cond (o_t rfl) (
 Sim.skip <| Sim.doneS <| Sim.seqI <| Sim.blkI <| Sim.seqI <| Sim.op1 (h_mv (o_t rfl)) <|
 Sim.op1 (h_mv (o_t rfl)) <|
 Sim.op (h_ixs (o_t rfl) (o_t rfl)) fun x5 =>
 Sim.op1 (h_mv (o_t rfl)) <|
 Sim.op (h_cmp (I := IT.u8) rfl (o_t rfl) (o_t rfl)) fun x6 =>
 Sim.doneS <| Sim.cond (o_t rfl) (
 Sim.seqI <| Sim.op1 (h_mv (o_t rfl)) <|
 Sim.op1 (h_mv (o_t rfl)) <|
 Sim.op1 (h_mv (o_t rfl)) <|
 Sim.op1 (h_mv (o_t rfl)) <|
 Sim.op (h_sls (o_t rfl) (.some (o_t rfl)) (.some (o_t rfl))) fun x7 =>
 Sim.op (h_bll (t := T.str) (n := 1) rfl rfl (.cons rfl (o_t rfl) <| .nil _)) fun x8 =>
 Sim.opM (M_app rfl (o_t rfl) rfl (n_sl (o_t rfl))) fun x9 =>
 Sim.op1 (h_mv (o_t rfl)) <|
 Sim.doneS <| Sim.op1 (h_mv (o_t rfl)) <|
 Sim.op (h_add (I := (IT.int .i64)) (o_t rfl) o_i) fun x10 =>
 Sim.op1 (h_mv (o_t rfl)) <|
 Sim.doneB <| Sim.doneS <| Sim.op1 (h_mv (o_t rfl)) <|
 Sim.op (h_add (I := (IT.int .i64)) (o_t rfl) o_i) fun x11 =>
 Sim.op1 (h_mv (o_t rfl)) <|
 Sim.next (x10, x11, x9) ⟨⟨⟨rfl, trivial⟩, ⟨⟨rfl, trivial⟩, ⟨⟨rfl, trivial⟩, ⟨⟨rfl, trivial⟩, ⟨⟨rfl, trivial⟩, trivial⟩⟩⟩⟩⟩, ⟨⟨rfl, trivial⟩, trivial⟩⟩) (
 Sim.skip <| Sim.doneB <| Sim.doneS <| Sim.op1 (h_mv (o_t rfl)) <|
 Sim.op (h_add (I := (IT.int .i64)) (o_t rfl) o_i) fun x12 =>
 Sim.op1 (h_mv (o_t rfl)) <|
 Sim.next (s1.1, x12, s1.2.2) ⟨⟨⟨rfl, trivial⟩, ⟨⟨rfl, trivial⟩, ⟨⟨rfl, trivial⟩, ⟨⟨rfl, trivial⟩, ⟨⟨rfl, trivial⟩, trivial⟩⟩⟩⟩⟩, ⟨⟨rfl, trivial⟩, trivial⟩⟩)) (
 Sim.exitS <| Sim.out (s1.1, s1.2.2) ⟨⟨⟨rfl, trivial⟩, ⟨⟨rfl, trivial⟩, ⟨⟨rfl, trivial⟩, trivial⟩⟩⟩, ⟨⟨rfl, trivial⟩, trivial⟩⟩)) (fun p2 =>
 Sim.exitB <| Sim.doneS <| Sim.seqI <| Sim.op1 (h_mv (o_t rfl)) <|
 Sim.op1 (h_mv (o_t rfl)) <|
 Sim.op1 (h_mv (o_t rfl)) <|
 Sim.op (h_sls (o_t rfl) (.some (o_t rfl)) .none) fun x13 =>
 Sim.op (h_bll (t := T.str) (n := 1) rfl rfl (.cons rfl (o_t rfl) <| .nil _)) fun x14 =>
 Sim.opM (M_app rfl (o_t rfl) rfl (n_sl (o_t rfl))) fun x15 =>
 Sim.op1 (h_mv (o_t rfl)) <|
 Sim.doneS <| Sim.frzRow 1006 rfl rfl <| Sim.ret (.one (res_t rfl)))
theorem sp_r06_Parts : Spec tb fn_r06_Parts [T.str, T.u8] [(T.sl T.str)] (fun a => r06_Parts a.1 a.2) :=
  Spec.of f_r06_Parts rfl rfl rfl sim_r06_Parts

noncomputable def r06_Loose (a0 : Str) : Option (GS Str) :=
 (r06_Parts a0 (10 : UInt8)).bind fun x1 =>
 (idx x1.l (IntKind.i64.wrap ((x1.l.length : Int) - 1))).bind fun x4 =>
 if (decide (x4 = [])) = true then
 (slG x1 none (some (IntKind.i64.wrap ((x1.l.length : Int) - 1)))).bind fun x9 =>
 some x9
 else
 some x1
noncomputable def sim_r06_Loose (a : Res [T.str]) : Sim tb ⟨argsT [T.str] 0 a, []⟩ c_r06_Loose.body [] (QRes [(T.sl T.str)] c_r06_Loose.res) :=
 Sim.seqI <| Sim.op1 (h_mv (o_nils (t := T.str))) <|
 Sim.doneS <| Sim.seqI <| Sim.op1 (h_mv (o_t rfl)) <|
 Sim.op (h_call1 sp_r06_Parts (.cons (o_t rfl) <| .one (o_u8 10 rfl))) fun x1 =>
 Sim.op1 (h_mv (o_t rfl)) <|
 Sim.doneS <| Sim.seqI <| Sim.seqI <| Sim.op1 (h_mv (o_t rfl)) <|
 Sim.op1 (h_mv (o_t rfl)) <|
 Sim.op (h_len (o_t rfl)) fun x2 =>
 Sim.op (h_sub (I := (IT.int .i64)) (o_t rfl) o_i) fun x3 =>
 Sim.op (h_ias rfl (o_t rfl) (o_t rfl)) fun x4 =>
 Sim.opn (h_ld rfl rfl (o_t rfl)) fun x5 =>
 Sim.op (h_seql (o_t rfl) o_s) fun x6 =>
 Sim.doneS <| Sim.cond (o_t rfl) (
 Sim.seqI <| Sim.op1 (h_mv (o_t rfl)) <|
 Sim.op1 (h_mv (o_t rfl)) <|
 Sim.op (h_len (o_t rfl)) fun x7 =>
 Sim.op (h_sub (I := (IT.int .i64)) (o_t rfl) o_i) fun x8 =>
 Sim.op (h_sll rfl (o_t rfl) .none (.some (o_t rfl))) fun x9 =>
 Sim.op1 (h_mv (o_t rfl)) <|
 Sim.doneS <| Sim.ret (.one (res_t rfl))) (
 Sim.skip <| Sim.doneS <| Sim.seqI <| Sim.op1 (h_mv (o_t rfl)) <|
 Sim.op1 (h_mv (o_t rfl)) <|
 Sim.doneS <| Sim.ret (.one (res_t rfl)))
theorem sp_r06_Loose : Spec tb fn_r06_Loose [T.str] [(T.sl T.str)] (fun a => r06_Loose a) :=
  Spec.of f_r06_Loose rfl rfl rfl sim_r06_Loose

noncomputable def lines_Join (a0 : (GS Str)) : Option Str :=
 (iter (fun (s3 : (Int × Str)) =>
 if (decide (s3.1 < (a0.l.length : Int))) = true then
 (idx a0.l s3.1).bind fun x6 =>
 (bldG s3.2 x6).bind fun x8 =>
 (bldG x8 [10]).bind fun x9 =>
 some (.inl (IntKind.i64.wrap (s3.1 + 1), x9))
 else
 some (.inr (.inl s3.2))) (0, [])).bind (Sum.elim (fun (p4 : Str) =>
 (bldT false p4).bind fun x11 =>
 some x11) some)
noncomputable def sim_lines_Join (a : Res [(T.sl T.str)]) : Sim tb ⟨argsT [(T.sl T.str)] 0 a, []⟩ c_lines_Join.body [] (QRes [T.str] c_lines_Join.res) :=
 Sim.seqI <| Sim.op1 (h_mv o_s) <|
 Sim.doneS <| Sim.seqI <| Sim.opM (M_bldA 3 5 rfl rfl) fun x1 =>
 Sim.doneS <| Sim.seqI <| Sim.seqI <| Sim.op1 (h_mv (o_t rfl)) <|
 Sim.op (h_len (o_t rfl)) fun x2 =>
 Sim.op1 (h_mv o_i) <|
 Sim.doneS <| Sim.blkI <| Sim.loop (id := 0) (σ := (Int × Str)) (τ := Str) (fun s3 => ⟨[(3, .own 3), (6, .val (T.sl T.str) a), (7, .val (T.int .i64) x2), (8, .val (T.int .i64) s3.1)], [(3, .dom (DBld 65 5 false) s3.2)]⟩) (fun p4 => ⟨[(3, .own 3)], [(3, .dom (DBld 65 5 false) p4)]⟩) (0, x1) ⟨⟨⟨rfl, trivial⟩, ⟨⟨rfl, trivial⟩, ⟨⟨rfl, trivial⟩, ⟨⟨rfl, trivial⟩, trivial⟩⟩⟩⟩, ⟨⟨rfl, trivial⟩, trivial⟩⟩ (fun _ => rfl) (fun s3 =>
 Sim.seqI <| Sim.op (h_cmp (I := (IT.int .i64)) rfl (o_t rfl) (o_t rfl)) fun x5 =>
 Sim.doneS <| Sim.seqI <| Sim.cond (o_t rfl) (
 Sim.skip <| Sim.doneS <| Sim.seqI <| Sim.blkI <| Sim.seqI <| Sim.op (h_ias rfl (o_t rfl) (o_t rfl)) fun x6 =>
 Sim.opn (h_ld rfl rfl (o_t rfl)) fun x7 =>
 Sim.op1 (h_mv (o_t rfl)) <|
 Sim.doneS <| Sim.seqI <| Sim.op1 (h_mv (o_t rfl)) <|
 Sim.opM (M_bldW f_p_strings_Builder_copyCheck rfl f_p_strings_Builder_WriteString (o_t rfl) rfl (o_t rfl)) fun x8 =>
 Sim.doneS <| Sim.opM (M_bldW f_p_strings_Builder_copyCheck rfl f_p_strings_Builder_WriteString (o_t rfl) rfl o_s) fun x9 =>
 Sim.doneB <| Sim.doneS <| Sim.op (h_add (I := (IT.int .i64)) (o_t rfl) o_i) fun x10 =>
 Sim.op1 (h_mv (o_t rfl)) <|
 Sim.next (x10, x9) ⟨⟨⟨rfl, trivial⟩, ⟨⟨rfl, trivial⟩, ⟨⟨rfl, trivial⟩, ⟨⟨rfl, trivial⟩, trivial⟩⟩⟩⟩, ⟨⟨rfl, trivial⟩, trivial⟩⟩) (
 Sim.exitS <| Sim.out s3.2 ⟨⟨⟨rfl, trivial⟩, trivial⟩, ⟨⟨rfl, trivial⟩, trivial⟩⟩)) (fun p4 =>
 Sim.exitB <| Sim.doneS <| Sim.seqI <| Sim.opM (M_bldS f_p_strings_Builder_String (o_t rfl) rfl) fun x11 =>
 Sim.op1 (h_mv (o_t rfl)) <|
 Sim.doneS <| Sim.ret (.one (res_t rfl)))
theorem sp_lines_Join : Spec tb fn_lines_Join [(T.sl T.str)] [T.str] (fun a => lines_Join a) :=
  Spec.of f_lines_Join rfl rfl rfl sim_lines_Join

noncomputable def l06_LinesSplit (a0 : Str) : Option Bool :=
 if (decide (300 < (a0.length : Int))) = true then
 (l06_alive ()).bind fun x3 =>
 some x3
 else
 (r06_Loose a0).bind fun x4 =>
 (lines_Split a0).bind fun x5 =>
 (lines_Loose a0).bind fun x8 =>
 (r06_Same x8 x4).bind fun x9 =>
 if (!x9) = true then
 some false
 else
 (andO (decide (0 < (a0.length : Int))) ((idx a0 (IntKind.i64.wrap ((a0.length : Int) - 1))).bind fun x15 =>
 let x16 := !decide ((x15.toNat : Int) = ((10 : UInt8).toNat : Int))
 some x16)).bind fun x17 =>
 if x17 = true then
 (andO (decide ((x5.1.l.length : Int) = 0)) (some (!x5.2))).bind fun x21 =>
 (andO x21 ((l06_alive ()).bind fun x22 =>
 some x22)).bind fun x23 =>
 some x23
 else
 (andO x5.2 ((r06_Same x5.1 x4).bind fun x24 =>
 some x24)).bind fun x25 =>
 (andO x25 ((lines_Join x5.1).bind fun x26 =>
 some (decide (x26 = a0)))).bind fun x28 =>
 (andO x28 ((l06_alive ()).bind fun x29 =>
 some x29)).bind fun x30 =>
 some x30
noncomputable def sim_l06_LinesSplit (a : Res [T.str]) : Sim tb ⟨argsT [T.str] 0 a, []⟩ c_l06_LinesSplit.body [] (QRes [T.b] c_l06_LinesSplit.res) :=
 Sim.seqI <| Sim.op1 (h_mv o_b) <|
 Sim.doneS <| Sim.seqI <| Sim.seqI <| Sim.op1 (h_mv (o_t rfl)) <|
 Sim.op (h_lens (o_t rfl)) fun x1 =>
 Sim.op (h_cmp (I := (IT.int .i64)) rfl (o_t rfl) o_i) fun x2 =>
 Sim.doneS <| Sim.cond (o_t rfl) (
 Sim.seqI <| Sim.op (h_call1 sp_l06_alive (.nil)) fun x3 =>
 Sim.op1 (h_mv (o_t rfl)) <|
 Sim.doneS <| Sim.ret (.one (res_t rfl))) (
 Sim.skip <| Sim.doneS <| Sim.seqI <| Sim.op1 (h_mv (o_t rfl)) <|
 Sim.op (h_call1 sp_r06_Loose (.one (o_t rfl))) fun x4 =>
 Sim.op1 (h_mv (o_t rfl)) <|
 Sim.doneS <| Sim.seqI <| Sim.op1 (h_mv (o_t rfl)) <|
 Sim.op (h_callN sp_lines_Split (.one (o_t rfl))) fun x5 =>
 Sim.op1 (h_mv (o_t rfl)) <|
 Sim.opn (h_ext (o_t rfl) rfl) fun x6 =>
 Sim.opn (h_ext (o_t rfl) rfl) fun x7 =>
 Sim.op1 (h_mv (o_t rfl)) <|
 Sim.op1 (h_mv (o_t rfl)) <|
 Sim.doneS <| Sim.seqI <| Sim.seqI <| Sim.op1 (h_mv (o_t rfl)) <|
 Sim.op (h_call1 sp_lines_Loose (.one (o_t rfl))) fun x8 =>
 Sim.op1 (h_mv (o_t rfl)) <|
 Sim.op (h_call1 sp_r06_Same (.cons (o_t rfl) <| .one (o_t rfl))) fun x9 =>
 Sim.op (h_not (o_t rfl)) fun x10 =>
 Sim.doneS <| Sim.cond (o_t rfl) (
 Sim.seqI <| Sim.op1 (h_mv o_b) <|
 Sim.doneS <| Sim.ret (.one (res_t rfl))) (
 Sim.skip <| Sim.doneS <| Sim.seqI <| Sim.seqI <| Sim.op1 (h_mv (o_t rfl)) <|
 Sim.op (h_lens (o_t rfl)) fun x11 =>
 Sim.op (h_cmp (I := (IT.int .i64)) rfl (o_t rfl) o_i) fun x12 =>
 Sim.op1 (h_mv (o_t rfl)) <|
 Sim.and 6 rfl rfl rfl (Grp.op1 (h_mv (o_t rfl)) <|
 Grp.op1 (h_mv (o_t rfl)) <|
 Grp.op (h_lens (o_t rfl)) fun x13 =>
 Grp.op (h_sub (I := (IT.int .i64)) (o_t rfl) o_i) fun x14 =>
 Grp.op (h_ixs (o_t rfl) (o_t rfl)) fun x15 =>
 Grp.op (h_cmp (I := IT.u8) rfl (o_t rfl) (o_u8 10 rfl)) fun x16 =>
 Grp.nil (o_t rfl)) fun x17 =>
 Sim.doneS <| Sim.cond (o_t rfl) (
 Sim.seqI <| Sim.op1 (h_mv (o_t rfl)) <|
 Sim.op (h_len (o_t rfl)) fun x18 =>
 Sim.op (h_cmp (I := (IT.int .i64)) rfl (o_t rfl) o_i) fun x19 =>
 Sim.op1 (h_mv (o_t rfl)) <|
 Sim.and 2 rfl rfl rfl (Grp.op1 (h_mv (o_t rfl)) <|
 Grp.op (h_not (o_t rfl)) fun x20 =>
 Grp.nil (o_t rfl)) fun x21 =>
 Sim.op1 (h_mv (o_t rfl)) <|
 Sim.and 1 rfl rfl rfl (Grp.op (h_call1 sp_l06_alive (.nil)) fun x22 =>
 Grp.nil (o_t rfl)) fun x23 =>
 Sim.op1 (h_mv (o_t rfl)) <|
 Sim.doneS <| Sim.ret (.one (res_t rfl))) (
 Sim.skip <| Sim.doneS <| Sim.seqI <| Sim.op1 (h_mv (o_t rfl)) <|
 Sim.op1 (h_mv (o_t rfl)) <|
 Sim.and 3 rfl rfl rfl (Grp.op1 (h_mv (o_t rfl)) <|
 Grp.op1 (h_mv (o_t rfl)) <|
 Grp.op (h_call1 sp_r06_Same (.cons (o_t rfl) <| .one (o_t rfl))) fun x24 =>
 Grp.nil (o_t rfl)) fun x25 =>
 Sim.op1 (h_mv (o_t rfl)) <|
 Sim.and 4 rfl rfl rfl (Grp.op1 (h_mv (o_t rfl)) <|
 Grp.op (h_call1 sp_lines_Join (.one (o_t rfl))) fun x26 =>
 Grp.op1 (h_mv (o_t rfl)) <|
 Grp.op (h_seql (o_t rfl) (o_t rfl)) fun x27 =>
 Grp.nil (o_t rfl)) fun x28 =>
 Sim.op1 (h_mv (o_t rfl)) <|
 Sim.and 1 rfl rfl rfl (Grp.op (h_call1 sp_l06_alive (.nil)) fun x29 =>
 Grp.nil (o_t rfl)) fun x30 =>
 Sim.op1 (h_mv (o_t rfl)) <|
 Sim.doneS <| Sim.ret (.one (res_t rfl)))))
theorem sp_l06_LinesSplit : Spec tb fn_l06_LinesSplit [T.str] [T.b] (fun a => l06_LinesSplit a) :=
  Spec.of f_l06_LinesSplit rfl rfl rfl sim_l06_LinesSplit

noncomputable def r06_Large (a0 : (GS Str)) (a1 : Int) (a2 : Int) : Option Bool :=
 if (decide (a1 < (a0.l.length : Int))) = true then
 some true
 else
 (iter (fun (s3 : Int) =>
 if (decide (s3 < (a0.l.length : Int))) = true then
 (idx a0.l s3).bind fun x7 =>
 if (decide (a2 < (x7.length : Int))) = true then
 (some true).map fun r => .inr (.inr r)
 else
 some (.inl (IntKind.i64.wrap (s3 + 1)))
 else
 some (.inr (.inl ()))) 0).bind (Sum.elim (fun (p4 : Unit) =>
 some false) some)
noncomputable def sim_r06_Large (a : Res [(T.sl T.str), (T.int .i64), (T.int .i64)]) : Sim tb ⟨argsT [(T.sl T.str), (T.int .i64), (T.int .i64)] 0 a, []⟩ c_r06_Large.body [] (QRes [T.b] c_r06_Large.res) :=
 Sim.seqI <| Sim.op1 (h_mv o_b) <|
 Sim.doneS <| Sim.seqI <| Sim.seqI <| Sim.op1 (h_mv (o_t rfl)) <|
 Sim.op (h_len (o_t rfl)) fun x1 =>
 Sim.op1 (h_mv (o_t rfl)) <|
 Sim.op (h_cmp (I := (IT.int .i64)) rfl (o_t rfl) (o_t rfl)) fun x2 =>
 Sim.doneS <| Sim.cond (o_t rfl) (
 Sim.seqI <| Sim.op1 (h_mv o_b) <|
 Sim.doneS <| Sim.ret (.one (res_t rfl))) (
 Sim.skip <| Sim.doneS <| Sim.seqI <| Sim.seqI <| Sim.op1 (h_mv o_i) <|
 Sim.doneS <| Sim.blkI <| Sim.loop (id := 0) (σ := Int) (τ := Unit) (fun s3 => ⟨[(0, .val (T.sl T.str) a.1), (2, .val (T.int .i64) a.2.2), (7, .val (T.int .i64) s3)], []⟩) (fun p4 => ⟨[], []⟩) 0 ⟨⟨⟨rfl, trivial⟩, ⟨⟨rfl, trivial⟩, ⟨⟨rfl, trivial⟩, trivial⟩⟩⟩, trivial⟩ (fun _ => rfl) (fun s3 =>
 Sim.seqI <| Sim.seqI <| Sim.op1 (h_mv (o_t rfl)) <|
 Sim.op1 (h_mv (o_t rfl)) <|
 Sim.op (h_len (o_t rfl)) fun x5 =>
 Sim.op (h_cmp (I := (IT.int .i64)) rfl (o_t rfl) (o_t rfl)) fun x6 =>
 Sim.doneS <| Sim.cond (o_t rfl) (
 Sim.skip <| Sim.doneS <| Sim.seqI <| Sim.blkI <| Sim.seqI <| Sim.op1 (h_mv (o_t rfl)) <|
 Sim.op1 (h_mv (o_t rfl)) <|
 Sim.op (h_ias rfl (o_t rfl) (o_t rfl)) fun x7 =>
 Sim.opn (h_ld rfl rfl (o_t rfl)) fun x8 =>
 Sim.op (h_lens (o_t rfl)) fun x9 =>
 Sim.op1 (h_mv (o_t rfl)) <|
 Sim.op (h_cmp (I := (IT.int .i64)) rfl (o_t rfl) (o_t rfl)) fun x10 =>
 Sim.doneS <| Sim.cond (o_t rfl) (
 Sim.seqI <| Sim.op1 (h_mv o_b) <|
 Sim.doneS <| Sim.outRet <| Sim.ret (.one (res_t rfl))) (
 Sim.skip <| Sim.doneB <| Sim.doneS <| Sim.op1 (h_mv (o_t rfl)) <|
 Sim.op (h_add (I := (IT.int .i64)) (o_t rfl) o_i) fun x11 =>
 Sim.op1 (h_mv (o_t rfl)) <|
 Sim.next x11 ⟨⟨⟨rfl, trivial⟩, ⟨⟨rfl, trivial⟩, ⟨⟨rfl, trivial⟩, trivial⟩⟩⟩, trivial⟩)) (
 Sim.exitS <| Sim.out () ⟨trivial, trivial⟩)) (fun p4 =>
 Sim.exitB <| Sim.doneS <| Sim.seqI <| Sim.op1 (h_mv o_b) <|
 Sim.doneS <| Sim.ret (.one (res_t rfl))))
theorem sp_r06_Large : Spec tb fn_r06_Large [(T.sl T.str), (T.int .i64), (T.int .i64)] [T.b] (fun a => r06_Large a.1 a.2.1 a.2.2) :=
  Spec.of f_r06_Large rfl rfl rfl sim_r06_Large

noncomputable def r06_Join (a0 : (GS Str)) : Option Str :=
 (iter (fun (s1 : (Str × Int)) =>
 if (decide (s1.2 < (a0.l.length : Int))) = true then
 (idx a0.l s1.2).bind fun x5 =>
 (if s1.1.length + x5.length ≤ 2 * most then some (s1.1 ++ x5) else none).bind fun x7 =>
 (if x7.length + [10].length ≤ 2 * most then some (x7 ++ [10]) else none).bind fun x8 =>
 some (.inl (x8, IntKind.i64.wrap (s1.2 + 1)))
 else
 some (.inr (.inl s1.1))) ([], 0)).bind (Sum.elim (fun (p2 : Str) =>
 some p2) some)
noncomputable def sim_r06_Join (a : Res [(T.sl T.str)]) : Sim tb ⟨argsT [(T.sl T.str)] 0 a, []⟩ c_r06_Join.body [] (QRes [T.str] c_r06_Join.res) :=
 Sim.seqI <| Sim.op1 (h_mv o_s) <|
 Sim.doneS <| Sim.seqI <| Sim.op1 (h_mv o_s) <|
 Sim.doneS <| Sim.seqI <| Sim.seqI <| Sim.op1 (h_mv o_i) <|
 Sim.doneS <| Sim.blkI <| Sim.loop (id := 0) (σ := (Str × Int)) (τ := Str) (fun s1 => ⟨[(0, .val (T.sl T.str) a), (3, .val T.str s1.1), (4, .val (T.int .i64) s1.2)], []⟩) (fun p2 => ⟨[(3, .val T.str p2)], []⟩) ([], 0) ⟨⟨⟨rfl, trivial⟩, ⟨⟨rfl, trivial⟩, ⟨⟨rfl, trivial⟩, trivial⟩⟩⟩, trivial⟩ (fun _ => rfl) (fun s1 =>
 Sim.seqI <| Sim.seqI <| Sim.op1 (h_mv (o_t rfl)) <|
 Sim.op1 (h_mv (o_t rfl)) <|
 Sim.op (h_len (o_t rfl)) fun x3 =>
 Sim.op (h_cmp (I := (IT.int .i64)) rfl (o_t rfl) (o_t rfl)) fun x4 =>
 Sim.doneS <| Sim.cond (o_t rfl) (
 Sim.skip <| Sim.doneS <| Sim.seqI <| Sim.blkI <| Sim.op1 (h_mv (o_t rfl)) <|
 Sim.op1 (h_mv (o_t rfl)) <|
 Sim.op1 (h_mv (o_t rfl)) <|
 Sim.op (h_ias rfl (o_t rfl) (o_t rfl)) fun x5 =>
 Sim.opn (h_ld rfl rfl (o_t rfl)) fun x6 =>
 Sim.op (h_sadd (o_t rfl) (o_t rfl)) fun x7 =>
 Sim.op (h_sadd (o_t rfl) o_s) fun x8 =>
 Sim.op1 (h_mv (o_t rfl)) <|
 Sim.doneB <| Sim.doneS <| Sim.op1 (h_mv (o_t rfl)) <|
 Sim.op (h_add (I := (IT.int .i64)) (o_t rfl) o_i) fun x9 =>
 Sim.op1 (h_mv (o_t rfl)) <|
 Sim.next (x8, x9) ⟨⟨⟨rfl, trivial⟩, ⟨⟨rfl, trivial⟩, ⟨⟨rfl, trivial⟩, trivial⟩⟩⟩, trivial⟩) (
 Sim.exitS <| Sim.out s1.1 ⟨⟨⟨rfl, trivial⟩, trivial⟩, trivial⟩)) (fun p2 =>
 Sim.exitB <| Sim.doneS <| Sim.seqI <| Sim.op1 (h_mv (o_t rfl)) <|
 Sim.op1 (h_mv (o_t rfl)) <|
 Sim.doneS <| Sim.ret (.one (res_t rfl)))
theorem sp_r06_Join : Spec tb fn_r06_Join [(T.sl T.str)] [T.str] (fun a => r06_Join a) :=
  Spec.of f_r06_Join rfl rfl rfl sim_r06_Join

noncomputable def l06_LinesJoin (a0 : (GS Str)) : Option Bool :=
 (r06_Large a0 20 60).bind fun x1 =>
 if x1 = true then
 (l06_alive ()).bind fun x2 =>
 some x2
 else
 (lines_Join a0).bind fun x3 =>
 (r06_Join a0).bind fun x4 =>
 if (!decide (x3 = x4)) = true then
 some false
 else
 (iter (fun (s6 : Int) =>
 if (decide (s6 < (a0.l.length : Int))) = true then
 (idx a0.l s6).bind fun x10 =>
 (r06_Parts x10 (10 : UInt8)).bind fun x12 =>
 if (decide (1 < (x12.l.length : Int))) = true then
 (l06_alive ()).bind fun x15 =>
 (some x15).map fun r => .inr (.inr r)
 else
 some (.inl (IntKind.i64.wrap (s6 + 1)))
 else
 some (.inr (.inl ()))) 0).bind (Sum.elim (fun (p7 : Unit) =>
 (lines_Split x3).bind fun x17 =>
 (andO x17.2 ((r06_Same x17.1 a0).bind fun x20 =>
 some x20)).bind fun x21 =>
 (andO x21 ((l06_alive ()).bind fun x22 =>
 some x22)).bind fun x23 =>
 some x23) some)
noncomputable def sim_l06_LinesJoin (a : Res [(T.sl T.str)]) : Sim tb ⟨argsT [(T.sl T.str)] 0 a, []⟩ c_l06_LinesJoin.body [] (QRes [T.b] c_l06_LinesJoin.res) :=
 Sim.seqI <| Sim.op1 (h_mv o_b) <|
 Sim.doneS <| Sim.seqI <| Sim.seqI <| Sim.op1 (h_mv (o_t rfl)) <|
 Sim.op (h_call1 sp_r06_Large (.cons (o_t rfl) <| .cons o_i <| .one o_i)) fun x1 =>
 Sim.doneS <| Sim.cond (o_t rfl) (
 Sim.seqI <| Sim.op (h_call1 sp_l06_alive (.nil)) fun x2 =>
 Sim.op1 (h_mv (o_t rfl)) <|
 Sim.doneS <| Sim.ret (.one (res_t rfl))) (
 Sim.skip <| Sim.doneS <| Sim.seqI <| Sim.op1 (h_mv (o_t rfl)) <|
 Sim.op (h_call1 sp_lines_Join (.one (o_t rfl))) fun x3 =>
 Sim.op1 (h_mv (o_t rfl)) <|
 Sim.doneS <| Sim.seqI <| Sim.seqI <| Sim.op1 (h_mv (o_t rfl)) <|
 Sim.op1 (h_mv (o_t rfl)) <|
 Sim.op (h_call1 sp_r06_Join (.one (o_t rfl))) fun x4 =>
 Sim.op (h_sneq (o_t rfl) (o_t rfl)) fun x5 =>
 Sim.doneS <| Sim.cond (o_t rfl) (
 Sim.seqI <| Sim.op1 (h_mv o_b) <|
 Sim.doneS <| Sim.ret (.one (res_t rfl))) (
 Sim.skip <| Sim.doneS <| Sim.seqI <| Sim.seqI <| Sim.op1 (h_mv o_i) <|
 Sim.doneS <| Sim.blkI <| Sim.loop (id := 0) (σ := Int) (τ := Unit) (fun s6 => ⟨[(0, .val (T.sl T.str) a), (3, .val T.str x3), (4, .val (T.int .i64) s6)], []⟩) (fun p7 => ⟨[(0, .val (T.sl T.str) a), (3, .val T.str x3)], []⟩) 0 ⟨⟨⟨rfl, trivial⟩, ⟨⟨rfl, trivial⟩, ⟨⟨rfl, trivial⟩, trivial⟩⟩⟩, trivial⟩ (fun _ => rfl) (fun s6 =>
 Sim.seqI <| Sim.seqI <| Sim.op1 (h_mv (o_t rfl)) <|
 Sim.op1 (h_mv (o_t rfl)) <|
 Sim.op (h_len (o_t rfl)) fun x8 =>
 Sim.op (h_cmp (I := (IT.int .i64)) rfl (o_t rfl) (o_t rfl)) fun x9 =>
 Sim.doneS <| Sim.cond (o_t rfl) (
 Sim.skip <| Sim.doneS <| Sim.seqI <| Sim.blkI <| Sim.seqI <| Sim.op1 (h_mv (o_t rfl)) <|
 Sim.op1 (h_mv (o_t rfl)) <|
 Sim.op (h_ias rfl (o_t rfl) (o_t rfl)) fun x10 =>
 Sim.opn (h_ld rfl rfl (o_t rfl)) fun x11 =>
 Sim.op (h_call1 sp_r06_Parts (.cons (o_t rfl) <| .one (o_u8 10 rfl))) fun x12 =>
 Sim.op (h_len (o_t rfl)) fun x13 =>
 Sim.op (h_cmp (I := (IT.int .i64)) rfl (o_t rfl) o_i) fun x14 =>
 Sim.doneS <| Sim.cond (o_t rfl) (
 Sim.seqI <| Sim.op (h_call1 sp_l06_alive (.nil)) fun x15 =>
 Sim.op1 (h_mv (o_t rfl)) <|
 Sim.doneS <| Sim.outRet <| Sim.ret (.one (res_t rfl))) (
 Sim.skip <| Sim.doneB <| Sim.doneS <| Sim.op1 (h_mv (o_t rfl)) <|
 Sim.op (h_add (I := (IT.int .i64)) (o_t rfl) o_i) fun x16 =>
 Sim.op1 (h_mv (o_t rfl)) <|
 Sim.next x16 ⟨⟨⟨rfl, trivial⟩, ⟨⟨rfl, trivial⟩, ⟨⟨rfl, trivial⟩, trivial⟩⟩⟩, trivial⟩)) (
 Sim.exitS <| Sim.out () ⟨⟨⟨rfl, trivial⟩, ⟨⟨rfl, trivial⟩, trivial⟩⟩, trivial⟩)) (fun p7 =>
 Sim.exitB <| Sim.doneS <| Sim.seqI <| Sim.op1 (h_mv (o_t rfl)) <|
 Sim.op (h_callN sp_lines_Split (.one (o_t rfl))) fun x17 =>
 Sim.op1 (h_mv (o_t rfl)) <|
 Sim.opn (h_ext (o_t rfl) rfl) fun x18 =>
 Sim.opn (h_ext (o_t rfl) rfl) fun x19 =>
 Sim.op1 (h_mv (o_t rfl)) <|
 Sim.op1 (h_mv (o_t rfl)) <|
 Sim.doneS <| Sim.seqI <| Sim.op1 (h_mv (o_t rfl)) <|
 Sim.op1 (h_mv (o_t rfl)) <|
 Sim.and 3 rfl rfl rfl (Grp.op1 (h_mv (o_t rfl)) <|
 Grp.op1 (h_mv (o_t rfl)) <|
 Grp.op (h_call1 sp_r06_Same (.cons (o_t rfl) <| .one (o_t rfl))) fun x20 =>
 Grp.nil (o_t rfl)) fun x21 =>
 Sim.op1 (h_mv (o_t rfl)) <|
 Sim.and 1 rfl rfl rfl (Grp.op (h_call1 sp_l06_alive (.nil)) fun x22 =>
 Grp.nil (o_t rfl)) fun x23 =>
 Sim.op1 (h_mv (o_t rfl)) <|
 Sim.doneS <| Sim.ret (.one (res_t rfl)))))
theorem sp_l06_LinesJoin : Spec tb fn_l06_LinesJoin [(T.sl T.str)] [T.b] (fun a => l06_LinesJoin a) :=
  Spec.of f_l06_LinesJoin rfl rfl rfl sim_l06_LinesJoin

noncomputable def slices_Index_string (a0 : (GS Str)) (a1 : Str) : Option Int :=
 (iter (fun (s2 : Int) =>
 if (decide (s2 < (a0.l.length : Int))) = true then
 (idx a0.l s2).bind fun x5 =>
 if (decide (a1 = x5)) = true then
 (some s2).map fun r => .inr (.inr r)
 else
 some (.inl (IntKind.i64.wrap (s2 + 1)))
 else
 some (.inr (.inl ()))) 0).bind (Sum.elim (fun (p3 : Unit) =>
 some (-1)) some)
noncomputable def sim_slices_Index_string (a : Res [(T.sl T.str), T.str]) : Sim tb ⟨argsT [(T.sl T.str), T.str] 0 a, []⟩ c_slices_Index_string.body [] (QRes [(T.int .i64)] c_slices_Index_string.res) :=
 Sim.seqI <| Sim.op1 (h_mv o_i) <|
 Sim.doneS <| Sim.seqI <| Sim.seqI <| Sim.op1 (h_mv (o_t rfl)) <|
 Sim.op (h_len (o_t rfl)) fun x1 =>
 Sim.op1 (h_mv o_i) <|
 Sim.doneS <| Sim.blkI <| Sim.loop (id := 0) (σ := Int) (τ := Unit) (fun s2 => ⟨[(0, .val (T.sl T.str) a.1), (1, .val T.str a.2), (7, .val (T.int .i64) x1), (8, .val (T.int .i64) s2)], []⟩) (fun p3 => ⟨[], []⟩) 0 ⟨⟨⟨rfl, trivial⟩, ⟨⟨rfl, trivial⟩, ⟨⟨rfl, trivial⟩, ⟨⟨rfl, trivial⟩, trivial⟩⟩⟩⟩, trivial⟩ (fun _ => rfl) (fun s2 =>
 Sim.seqI <| Sim.op (h_cmp (I := (IT.int .i64)) rfl (o_t rfl) (o_t rfl)) fun x4 =>
 Sim.doneS <| Sim.seqI <| Sim.cond (o_t rfl) (
 Sim.skip <| Sim.doneS <| Sim.seqI <| Sim.blkI <| Sim.seqI <| Sim.op1 (h_mv (o_t rfl)) <|
 Sim.op1 (h_mv (o_t rfl)) <|
 Sim.doneS <| Sim.seqI <| Sim.op1 (h_mv (o_t rfl)) <|
 Sim.op1 (h_mv (o_t rfl)) <|
 Sim.op1 (h_mv (o_t rfl)) <|
 Sim.op (h_ias rfl (o_t rfl) (o_t rfl)) fun x5 =>
 Sim.opn (h_ld rfl rfl (o_t rfl)) fun x6 =>
 Sim.op (h_seql (o_t rfl) (o_t rfl)) fun x7 =>
 Sim.doneS <| Sim.cond (o_t rfl) (
 Sim.seqI <| Sim.op1 (h_mv (o_t rfl)) <|
 Sim.op1 (h_mv (o_t rfl)) <|
 Sim.doneS <| Sim.outRet <| Sim.ret (.one (res_t rfl))) (
 Sim.skip <| Sim.doneB <| Sim.doneS <| Sim.op (h_add (I := (IT.int .i64)) (o_t rfl) o_i) fun x8 =>
 Sim.op1 (h_mv (o_t rfl)) <|
 Sim.next x8 ⟨⟨⟨rfl, trivial⟩, ⟨⟨rfl, trivial⟩, ⟨⟨rfl, trivial⟩, ⟨⟨rfl, trivial⟩, trivial⟩⟩⟩⟩, trivial⟩)) (
 Sim.exitS <| Sim.out () ⟨trivial, trivial⟩)) (fun p3 =>
 Sim.exitB <| Sim.doneS <| Sim.seqI <| Sim.op1 (h_mv o_i) <|
 Sim.doneS <| Sim.ret (.one (res_t rfl)))
theorem sp_slices_Index_string : Spec tb fn_slices_Index_string [(T.sl T.str), T.str] [(T.int .i64)] (fun a => slices_Index_string a.1 a.2) :=
  Spec.of f_slices_Index_string rfl rfl rfl sim_slices_Index_string

noncomputable def strings_Contains (a0 : Str) (a1 : Str) : Option Bool :=
 (strings_Index a0 a1).bind fun x1 =>
 some (decide (0 ≤ x1))
noncomputable def sim_strings_Contains (a : Res [T.str, T.str]) : Sim tb ⟨argsT [T.str, T.str] 0 a, []⟩ c_strings_Contains.body [] (QRes [T.b] c_strings_Contains.res) :=
 Sim.seqI <| Sim.op1 (h_mv o_b) <|
 Sim.doneS <| Sim.seqI <| Sim.op1 (h_mv (o_t rfl)) <|
 Sim.op1 (h_mv (o_t rfl)) <|
 Sim.op (h_call1 sp_strings_Index (.cons (o_t rfl) <| .one (o_t rfl))) fun x1 =>
 Sim.op (h_cmp (I := (IT.int .i64)) rfl (o_t rfl) o_i) fun x2 =>
 Sim.op1 (h_mv (o_t rfl)) <|
 Sim.doneS <| Sim.ret (.one (res_t rfl))
theorem sp_strings_Contains : Spec tb fn_strings_Contains [T.str, T.str] [T.b] (fun a => strings_Contains a.1 a.2) :=
  Spec.of f_strings_Contains rfl rfl rfl sim_strings_Contains

noncomputable def pairline_Parse (a0 : Str) : Option (S_pairline_Pair × Int) :=
 if (decide (512 < (a0.length : Int))) = true then
 some ((⟨[], []⟩ : S_pairline_Pair), 4)
 else
 (lines_Cut a0 (61 : UInt8)).bind fun x6 =>
 (orO (!x6.2.2) (some (decide (x6.1 = [])))).bind fun x12 =>
 (orO x12 ((strings_Contains a0 [10]).bind fun x13 =>
 some x13)).bind fun x14 =>
 if x14 = true then
 some ((⟨[], []⟩ : S_pairline_Pair), 5)
 else
 some ((⟨x6.1, x6.2.1⟩ : S_pairline_Pair), 0)
noncomputable def sim_pairline_Parse (a : Res [T.str]) : Sim tb ⟨argsT [T.str] 0 a, []⟩ c_pairline_Parse.body [] (QRes [T_pairline_Pair, (T.int .i64)] c_pairline_Parse.res) :=
 Sim.seqI <| Sim.opM (M_alloc (t := T_pairline_Pair) 2 rfl rfl) fun x1 =>
 Sim.op1 (h_mv o_i) <|
 Sim.doneS <| Sim.seqI <| Sim.seqI <| Sim.op1 (h_mv (o_t rfl)) <|
 Sim.op (h_lens (o_t rfl)) fun x2 =>
 Sim.op (h_cmp (I := (IT.int .i64)) rfl (o_t rfl) o_i) fun x3 =>
 Sim.doneS <| Sim.cond (o_t rfl) (
 Sim.seqI <| Sim.op (h_bld rfl rfl (.nil _)) fun x4 =>
 Sim.opM (M_stC (o_t rfl) (o_t rfl) rfl rfl (Fld.id _) rfl) fun x5 =>
 Sim.op1 (h_mv o_i) <|
 Sim.doneS <| Sim.ret (.cons (res_c rfl rfl rfl (Fld.id _) rfl rfl) <| .one (res_t rfl))) (
 Sim.skip <| Sim.doneS <| Sim.seqI <| Sim.op1 (h_mv (o_t rfl)) <|
 Sim.op (h_callN sp_lines_Cut (.cons (o_t rfl) <| .one (o_u8 61 rfl))) fun x6 =>
 Sim.op1 (h_mv (o_t rfl)) <|
 Sim.opn (h_ext (o_t rfl) rfl) fun x7 =>
 Sim.opn (h_ext (o_t rfl) rfl) fun x8 =>
 Sim.opn (h_ext (o_t rfl) rfl) fun x9 =>
 Sim.op1 (h_mv (o_t rfl)) <|
 Sim.op1 (h_mv (o_t rfl)) <|
 Sim.op1 (h_mv (o_t rfl)) <|
 Sim.doneS <| Sim.seqI <| Sim.seqI <| Sim.op1 (h_mv (o_t rfl)) <|
 Sim.op (h_not (o_t rfl)) fun x10 =>
 Sim.op1 (h_mv (o_t rfl)) <|
 Sim.or 2 rfl rfl rfl (Grp.op1 (h_mv (o_t rfl)) <|
 Grp.op (h_seql (o_t rfl) o_s) fun x11 =>
 Grp.nil (o_t rfl)) fun x12 =>
 Sim.op1 (h_mv (o_t rfl)) <|
 Sim.or 2 rfl rfl rfl (Grp.op1 (h_mv (o_t rfl)) <|
 Grp.op (h_call1 sp_strings_Contains (.cons (o_t rfl) <| .one o_s)) fun x13 =>
 Grp.nil (o_t rfl)) fun x14 =>
 Sim.doneS <| Sim.cond (o_t rfl) (
 Sim.seqI <| Sim.op (h_bld rfl rfl (.nil _)) fun x15 =>
 Sim.opM (M_stC (o_t rfl) (o_t rfl) rfl rfl (Fld.id _) rfl) fun x16 =>
 Sim.op1 (h_mv o_i) <|
 Sim.doneS <| Sim.ret (.cons (res_c rfl rfl rfl (Fld.id _) rfl rfl) <| .one (res_t rfl))) (
 Sim.skip <| Sim.doneS <| Sim.seqI <| Sim.op1 (h_mv (o_t rfl)) <|
 Sim.op1 (h_mv (o_t rfl)) <|
 Sim.op (h_bld rfl rfl (.cons F_pairline_Pair_Key rfl (o_t rfl) <| .cons F_pairline_Pair_Value rfl (o_t rfl) <| .nil _)) fun x17 =>
 Sim.opM (M_stC (o_t rfl) (o_t rfl) rfl rfl (Fld.id _) rfl) fun x18 =>
 Sim.op1 (h_mv o_i) <|
 Sim.doneS <| Sim.ret (.cons (res_c rfl rfl rfl (Fld.id _) rfl rfl) <| .one (res_t rfl))))
theorem sp_pairline_Parse : Spec tb fn_pairline_Parse [T.str] [T_pairline_Pair, (T.int .i64)] (fun a => pairline_Parse a) :=
  Spec.of f_pairline_Parse rfl rfl rfl sim_pairline_Parse

noncomputable def pairline_Read (a0 : Str) : Option ((GS S_pairline_Pair) × Int) :=
 (lines_Split a0).bind fun x1 =>
 (orO (!x1.2) (some (decide ((x1.1.l.length : Int) = 0)))).bind fun x7 =>
 (orO x7 ((slices_Index_string x1.1 []).bind fun x8 =>
 let x11 := !decide (x8 = IntKind.i64.wrap ((x1.1.l.length : Int) - 1))
 some x11)).bind fun x12 =>
 if x12 = true then
 some (.nil, 5)
 else
 (slG x1.1 none (some (IntKind.i64.wrap ((x1.1.l.length : Int) - 1)))).bind fun x15 =>
 if (decide (400 < (x15.l.length : Int))) = true then
 some (.nil, 4)
 else
 (iter (fun (s19 : (Int × (GS S_pairline_Pair))) =>
 if (decide (s19.1 < (x15.l.length : Int))) = true then
 (idx x15.l s19.1).bind fun x22 =>
 (pairline_Parse x22).bind fun x24 =>
 if (!decide (x24.2 = 0)) = true then
 (some (.nil, x24.2)).map fun r => .inr (.inr r)
 else
 (apG 32 s19.2 [x24.1]).bind fun x32 =>
 some (.inl (IntKind.i64.wrap (s19.1 + 1), x32))
 else
 some (.inr (.inl s19.2))) (0, .nil)).bind (Sum.elim (fun (p20 : (GS S_pairline_Pair)) =>
 some (p20, 0)) some)
noncomputable def sim_pairline_Read (a : Res [T.str]) : Sim tb ⟨argsT [T.str] 0 a, []⟩ c_pairline_Read.body [] (QRes [(T.sl T_pairline_Pair), (T.int .i64)] c_pairline_Read.res) :=
 Sim.seqI <| Sim.op1 (h_mv (o_nils (t := T_pairline_Pair))) <| Sim.turn (born (n := 2) (j := 1002) rfl rfl) <|
 Sim.op1 (h_mv o_i) <|
 Sim.doneS <| Sim.seqI <| Sim.op1 (h_mv (o_t rfl)) <|
 Sim.op (h_callN sp_lines_Split (.one (o_t rfl))) fun x1 =>
 Sim.op1 (h_mv (o_t rfl)) <|
 Sim.opn (h_ext (o_t rfl) rfl) fun x2 =>
 Sim.opn (h_ext (o_t rfl) rfl) fun x3 =>
 Sim.op1 (h_mv (o_t rfl)) <|
 Sim.op1 (h_mv (o_t rfl)) <|
 Sim.doneS <| Sim.seqI <| Sim.seqI <| Sim.op1 (h_mv (o_t rfl)) <|
 Sim.op (h_not (o_t rfl)) fun x4 =>
 Sim.op1 (h_mv (o_t rfl)) <|
 Sim.or 3 rfl rfl rfl (Grp.op1 (h_mv (o_t rfl)) <|
 Grp.op (h_len (o_t rfl)) fun x5 =>
 Grp.op (h_cmp (I := (IT.int .i64)) rfl (o_t rfl) o_i) fun x6 =>
 Grp.nil (o_t rfl)) fun x7 =>
 Sim.op1 (h_mv (o_t rfl)) <|
 Sim.or 6 rfl rfl rfl (Grp.op1 (h_mv (o_t rfl)) <|
 Grp.op (h_call1 sp_slices_Index_string (.cons (o_t rfl) <| .one o_s)) fun x8 =>
 Grp.op1 (h_mv (o_t rfl)) <|
 Grp.op (h_len (o_t rfl)) fun x9 =>
 Grp.op (h_sub (I := (IT.int .i64)) (o_t rfl) o_i) fun x10 =>
 Grp.op (h_cmp (I := (IT.int .i64)) rfl (o_t rfl) (o_t rfl)) fun x11 =>
 Grp.nil (o_t rfl)) fun x12 =>
 Sim.doneS <| Sim.cond (o_t rfl) (
 Sim.seqI <| Sim.op1 (h_mv (o_nils (t := T_pairline_Pair))) <| Sim.turn (born (n := 2) (j := 2002) rfl rfl) <|
 Sim.op1 (h_mv o_i) <|
 Sim.doneS <| Sim.frzRow 2002 rfl rfl <| Sim.ret (.cons (res_t rfl) <| .one (res_t rfl))) (
 Sim.skip <| Sim.doneS <| Sim.seqI <| Sim.op1 (h_mv (o_t rfl)) <|
 Sim.op1 (h_mv (o_t rfl)) <|
 Sim.op (h_len (o_t rfl)) fun x13 =>
 Sim.op (h_sub (I := (IT.int .i64)) (o_t rfl) o_i) fun x14 =>
 Sim.op (h_sll rfl (o_t rfl) .none (.some (o_t rfl))) fun x15 =>
 Sim.op1 (h_mv (o_t rfl)) <|
 Sim.doneS <| Sim.seqI <| Sim.seqI <| Sim.op1 (h_mv (o_t rfl)) <|
 Sim.op (h_len (o_t rfl)) fun x16 =>
 Sim.op (h_cmp (I := (IT.int .i64)) rfl (o_t rfl) o_i) fun x17 =>
 Sim.doneS <| Sim.cond (o_t rfl) (
 Sim.seqI <| Sim.op1 (h_mv (o_nils (t := T_pairline_Pair))) <| Sim.turn (born (n := 2) (j := 2002) rfl rfl) <|
 Sim.op1 (h_mv o_i) <|
 Sim.doneS <| Sim.frzRow 2002 rfl rfl <| Sim.ret (.cons (res_t rfl) <| .one (res_t rfl))) (
 Sim.skip <| Sim.doneS <| Sim.seqI <| Sim.op1 (h_mv (o_nils (t := T_pairline_Pair))) <| Sim.turn (born (n := 6) (j := 1006) rfl rfl) <|
 Sim.doneS <| Sim.seqI <| Sim.seqI <| Sim.op1 (h_mv (o_t rfl)) <|
 Sim.op (h_len (o_t rfl)) fun x18 =>
 Sim.op1 (h_mv o_i) <|
 Sim.doneS <| Sim.blkI <| Sim.loop (id := 0) (σ := (Int × (GS S_pairline_Pair))) (τ := (GS S_pairline_Pair)) (fun s19 => ⟨[(6, .own 1006), (39, .val (T.sl T.str) x15), (40, .val (T.int .i64) x18), (41, .val (T.int .i64) s19.1)], [(1006, .row T_pairline_Pair s19.2)]⟩) (fun p20 => ⟨[(6, .own 1006)], [(1006, .row T_pairline_Pair p20)]⟩) (0, .nil) ⟨⟨⟨rfl, trivial⟩, ⟨⟨rfl, trivial⟩, ⟨⟨rfl, trivial⟩, ⟨⟨rfl, trivial⟩, trivial⟩⟩⟩⟩, ⟨⟨rfl, trivial⟩, trivial⟩⟩ (fun _ => rfl) (fun s19 =>
 Sim.seqI <| Sim.op (h_cmp (I := (IT.int .i64)) rfl (o_t rfl) (o_t rfl)) fun x21 =>
 Sim.doneS <| Sim.seqI <| Sim.cond (o_t rfl) (
 Sim.skip <| Sim.doneS <| Sim.seqI <| Sim.blkI <| Sim.seqI <| Sim.op (h_ias rfl (o_t rfl) (o_t rfl)) fun x22 =>
 Sim.opn (h_ld rfl rfl (o_t rfl)) fun x23 =>
 Sim.op1 (h_mv (o_t rfl)) <|
 Sim.doneS <| Sim.seqI <| Sim.op1 (h_mv (o_t rfl)) <|
 Sim.op (h_callN sp_pairline_Parse (.one (o_t rfl))) fun x24 =>
 Sim.op1 (h_mv (o_t rfl)) <|
 Sim.opn (h_ext (o_t rfl) rfl) fun x25 =>
 Sim.opn (h_ext (o_t rfl) rfl) fun x26 =>
 Sim.opM (M_alloc (t := T_pairline_Pair) 9 rfl rfl) fun x27 =>
 Sim.opM (M_stC (o_t rfl) (o_t rfl) rfl rfl (Fld.id _) rfl) fun x28 =>
 Sim.op1 (h_mv (o_t rfl)) <|
 Sim.doneS <| Sim.seqI <| Sim.seqI <| Sim.op1 (h_mv (o_t rfl)) <|
 Sim.op (h_cmp (I := (IT.int .i64)) rfl (o_t rfl) o_i) fun x29 =>
 Sim.doneS <| Sim.cond (o_t rfl) (
 Sim.seqI <| Sim.op1 (h_mv (o_t rfl)) <|
 Sim.op1 (h_mv (o_nils (t := T_pairline_Pair))) <| Sim.turn (born (n := 2) (j := 1002) rfl rfl) <|
 Sim.op1 (h_mv (o_t rfl)) <|
 Sim.doneS <| Sim.outRet <| Sim.frzRow 1002 rfl rfl <| Sim.ret (.cons (res_t rfl) <| .one (res_t rfl))) (
 Sim.skip <| Sim.doneS <| Sim.op1 (h_mv (o_t rfl)) <|
 Sim.opn (h_ldC (t := T_pairline_Pair) (u := T_pairline_Pair) (o_t rfl) rfl rfl (Fld.id _) rfl rfl) fun x30 =>
 Sim.op (h_bll (t := T_pairline_Pair) (n := 1) rfl rfl (.cons rfl (o_t rfl) <| .nil _)) fun x31 =>
 Sim.opM (M_app rfl (o_t rfl) rfl (n_sl (o_t rfl))) fun x32 =>
 Sim.op1 (h_mv (o_t rfl)) <|
 Sim.doneB <| Sim.doneS <| Sim.op (h_add (I := (IT.int .i64)) (o_t rfl) o_i) fun x33 =>
 Sim.op1 (h_mv (o_t rfl)) <|
 Sim.next (x33, x32) ⟨⟨⟨rfl, trivial⟩, ⟨⟨rfl, trivial⟩, ⟨⟨rfl, trivial⟩, ⟨⟨rfl, trivial⟩, trivial⟩⟩⟩⟩, ⟨⟨rfl, trivial⟩, trivial⟩⟩)) (
 Sim.exitS <| Sim.out s19.2 ⟨⟨⟨rfl, trivial⟩, trivial⟩, ⟨⟨rfl, trivial⟩, trivial⟩⟩)) (fun p20 =>
 Sim.exitB <| Sim.doneS <| Sim.seqI <| Sim.op1 (h_mv (o_t rfl)) <|
 Sim.op1 (h_mv (o_t rfl)) <|
 Sim.op1 (h_mv o_i) <|
 Sim.doneS <| Sim.frzRow 1006 rfl rfl <| Sim.ret (.cons (res_t rfl) <| .one (res_t rfl)))))
theorem sp_pairline_Read : Spec tb fn_pairline_Read [T.str] [(T.sl T_pairline_Pair), (T.int .i64)] (fun a => pairline_Read a) :=
  Spec.of f_pairline_Read rfl rfl rfl sim_pairline_Read

noncomputable def l36_alive (_ : Unit) : Option Bool :=
 (pairline_Read [97, 61, 98, 10, 10]).bind fun x1 =>
 (pairline_Read []).bind fun x4 =>
 (andO (decide (x1.2 = 0)) (some (decide ((x1.1.l.length : Int) = 1)))).bind fun x10 =>
 (andO x10 ((idx x1.1.l 0).bind fun x11 =>
 some (decide (x11.Key = [97])))).bind fun x15 =>
 (andO x15 ((idx x1.1.l 0).bind fun x16 =>
 some (decide (x16.Value = [98])))).bind fun x20 =>
 (andO x20 (some (decide (x4.2 = 5)))).bind fun x22 =>
 some x22
noncomputable def sim_l36_alive (a : Res []) : Sim tb ⟨argsT [] 0 a, []⟩ c_l36_alive.body [] (QRes [T.b] c_l36_alive.res) :=
 Sim.seqI <| Sim.op1 (h_mv o_b) <|
 Sim.doneS <| Sim.seqI <| Sim.op (h_callN sp_pairline_Read (.one o_s)) fun x1 =>
 Sim.op1 (h_mv (o_t rfl)) <|
 Sim.opn (h_ext (o_t rfl) rfl) fun x2 =>
 Sim.opn (h_ext (o_t rfl) rfl) fun x3 =>
 Sim.op1 (h_mv (o_t rfl)) <|
 Sim.op1 (h_mv (o_t rfl)) <|
 Sim.doneS <| Sim.seqI <| Sim.op (h_callN sp_pairline_Read (.one o_s)) fun x4 =>
 Sim.op1 (h_mv (o_t rfl)) <|
 Sim.opn (h_ext (o_t rfl) rfl) fun x5 =>
 Sim.opn (h_ext (o_t rfl) rfl) fun x6 =>
 Sim.op1 (h_mv (o_t rfl)) <|
 Sim.op1 (h_mv (o_t rfl)) <|
 Sim.doneS <| Sim.seqI <| Sim.op1 (h_mv (o_t rfl)) <|
 Sim.op (h_cmp (I := (IT.int .i64)) rfl (o_t rfl) o_i) fun x7 =>
 Sim.op1 (h_mv (o_t rfl)) <|
 Sim.and 3 rfl rfl rfl (Grp.op1 (h_mv (o_t rfl)) <|
 Grp.op (h_len (o_t rfl)) fun x8 =>
 Grp.op (h_cmp (I := (IT.int .i64)) rfl (o_t rfl) o_i) fun x9 =>
 Grp.nil (o_t rfl)) fun x10 =>
 Sim.op1 (h_mv (o_t rfl)) <|
 Sim.and 5 rfl rfl rfl (Grp.op1 (h_mv (o_t rfl)) <|
 Grp.op (h_ias rfl (o_t rfl) o_i) fun x11 =>
 Grp.opr (h_fa F_pairline_Pair_Key (o_t rfl)) fun x12 =>
 Grp.opn (h_ld rfl rfl (o_t rfl)) fun x13 =>
 Grp.op (h_seql (o_t rfl) o_s) fun x14 =>
 Grp.nil (o_t rfl)) fun x15 =>
 Sim.op1 (h_mv (o_t rfl)) <|
 Sim.and 5 rfl rfl rfl (Grp.op1 (h_mv (o_t rfl)) <|
 Grp.op (h_ias rfl (o_t rfl) o_i) fun x16 =>
 Grp.opr (h_fa F_pairline_Pair_Value (o_t rfl)) fun x17 =>
 Grp.opn (h_ld rfl rfl (o_t rfl)) fun x18 =>
 Grp.op (h_seql (o_t rfl) o_s) fun x19 =>
 Grp.nil (o_t rfl)) fun x20 =>
 Sim.op1 (h_mv (o_t rfl)) <|
 Sim.and 2 rfl rfl rfl (Grp.op1 (h_mv (o_t rfl)) <|
 Grp.op (h_cmp (I := (IT.int .i64)) rfl (o_t rfl) o_i) fun x21 =>
 Grp.nil (o_t rfl)) fun x22 =>
 Sim.op1 (h_mv (o_t rfl)) <|
 Sim.doneS <| Sim.ret (.one (res_t rfl))
theorem sp_l36_alive : Spec tb fn_l36_alive [] [T.b] (fun a => l36_alive ()) :=
  Spec.of f_l36_alive rfl rfl rfl sim_l36_alive

noncomputable def unicode_utf8_ValidRune (a0 : Int) : Option Bool :=
 (andO (decide (0 ≤ a0)) (some (decide (a0 < 55296)))).bind fun x3 =>
 if x3 = true then
 some true
 else
 (andO (decide (57343 < a0)) (some (decide (a0 ≤ 1114111)))).bind fun x6 =>
 if x6 = true then
 some true
 else
 some false
noncomputable def sim_unicode_utf8_ValidRune (a : Res [(T.int .i32)]) : Sim tb ⟨argsT [(T.int .i32)] 0 a, []⟩ c_unicode_utf8_ValidRune.body [] (QRes [T.b] c_unicode_utf8_ValidRune.res) :=
 Sim.seqI <| Sim.op1 (h_mv o_b) <|
 Sim.doneS <| Sim.seqI <| Sim.blkI <| Sim.seqI <| Sim.op1 (h_mv (o_t rfl)) <|
 Sim.op (h_cmp (I := (IT.int .i32)) rfl o_i (o_t rfl)) fun x1 =>
 Sim.op1 (h_mv (o_t rfl)) <|
 Sim.and 2 rfl rfl rfl (Grp.op1 (h_mv (o_t rfl)) <|
 Grp.op (h_cmp (I := (IT.int .i32)) rfl (o_t rfl) o_i) fun x2 =>
 Grp.nil (o_t rfl)) fun x3 =>
 Sim.op1 (h_mv (o_t rfl)) <|
 Sim.doneS <| Sim.cond (o_t rfl) (
 Sim.seqI <| Sim.op1 (h_mv o_b) <|
 Sim.doneS <| Sim.ret (.one (res_t rfl))) (
 Sim.seqI <| Sim.op1 (h_mv (o_t rfl)) <|
 Sim.op (h_cmp (I := (IT.int .i32)) rfl o_i (o_t rfl)) fun x4 =>
 Sim.op1 (h_mv (o_t rfl)) <|
 Sim.and 2 rfl rfl rfl (Grp.op1 (h_mv (o_t rfl)) <|
 Grp.op (h_cmp (I := (IT.int .i32)) rfl (o_t rfl) o_i) fun x5 =>
 Grp.nil (o_t rfl)) fun x6 =>
 Sim.op1 (h_mv (o_t rfl)) <|
 Sim.doneS <| Sim.cond (o_t rfl) (
 Sim.seqI <| Sim.op1 (h_mv o_b) <|
 Sim.doneS <| Sim.ret (.one (res_t rfl))) (
 Sim.skip <| Sim.doneB <| Sim.doneS <| Sim.seqI <| Sim.op1 (h_mv o_b) <|
 Sim.doneS <| Sim.ret (.one (res_t rfl))))
theorem sp_unicode_utf8_ValidRune : Spec tb fn_unicode_utf8_ValidRune [(T.int .i32)] [T.b] (fun a => unicode_utf8_ValidRune a) :=
  Spec.of f_unicode_utf8_ValidRune rfl rfl rfl sim_unicode_utf8_ValidRune

noncomputable def strings_IndexRune (a0 : Str) (a1 : Int) : Option Int :=
 (andO (decide (0 ≤ a1)) (some (decide (a1 < 128)))).bind fun x3 =>
 if x3 = true then
 (strings_IndexByte a0 (IT.u8.ofI a1)).bind fun x5 =>
 some x5
 else
 if (decide (a1 = 65533)) = true then
 (iter (fun (s7 : Nat) =>
 if s7 < a0.length then
 let x9 := runeAt a0 s7
 if (decide (x9.1 = 65533)) = true then
 (some ((s7 : Nat) : Int)).map fun r => .inr (.inr r)
 else
 some (.inl (s7 + x9.2))
 else
 some (.inr (.inl ()))) 0).bind (Sum.elim (fun (p8 : Unit) =>
 some (-1)) some)
 else
 (unicode_utf8_ValidRune a1).bind fun x13 =>
 if (!x13) = true then
 some (-1)
 else
 let x17 := IntKind.i64.wrap ((((Utf8.encode a1).data.toList).length : Int) - 1)
 (iter (fun (s18 : Unit) =>
 if (decide (x17 < (a0.length : Int))) = true then
 (idx a0 x17).bind fun x22 =>
 (idx ((Utf8.encode a1).data.toList) x17).bind fun x23 =>
 (fun (k26 : Int → Option _) => if (!decide ((x22.toNat : Int) = (x23.toNat : Int))) = true then
 (subL a0 (some (IntKind.i64.wrap (x17 + 1))) none).bind fun x39 =>
 (idx ((Utf8.encode a1).data.toList) x17).bind fun x40 =>
 (strings_IndexByte x39 x40).bind fun x41 =>
 if (decide (x41 < 0)) = true then
 (some (-1)).map fun r => .inr (.inr r)
 else
 let x44 := IntKind.i64.wrap (x17 + IntKind.i64.wrap (x41 + 1))
 k26 x44
 else
 k26 x17) fun p25 =>
 (iter (fun (s27 : Int) =>
 let x30 := decide (s27 < (((Utf8.encode a1).data.toList).length : Int))
 if x30 = true then
 (idx a0 (IntKind.i64.wrap (p25 - s27))).bind fun x32 =>
 (idx ((Utf8.encode a1).data.toList) (IntKind.i64.wrap (x17 - s27))).bind fun x34 =>
 if (!decide ((x32.toNat : Int) = (x34.toNat : Int))) = true then
 none
 else
 some (.inl (IntKind.i64.wrap (s27 + 1)))
 else
 some (.inr (.inl ()))) 1).bind (Sum.elim (fun (p28 : Unit) =>
 (some (IntKind.i64.wrap (p25 - x17))).map fun r => .inr (.inr r)) some)
 else
 some (.inr (.inl ()))) ()).bind (Sum.elim (fun (p19 : Unit) =>
 some (-1)) some)
noncomputable def sim_strings_IndexRune (a : Res [T.str, (T.int .i32)]) : Sim tb ⟨argsT [T.str, (T.int .i32)] 0 a, []⟩ c_strings_IndexRune.body [] (QRes [(T.int .i64)] c_strings_IndexRune.res) :=
 Sim.seqI <| Sim.op1 (h_mv o_i) <|
 Sim.doneS <| Sim.blkI <| Sim.seqI <| Sim.op1 (h_mv (o_t rfl)) <|
 Sim.op (h_cmp (I := (IT.int .i32)) rfl o_i (o_t rfl)) fun x1 =>
 Sim.op1 (h_mv (o_t rfl)) <|
 Sim.and 2 rfl rfl rfl (Grp.op1 (h_mv (o_t rfl)) <|
 Grp.op (h_cmp (I := (IT.int .i32)) rfl (o_t rfl) o_i) fun x2 =>
 Grp.nil (o_t rfl)) fun x3 =>
 Sim.op1 (h_mv (o_t rfl)) <|
 Sim.doneS <| Sim.cond (o_t rfl) (
 Sim.seqI <| Sim.op1 (h_mv (o_t rfl)) <|
 Sim.op1 (h_mv (o_t rfl)) <|
 Sim.op (h_cvi (I := (IT.int .i32)) (J := IT.u8) rfl (o_t rfl)) fun x4 =>
 Sim.op (h_call1 sp_strings_IndexByte (.cons (o_t rfl) <| .one (o_t rfl))) fun x5 =>
 Sim.op1 (h_mv (o_t rfl)) <|
 Sim.doneS <| Sim.ret (.one (res_t rfl))) (
 Sim.seqI <| Sim.op1 (h_mv (o_t rfl)) <|
 Sim.op (h_cmp (I := (IT.int .i32)) rfl (o_t rfl) o_i) fun x6 =>
 Sim.op1 (h_mv (o_t rfl)) <|
 Sim.doneS <| Sim.cond (o_t rfl) (
 Sim.seqI <| Sim.seqI <| Sim.op1 (h_mv (o_t rfl)) <|
 Sim.opM (M_rng 1175 rfl (o_t rfl)) fun _ =>
 Sim.doneS <| Sim.blkI <| Sim.loop (id := 9) (σ := Nat) (τ := Unit) (fun s7 => ⟨[(175, .own 1175)], [(1175, .dom DIter (a.1, s7))]⟩) (fun p8 => ⟨[], []⟩) 0 ⟨⟨⟨rfl, trivial⟩, trivial⟩, ⟨⟨rfl, trivial⟩, trivial⟩⟩ (fun _ => rfl) (fun s7 =>
 Sim.seqI <| Sim.nxt (o_t rfl) rfl (fun x9 =>
 Sim.op1 (h_ext (o_t rfl) rfl) <|
 Sim.doneS <| Sim.seqI <| Sim.condT (o_t rfl) <|
 Sim.skip <| Sim.doneS <| Sim.blkI <| Sim.seqI <| Sim.opn (h_ext (o_t rfl) rfl) fun x10 =>
 Sim.opn (h_ext (o_t rfl) rfl) fun x11 =>
 Sim.op1 (h_mv (o_t rfl)) <|
 Sim.op1 (h_mv (o_t rfl)) <|
 Sim.doneS <| Sim.seqI <| Sim.op1 (h_mv (o_t rfl)) <|
 Sim.op (h_cmp (I := (IT.int .i32)) rfl (o_t rfl) o_i) fun x12 =>
 Sim.doneS <| Sim.cond (o_t rfl) (
 Sim.seqI <| Sim.op1 (h_mv (o_t rfl)) <|
 Sim.op1 (h_mv (o_t rfl)) <|
 Sim.doneS <| Sim.outRet <| Sim.ret (.one (res_t rfl))) (
 Sim.skip <| Sim.doneB <| Sim.next (s7 + x9.2) ⟨⟨⟨rfl, trivial⟩, trivial⟩, ⟨⟨rfl, trivial⟩, trivial⟩⟩)) (
 Sim.op1 (h_ext (o_t rfl) rfl) <|
 Sim.doneS <| Sim.seqI <| Sim.condF (o_t rfl) <|
 Sim.exitS <| Sim.out () ⟨trivial, trivial⟩)) (fun p8 =>
 Sim.exitB <| Sim.doneS <| Sim.seqI <| Sim.op1 (h_mv o_i) <|
 Sim.doneS <| Sim.ret (.one (res_t rfl)))) (
 Sim.seqI <| Sim.op1 (h_mv (o_t rfl)) <|
 Sim.op (h_call1 sp_unicode_utf8_ValidRune (.one (o_t rfl))) fun x13 =>
 Sim.op (h_not (o_t rfl)) fun x14 =>
 Sim.op1 (h_mv (o_t rfl)) <|
 Sim.doneS <| Sim.cond (o_t rfl) (
 Sim.seqI <| Sim.op1 (h_mv o_i) <|
 Sim.doneS <| Sim.ret (.one (res_t rfl))) (
 Sim.scope <| Sim.seqI <| Sim.op1 (h_mv (o_t rfl)) <|
 Sim.op (h_cvc (o_t rfl)) fun x15 =>
 Sim.op1 (h_mv (o_t rfl)) <|
 Sim.doneS <| Sim.seqI <| Sim.op1 (h_mv (o_t rfl)) <|
 Sim.op (h_lens (o_t rfl)) fun x16 =>
 Sim.op (h_sub (I := (IT.int .i64)) (o_t rfl) o_i) fun x17 =>
 Sim.op1 (h_mv (o_t rfl)) <|
 Sim.doneS <| Sim.seqI <| Sim.op1 (h_mv (o_t rfl)) <|
 Sim.op1 (h_mv (o_t rfl)) <|
 Sim.doneS <| Sim.seqI <| Sim.op1 (h_mv o_i) <|
 Sim.doneS <| Sim.seqI <| Sim.blkI <| Sim.loop (id := 1) (σ := Unit) (τ := Unit) (fun s18 => ⟨[(0, .val T.str a.1), (7, .val T.str x15), (8, .val (T.int .i64) x17), (9, .val (T.int .i64) x17)], []⟩) (fun p19 => ⟨[], []⟩) () ⟨⟨⟨rfl, trivial⟩, ⟨⟨rfl, trivial⟩, ⟨⟨rfl, trivial⟩, ⟨⟨rfl, trivial⟩, trivial⟩⟩⟩⟩, trivial⟩ (fun _ => rfl) (fun s18 =>
 Sim.seqI <| Sim.seqI <| Sim.op1 (h_mv (o_t rfl)) <|
 Sim.op1 (h_mv (o_t rfl)) <|
 Sim.op (h_lens (o_t rfl)) fun x20 =>
 Sim.op (h_cmp (I := (IT.int .i64)) rfl (o_t rfl) (o_t rfl)) fun x21 =>
 Sim.doneS <| Sim.cond (o_t rfl) (
 Sim.skip <| Sim.doneS <| Sim.blkI <| Sim.scope <| Sim.seqI <| Sim.seqI <| Sim.op1 (h_mv (o_t rfl)) <|
 Sim.op1 (h_mv (o_t rfl)) <|
 Sim.op (h_ixs (o_t rfl) (o_t rfl)) fun x22 =>
 Sim.op1 (h_mv (o_t rfl)) <|
 Sim.op1 (h_mv (o_t rfl)) <|
 Sim.op (h_ixs (o_t rfl) (o_t rfl)) fun x23 =>
 Sim.op (h_cmp (I := IT.u8) rfl (o_t rfl) (o_t rfl)) fun x24 =>
 Sim.doneS <| Sim.join (τ := Int) (fun p25 => ⟨[(0, .val T.str a.1), (7, .val T.str x15), (8, .val (T.int .i64) x17), (9, .val (T.int .i64) p25)], []⟩) (fun p25 =>
 Sim.doneS <| Sim.seqI <| Sim.seqI <| Sim.op1 (h_mv o_i) <|
 Sim.doneS <| Sim.blkI <| Sim.loop (id := 3) (σ := Int) (τ := Unit) (fun s27 => ⟨[(0, .val T.str a.1), (7, .val T.str x15), (8, .val (T.int .i64) x17), (9, .val (T.int .i64) p25), (12, .val (T.int .i64) s27)], []⟩) (fun p28 => ⟨[(8, .val (T.int .i64) x17), (9, .val (T.int .i64) p25)], []⟩) 1 ⟨⟨⟨rfl, trivial⟩, ⟨⟨rfl, trivial⟩, ⟨⟨rfl, trivial⟩, ⟨⟨rfl, trivial⟩, ⟨⟨rfl, trivial⟩, trivial⟩⟩⟩⟩⟩, trivial⟩ (fun _ => rfl) (fun s27 =>
 Sim.seqI <| Sim.seqI <| Sim.op1 (h_mv (o_t rfl)) <|
 Sim.op1 (h_mv (o_t rfl)) <|
 Sim.op (h_lens (o_t rfl)) fun x29 =>
 Sim.op (h_cmp (I := (IT.int .i64)) rfl (o_t rfl) (o_t rfl)) fun x30 =>
 Sim.doneS <| Sim.cond (o_t rfl) (
 Sim.skip <| Sim.doneS <| Sim.seqI <| Sim.blkI <| Sim.seqI <| Sim.op1 (h_mv (o_t rfl)) <|
 Sim.op1 (h_mv (o_t rfl)) <|
 Sim.op1 (h_mv (o_t rfl)) <|
 Sim.op (h_sub (I := (IT.int .i64)) (o_t rfl) (o_t rfl)) fun x31 =>
 Sim.op (h_ixs (o_t rfl) (o_t rfl)) fun x32 =>
 Sim.op1 (h_mv (o_t rfl)) <|
 Sim.op1 (h_mv (o_t rfl)) <|
 Sim.op1 (h_mv (o_t rfl)) <|
 Sim.op (h_sub (I := (IT.int .i64)) (o_t rfl) (o_t rfl)) fun x33 =>
 Sim.op (h_ixs (o_t rfl) (o_t rfl)) fun x34 =>
 Sim.op (h_cmp (I := IT.u8) rfl (o_t rfl) (o_t rfl)) fun x35 =>
 Sim.doneS <| Sim.cond (o_t rfl) (
 Sim.stop) (
 Sim.skip <| Sim.doneB <| Sim.doneS <| Sim.op1 (h_mv (o_t rfl)) <|
 Sim.op (h_add (I := (IT.int .i64)) (o_t rfl) o_i) fun x36 =>
 Sim.op1 (h_mv (o_t rfl)) <|
 Sim.next x36 ⟨⟨⟨rfl, trivial⟩, ⟨⟨rfl, trivial⟩, ⟨⟨rfl, trivial⟩, ⟨⟨rfl, trivial⟩, ⟨⟨rfl, trivial⟩, trivial⟩⟩⟩⟩⟩, trivial⟩)) (
 Sim.exitS <| Sim.out () ⟨⟨⟨rfl, trivial⟩, ⟨⟨rfl, trivial⟩, trivial⟩⟩, trivial⟩)) (fun p28 =>
 Sim.exitB <| Sim.doneS <| Sim.seqI <| Sim.seqI <| Sim.op1 (h_mv (o_t rfl)) <|
 Sim.op1 (h_mv (o_t rfl)) <|
 Sim.op (h_sub (I := (IT.int .i64)) (o_t rfl) (o_t rfl)) fun x37 =>
 Sim.op1 (h_mv (o_t rfl)) <|
 Sim.doneS <| Sim.outRet <| Sim.ret (.one (res_t rfl)))) fun k26 => Sim.cond (o_t rfl) (
 Sim.seqI <| Sim.op1 (h_mv (o_t rfl)) <|
 Sim.op1 (h_mv (o_t rfl)) <|
 Sim.op (h_add (I := (IT.int .i64)) (o_t rfl) o_i) fun x38 =>
 Sim.op (h_sls (o_t rfl) (.some (o_t rfl)) .none) fun x39 =>
 Sim.op1 (h_mv (o_t rfl)) <|
 Sim.op1 (h_mv (o_t rfl)) <|
 Sim.op (h_ixs (o_t rfl) (o_t rfl)) fun x40 =>
 Sim.op (h_call1 sp_strings_IndexByte (.cons (o_t rfl) <| .one (o_t rfl))) fun x41 =>
 Sim.op1 (h_mv (o_t rfl)) <|
 Sim.doneS <| Sim.seqI <| Sim.seqI <| Sim.op1 (h_mv (o_t rfl)) <|
 Sim.op (h_cmp (I := (IT.int .i64)) rfl (o_t rfl) o_i) fun x42 =>
 Sim.doneS <| Sim.cond (o_t rfl) (
 Sim.seqI <| Sim.op1 (h_mv o_i) <|
 Sim.doneS <| Sim.outRet <| Sim.ret (.one (res_t rfl))) (
 Sim.skip <| Sim.doneS <| Sim.op1 (h_mv (o_t rfl)) <|
 Sim.op1 (h_mv (o_t rfl)) <|
 Sim.op (h_add (I := (IT.int .i64)) (o_t rfl) o_i) fun x43 =>
 Sim.op (h_add (I := (IT.int .i64)) (o_t rfl) (o_t rfl)) fun x44 =>
 Sim.op1 (h_mv (o_t rfl)) <|
 Sim.weak (k26 x44) ⟨⟨⟨rfl, trivial⟩, ⟨⟨rfl, trivial⟩, ⟨⟨rfl, trivial⟩, ⟨⟨rfl, trivial⟩, trivial⟩⟩⟩⟩, trivial⟩)) (
 Sim.skip <| Sim.weak (k26 x17) ⟨⟨⟨rfl, trivial⟩, ⟨⟨rfl, trivial⟩, ⟨⟨rfl, trivial⟩, ⟨⟨rfl, trivial⟩, trivial⟩⟩⟩⟩, trivial⟩)) (
 Sim.exitS <| Sim.out () ⟨trivial, trivial⟩)) (fun p19 =>
 Sim.exitB <| Sim.doneS <| Sim.seqI <| Sim.seqI <| Sim.op1 (h_mv o_i) <|
 Sim.doneS <| Sim.ret (.one (res_t rfl))))))
theorem sp_strings_IndexRune : Spec tb fn_strings_IndexRune [T.str, (T.int .i32)] [(T.int .i64)] (fun a => strings_IndexRune a.1 a.2) :=
  Spec.of f_strings_IndexRune rfl rfl rfl sim_strings_IndexRune

noncomputable def strings_shouldUseASCIISet (a0 : Int) : Option Bool :=
 some (decide (8 < a0))
noncomputable def sim_strings_shouldUseASCIISet (a : Res [(T.int .i64)]) : Sim tb ⟨argsT [(T.int .i64)] 0 a, []⟩ c_strings_shouldUseASCIISet.body [] (QRes [T.b] c_strings_shouldUseASCIISet.res) :=
 Sim.seqI <| Sim.op1 (h_mv o_b) <|
 Sim.doneS <| Sim.seqI <| Sim.op1 (h_mv (o_t rfl)) <|
 Sim.op (h_cmp (I := (IT.int .i64)) rfl (o_t rfl) o_i) fun x1 =>
 Sim.op1 (h_mv (o_t rfl)) <|
 Sim.doneS <| Sim.ret (.one (res_t rfl))
theorem sp_strings_shouldUseASCIISet : Spec tb fn_strings_shouldUseASCIISet [(T.int .i64)] [T.b] (fun a => strings_shouldUseASCIISet a) :=
  Spec.of f_strings_shouldUseASCIISet rfl rfl rfl sim_strings_shouldUseASCIISet

noncomputable def strings_makeASCIISet (a0 : Str) : Option ((Ar Bool 256) × Bool) :=
 (iter (fun (s2 : (Int × (Ar Bool 256))) =>
 if (decide (s2.1 < (a0.length : Int))) = true then
 (idx a0 s2.1).bind fun x6 =>
 let x7 := decide (((128 : UInt8).toNat : Int) ≤ (x6.toNat : Int))
 if x7 = true then
 (some (s2.2, false)).map fun r => .inr (.inr r)
 else
 (idxN 256 (x6.toNat : Int)).bind fun x10 =>
 (if x10 < 256 then some (s2.2.set x10 true) else none).bind fun x11 =>
 some (.inl (IntKind.i64.wrap (s2.1 + 1), x11))
 else
 some (.inr (.inl s2.2))) (0, (T.arr 256 T.b).z)).bind (Sum.elim (fun (p3 : (Ar Bool 256)) =>
 some (p3, true)) some)
noncomputable def sim_strings_makeASCIISet (a : Res [T.str]) : Sim tb ⟨argsT [T.str] 0 a, []⟩ c_strings_makeASCIISet.body [] (QRes [(T.arr 256 T.b), T.b] c_strings_makeASCIISet.res) :=
 Sim.seqI <| Sim.opM (M_alloc (t := (T.arr 256 T.b)) 2 rfl rfl) fun x1 =>
 Sim.op1 (h_mv o_b) <|
 Sim.doneS <| Sim.seqI <| Sim.seqI <| Sim.op1 (h_mv o_i) <|
 Sim.doneS <| Sim.blkI <| Sim.loop (id := 0) (σ := (Int × (Ar Bool 256))) (τ := (Ar Bool 256)) (fun s2 => ⟨[(0, .val T.str a), (2, .cp 2 0), (4, .val (T.int .i64) s2.1)], [(2, .cells [(256, .val (T.arr 256 T.b) s2.2)])]⟩) (fun p3 => ⟨[(2, .cp 2 0)], [(2, .cells [(256, .val (T.arr 256 T.b) p3)])]⟩) (0, x1) ⟨⟨⟨rfl, trivial⟩, ⟨⟨rfl, trivial⟩, ⟨⟨rfl, trivial⟩, trivial⟩⟩⟩, ⟨⟨rfl, ⟨trivial, trivial⟩⟩, trivial⟩⟩ (fun _ => rfl) (fun s2 =>
 Sim.seqI <| Sim.seqI <| Sim.op1 (h_mv (o_t rfl)) <|
 Sim.op1 (h_mv (o_t rfl)) <|
 Sim.op (h_lens (o_t rfl)) fun x4 =>
 Sim.op (h_cmp (I := (IT.int .i64)) rfl (o_t rfl) (o_t rfl)) fun x5 =>
 Sim.doneS <| Sim.cond (o_t rfl) (
 Sim.skip <| Sim.doneS <| Sim.seqI <| Sim.blkI <| Sim.seqI <| Sim.op1 (h_mv (o_t rfl)) <|
 Sim.op1 (h_mv (o_t rfl)) <|
 Sim.op (h_ixs (o_t rfl) (o_t rfl)) fun x6 =>
 Sim.op1 (h_mv (o_t rfl)) <|
 Sim.doneS <| Sim.seqI <| Sim.seqI <| Sim.op1 (h_mv (o_t rfl)) <|
 Sim.op (h_cmp (I := IT.u8) rfl (o_t rfl) (o_u8 128 rfl)) fun x7 =>
 Sim.doneS <| Sim.cond (o_t rfl) (
 Sim.seqI <| Sim.opn (h_ldC (t := (T.arr 256 T.b)) (u := (T.arr 256 T.b)) (o_t rfl) rfl rfl (Fld.id _) rfl rfl) fun x8 =>
 Sim.opM (M_stC (o_t rfl) (o_t rfl) rfl rfl (Fld.id _) rfl) fun x9 =>
 Sim.op1 (h_mv o_b) <|
 Sim.doneS <| Sim.outRet <| Sim.ret (.cons (res_c rfl rfl rfl (Fld.id _) rfl rfl) <| .one (res_t rfl))) (
 Sim.skip <| Sim.doneS <| Sim.op1 (h_mv (o_t rfl)) <|
 Sim.op (h_iaaC (o_t rfl) (o_n8 (o_t rfl))) fun x10 =>
 Sim.opM (M_stA (s := (T.arr 256 T.b)) (Fld.id _) rfl (o_t rfl) o_b rfl rfl) fun x11 =>
 Sim.doneB <| Sim.doneS <| Sim.op1 (h_mv (o_t rfl)) <|
 Sim.op (h_add (I := (IT.int .i64)) (o_t rfl) o_i) fun x12 =>
 Sim.op1 (h_mv (o_t rfl)) <|
 Sim.next (x12, x11) ⟨⟨⟨rfl, trivial⟩, ⟨⟨rfl, trivial⟩, ⟨⟨rfl, trivial⟩, trivial⟩⟩⟩, ⟨⟨rfl, ⟨trivial, trivial⟩⟩, trivial⟩⟩)) (
 Sim.exitS <| Sim.out s2.2 ⟨⟨⟨rfl, trivial⟩, trivial⟩, ⟨⟨rfl, ⟨trivial, trivial⟩⟩, trivial⟩⟩)) (fun p3 =>
 Sim.exitB <| Sim.doneS <| Sim.seqI <| Sim.opn (h_ldC (t := (T.arr 256 T.b)) (u := (T.arr 256 T.b)) (o_t rfl) rfl rfl (Fld.id _) rfl rfl) fun x13 =>
 Sim.opM (M_stC (o_t rfl) (o_t rfl) rfl rfl (Fld.id _) rfl) fun x14 =>
 Sim.op1 (h_mv o_b) <|
 Sim.doneS <| Sim.ret (.cons (res_c rfl rfl rfl (Fld.id _) rfl rfl) <| .one (res_t rfl)))
theorem sp_strings_makeASCIISet : Spec tb fn_strings_makeASCIISet [T.str] [(T.arr 256 T.b), T.b] (fun a => strings_makeASCIISet a) :=
  Spec.of f_strings_makeASCIISet rfl rfl rfl sim_strings_makeASCIISet

noncomputable def p_strings_asciiSet_contains (a0 : (Option (Ar Bool 256))) (a1 : UInt8) : Option Bool :=
 (a0).bind fun x1 =>
 (idx x1.l (a1.toNat : Int)).bind fun x2 =>
 some x2
noncomputable def sim_p_strings_asciiSet_contains (a : Res [(T.ref (T.arr 256 T.b)), T.u8]) : Sim tb ⟨argsT [(T.ref (T.arr 256 T.b)), T.u8] 0 a, []⟩ c_p_strings_asciiSet_contains.body [] (QRes [T.b] c_p_strings_asciiSet_contains.res) :=
 Sim.seqI <| Sim.op1 (h_mv o_b) <|
 Sim.doneS <| Sim.seqI <| Sim.op1 (h_mv (o_t rfl)) <|
 Sim.op1 (h_mv (o_t rfl)) <|
 Sim.op (h_nilR (o_t rfl)) fun x1 =>
 Sim.op (h_iaa rfl rfl (o_t rfl) (o_n8 (o_t rfl))) fun x2 =>
 Sim.opn (h_ld rfl rfl (o_t rfl)) fun x3 =>
 Sim.op1 (h_mv (o_t rfl)) <|
 Sim.doneS <| Sim.ret (.one (res_t rfl))
theorem sp_p_strings_asciiSet_contains : Spec tb fn_p_strings_asciiSet_contains [(T.ref (T.arr 256 T.b)), T.u8] [T.b] (fun a => p_strings_asciiSet_contains a.1 a.2) :=
  Spec.of f_p_strings_asciiSet_contains rfl rfl rfl sim_p_strings_asciiSet_contains

noncomputable def strings_IndexAny (a0 : Str) (a1 : Str) : Option Int :=
 if (decide (a1 = [])) = true then
 some (-1)
 else
 if (decide ((a1.length : Int) = 1)) = true then
 (idx a1 0).bind fun x4 =>
 (fun (k8 : Int → Option _) => if (decide (128 ≤ IntKind.i32.wrap (x4.toNat : Int))) = true then
 k8 65533
 else
 k8 (IntKind.i32.wrap (x4.toNat : Int))) fun p7 =>
 (strings_IndexRune a0 p7).bind fun x9 =>
 some x9
 else
 (strings_shouldUseASCIISet (a0.length : Int)).bind fun x11 =>
 (fun (k13 : Unit → Option _) => if x11 = true then
 (strings_makeASCIISet a1).bind fun x21 =>
 if x21.2 = true then
 (iter (fun (s26 : Int) =>
 if (decide (s26 < (a0.length : Int))) = true then
 (idx a0 s26).bind fun x30 =>
 (p_strings_asciiSet_contains (some x21.1) x30).bind fun x31 =>
 if x31 = true then
 (some s26).map fun r => .inr (.inr r)
 else
 some (.inl (IntKind.i64.wrap (s26 + 1)))
 else
 some (.inr (.inl ()))) 0).bind (Sum.elim (fun (p27 : Unit) =>
 some (-1)) some)
 else
 k13 ()
 else
 k13 ()) fun p12 =>
 (iter (fun (s14 : Nat) =>
 if s14 < a0.length then
 let x16 := runeAt a0 s14
 (strings_IndexRune a1 x16.1).bind fun x19 =>
 if (decide (0 ≤ x19)) = true then
 (some ((s14 : Nat) : Int)).map fun r => .inr (.inr r)
 else
 some (.inl (s14 + x16.2))
 else
 some (.inr (.inl ()))) 0).bind (Sum.elim (fun (p15 : Unit) =>
 some (-1)) some)
noncomputable def sim_strings_IndexAny (a : Res [T.str, T.str]) : Sim tb ⟨argsT [T.str, T.str] 0 a, []⟩ c_strings_IndexAny.body [] (QRes [(T.int .i64)] c_strings_IndexAny.res) :=
 Sim.seqI <| Sim.op1 (h_mv o_i) <|
 Sim.doneS <| Sim.seqI <| Sim.seqI <| Sim.op1 (h_mv (o_t rfl)) <|
 Sim.op (h_seql (o_t rfl) o_s) fun x1 =>
 Sim.doneS <| Sim.cond (o_t rfl) (
 Sim.seqI <| Sim.op1 (h_mv o_i) <|
 Sim.doneS <| Sim.ret (.one (res_t rfl))) (
 Sim.skip <| Sim.doneS <| Sim.seqI <| Sim.seqI <| Sim.op1 (h_mv (o_t rfl)) <|
 Sim.op (h_lens (o_t rfl)) fun x2 =>
 Sim.op (h_cmp (I := (IT.int .i64)) rfl (o_t rfl) o_i) fun x3 =>
 Sim.doneS <| Sim.cond (o_t rfl) (
 Sim.seqI <| Sim.op1 (h_mv (o_t rfl)) <|
 Sim.op (h_ixs (o_t rfl) o_i) fun x4 =>
 Sim.op (h_cvi (I := IT.u8) (J := (IT.int .i32)) rfl (o_t rfl)) fun x5 =>
 Sim.op1 (h_mv (o_t rfl)) <|
 Sim.doneS <| Sim.seqI <| Sim.seqI <| Sim.op1 (h_mv (o_t rfl)) <|
 Sim.op (h_cmp (I := (IT.int .i32)) rfl (o_t rfl) o_i) fun x6 =>
 Sim.doneS <| Sim.join (τ := Int) (fun p7 => ⟨[(0, .val T.str a.1), (5, .val (T.int .i32) p7)], []⟩) (fun p7 =>
 Sim.doneS <| Sim.seqI <| Sim.op1 (h_mv (o_t rfl)) <|
 Sim.op1 (h_mv (o_t rfl)) <|
 Sim.op (h_call1 sp_strings_IndexRune (.cons (o_t rfl) <| .one (o_t rfl))) fun x9 =>
 Sim.op1 (h_mv (o_t rfl)) <|
 Sim.doneS <| Sim.ret (.one (res_t rfl))) fun k8 => Sim.cond (o_t rfl) (
 Sim.op1 (h_mv o_i) <|
 Sim.weak (k8 65533) ⟨⟨⟨rfl, trivial⟩, ⟨⟨rfl, trivial⟩, trivial⟩⟩, trivial⟩) (
 Sim.skip <| Sim.weak (k8 x5) ⟨⟨⟨rfl, trivial⟩, ⟨⟨rfl, trivial⟩, trivial⟩⟩, trivial⟩)) (
 Sim.skip <| Sim.doneS <| Sim.seqI <| Sim.seqI <| Sim.op1 (h_mv (o_t rfl)) <|
 Sim.op (h_lens (o_t rfl)) fun x10 =>
 Sim.op (h_call1 sp_strings_shouldUseASCIISet (.one (o_t rfl))) fun x11 =>
 Sim.doneS <| Sim.join (τ := Unit) (fun p12 => ⟨[(0, .val T.str a.1), (1, .val T.str a.2)], []⟩) (fun p12 =>
 Sim.doneS <| Sim.seqI <| Sim.seqI <| Sim.op1 (h_mv (o_t rfl)) <|
 Sim.opM (M_rng 1045 rfl (o_t rfl)) fun _ =>
 Sim.doneS <| Sim.blkI <| Sim.loop (id := 2) (σ := Nat) (τ := Unit) (fun s14 => ⟨[(1, .val T.str a.2), (45, .own 1045)], [(1045, .dom DIter (a.1, s14))]⟩) (fun p15 => ⟨[], []⟩) 0 ⟨⟨⟨rfl, trivial⟩, ⟨⟨rfl, trivial⟩, trivial⟩⟩, ⟨⟨rfl, trivial⟩, trivial⟩⟩ (fun _ => rfl) (fun s14 =>
 Sim.seqI <| Sim.nxt (o_t rfl) rfl (fun x16 =>
 Sim.op1 (h_ext (o_t rfl) rfl) <|
 Sim.doneS <| Sim.seqI <| Sim.condT (o_t rfl) <|
 Sim.skip <| Sim.doneS <| Sim.blkI <| Sim.seqI <| Sim.opn (h_ext (o_t rfl) rfl) fun x17 =>
 Sim.opn (h_ext (o_t rfl) rfl) fun x18 =>
 Sim.op1 (h_mv (o_t rfl)) <|
 Sim.op1 (h_mv (o_t rfl)) <|
 Sim.doneS <| Sim.seqI <| Sim.op1 (h_mv (o_t rfl)) <|
 Sim.op1 (h_mv (o_t rfl)) <|
 Sim.op (h_call1 sp_strings_IndexRune (.cons (o_t rfl) <| .one (o_t rfl))) fun x19 =>
 Sim.op (h_cmp (I := (IT.int .i64)) rfl (o_t rfl) o_i) fun x20 =>
 Sim.doneS <| Sim.cond (o_t rfl) (
 Sim.seqI <| Sim.op1 (h_mv (o_t rfl)) <|
 Sim.op1 (h_mv (o_t rfl)) <|
 Sim.doneS <| Sim.outRet <| Sim.ret (.one (res_t rfl))) (
 Sim.skip <| Sim.doneB <| Sim.next (s14 + x16.2) ⟨⟨⟨rfl, trivial⟩, ⟨⟨rfl, trivial⟩, trivial⟩⟩, ⟨⟨rfl, trivial⟩, trivial⟩⟩)) (
 Sim.op1 (h_ext (o_t rfl) rfl) <|
 Sim.doneS <| Sim.seqI <| Sim.condF (o_t rfl) <|
 Sim.exitS <| Sim.out () ⟨trivial, trivial⟩)) (fun p15 =>
 Sim.exitB <| Sim.doneS <| Sim.seqI <| Sim.op1 (h_mv o_i) <|
 Sim.doneS <| Sim.ret (.one (res_t rfl)))) fun k13 => Sim.cond (o_t rfl) (
 Sim.seqI <| Sim.op1 (h_mv (o_t rfl)) <|
 Sim.op (h_callN sp_strings_makeASCIISet (.one (o_t rfl))) fun x21 =>
 Sim.op1 (h_mv (o_t rfl)) <|
 Sim.opn (h_ext (o_t rfl) rfl) fun x22 =>
 Sim.opn (h_ext (o_t rfl) rfl) fun x23 =>
 Sim.opM (M_alloc (t := (T.arr 256 T.b)) 6 rfl rfl) fun x24 =>
 Sim.opM (M_stC (o_t rfl) (o_t rfl) rfl rfl (Fld.id _) rfl) fun x25 =>
 Sim.op1 (h_mv (o_t rfl)) <|
 Sim.doneS <| Sim.seqI <| Sim.op1 (h_mv (o_t rfl)) <|
 Sim.doneS <| Sim.cond (o_t rfl) (
 Sim.seqI <| Sim.seqI <| Sim.op1 (h_mv o_i) <|
 Sim.doneS <| Sim.blkI <| Sim.loop (id := 0) (σ := Int) (τ := Unit) (fun s26 => ⟨[(0, .val T.str a.1), (6, .cp 6 0), (8, .val (T.int .i64) s26)], [(6, .cells [(256, .val (T.arr 256 T.b) x25)])]⟩) (fun p27 => ⟨[], []⟩) 0 ⟨⟨⟨rfl, trivial⟩, ⟨⟨rfl, trivial⟩, ⟨⟨rfl, trivial⟩, trivial⟩⟩⟩, ⟨⟨rfl, ⟨trivial, trivial⟩⟩, trivial⟩⟩ (fun _ => rfl) (fun s26 =>
 Sim.seqI <| Sim.seqI <| Sim.op1 (h_mv (o_t rfl)) <|
 Sim.op1 (h_mv (o_t rfl)) <|
 Sim.op (h_lens (o_t rfl)) fun x28 =>
 Sim.op (h_cmp (I := (IT.int .i64)) rfl (o_t rfl) (o_t rfl)) fun x29 =>
 Sim.doneS <| Sim.cond (o_t rfl) (
 Sim.skip <| Sim.doneS <| Sim.seqI <| Sim.blkI <| Sim.seqI <| Sim.op1 (h_mv (o_t rfl)) <|
 Sim.op1 (h_mv (o_t rfl)) <|
 Sim.op (h_ixs (o_t rfl) (o_t rfl)) fun x30 =>
 Sim.op (h_callR1 sp_p_strings_asciiSet_contains (.cons flat_b .nil) (.cons (a_p (o_t rfl) rfl rfl) <| .one (a_v (o_t rfl)))) fun x31 =>
 Sim.doneS <| Sim.cond (o_t rfl) (
 Sim.seqI <| Sim.op1 (h_mv (o_t rfl)) <|
 Sim.op1 (h_mv (o_t rfl)) <|
 Sim.doneS <| Sim.outRet <| Sim.ret (.one (res_t rfl))) (
 Sim.skip <| Sim.doneB <| Sim.doneS <| Sim.op1 (h_mv (o_t rfl)) <|
 Sim.op (h_add (I := (IT.int .i64)) (o_t rfl) o_i) fun x32 =>
 Sim.op1 (h_mv (o_t rfl)) <|
 Sim.next x32 ⟨⟨⟨rfl, trivial⟩, ⟨⟨rfl, trivial⟩, ⟨⟨rfl, trivial⟩, trivial⟩⟩⟩, ⟨⟨rfl, ⟨trivial, trivial⟩⟩, trivial⟩⟩)) (
 Sim.exitS <| Sim.out () ⟨trivial, trivial⟩)) (fun p27 =>
 Sim.exitB <| Sim.doneS <| Sim.seqI <| Sim.op1 (h_mv o_i) <|
 Sim.doneS <| Sim.ret (.one (res_t rfl)))) (
 Sim.skip <| Sim.weak (k13 ()) ⟨⟨⟨rfl, trivial⟩, ⟨⟨rfl, trivial⟩, trivial⟩⟩, trivial⟩)) (
 Sim.skip <| Sim.weak (k13 ()) ⟨⟨⟨rfl, trivial⟩, ⟨⟨rfl, trivial⟩, trivial⟩⟩, trivial⟩)))
theorem sp_strings_IndexAny : Spec tb fn_strings_IndexAny [T.str, T.str] [(T.int .i64)] (fun a => strings_IndexAny a.1 a.2) :=
  Spec.of f_strings_IndexAny rfl rfl rfl sim_strings_IndexAny

noncomputable def strings_ContainsAny (a0 : Str) (a1 : Str) : Option Bool :=
 (strings_IndexAny a0 a1).bind fun x1 =>
 some (decide (0 ≤ x1))
noncomputable def sim_strings_ContainsAny (a : Res [T.str, T.str]) : Sim tb ⟨argsT [T.str, T.str] 0 a, []⟩ c_strings_ContainsAny.body [] (QRes [T.b] c_strings_ContainsAny.res) :=
 Sim.seqI <| Sim.op1 (h_mv o_b) <|
 Sim.doneS <| Sim.seqI <| Sim.op1 (h_mv (o_t rfl)) <|
 Sim.op1 (h_mv (o_t rfl)) <|
 Sim.op (h_call1 sp_strings_IndexAny (.cons (o_t rfl) <| .one (o_t rfl))) fun x1 =>
 Sim.op (h_cmp (I := (IT.int .i64)) rfl (o_t rfl) o_i) fun x2 =>
 Sim.op1 (h_mv (o_t rfl)) <|
 Sim.doneS <| Sim.ret (.one (res_t rfl))
theorem sp_strings_ContainsAny : Spec tb fn_strings_ContainsAny [T.str, T.str] [T.b] (fun a => strings_ContainsAny a.1 a.2) :=
  Spec.of f_strings_ContainsAny rfl rfl rfl sim_strings_ContainsAny

noncomputable def pairline_Text (a0 : S_pairline_Pair) : Option (Str × Int) :=
 (orO (decide (a0.Key = [])) ((strings_ContainsAny a0.Key [61, 10]).bind fun x4 =>
 some x4)).bind fun x5 =>
 (orO x5 ((strings_Contains a0.Value [10]).bind fun x7 =>
 some x7)).bind fun x8 =>
 if x8 = true then
 some ([], 5)
 else
 (if a0.Key.length + [61].length ≤ 2 * most then some (a0.Key ++ [61]) else none).bind fun x10 =>
 (if x10.length + a0.Value.length ≤ 2 * most then some (x10 ++ a0.Value) else none).bind fun x12 =>
 if (decide (512 < (x12.length : Int))) = true then
 some ([], 4)
 else
 some (x12, 0)
noncomputable def sim_pairline_Text (a : Res [T_pairline_Pair]) : Sim tb ⟨argsT [T_pairline_Pair] 0 a, []⟩ c_pairline_Text.body [] (QRes [T.str, (T.int .i64)] c_pairline_Text.res) :=
 Sim.seqI <| Sim.opM (M_box (t := T_pairline_Pair) 1 rfl rfl (o_t rfl)) fun _ =>
 Sim.op1 (h_mv o_s) <|
 Sim.op1 (h_mv o_i) <|
 Sim.doneS <| Sim.seqI <| Sim.seqI <| Sim.op1 (h_faC (o_t rfl)) <|
 Sim.opn (h_ldC (t := T_pairline_Pair) (u := T.str) (o_t rfl) rfl rfl F_pairline_Pair_Key rfl rfl) fun x1 =>
 Sim.op (h_seql (o_t rfl) o_s) fun x2 =>
 Sim.op1 (h_mv (o_t rfl)) <|
 Sim.or 3 rfl rfl rfl (Grp.op1 (h_faC (o_t rfl)) <|
 Grp.opn (h_ldC (t := T_pairline_Pair) (u := T.str) (o_t rfl) rfl rfl F_pairline_Pair_Key rfl rfl) fun x3 =>
 Grp.op (h_call1 sp_strings_ContainsAny (.cons (o_t rfl) <| .one o_s)) fun x4 =>
 Grp.nil (o_t rfl)) fun x5 =>
 Sim.op1 (h_mv (o_t rfl)) <|
 Sim.or 3 rfl rfl rfl (Grp.op1 (h_faC (o_t rfl)) <|
 Grp.opn (h_ldC (t := T_pairline_Pair) (u := T.str) (o_t rfl) rfl rfl F_pairline_Pair_Value rfl rfl) fun x6 =>
 Grp.op (h_call1 sp_strings_Contains (.cons (o_t rfl) <| .one o_s)) fun x7 =>
 Grp.nil (o_t rfl)) fun x8 =>
 Sim.doneS <| Sim.cond (o_t rfl) (
 Sim.seqI <| Sim.op1 (h_mv o_s) <|
 Sim.op1 (h_mv o_i) <|
 Sim.doneS <| Sim.ret (.cons (res_t rfl) <| .one (res_t rfl))) (
 Sim.skip <| Sim.doneS <| Sim.seqI <| Sim.op1 (h_faC (o_t rfl)) <|
 Sim.opn (h_ldC (t := T_pairline_Pair) (u := T.str) (o_t rfl) rfl rfl F_pairline_Pair_Key rfl rfl) fun x9 =>
 Sim.op (h_sadd (o_t rfl) o_s) fun x10 =>
 Sim.op1 (h_faC (o_t rfl)) <|
 Sim.opn (h_ldC (t := T_pairline_Pair) (u := T.str) (o_t rfl) rfl rfl F_pairline_Pair_Value rfl rfl) fun x11 =>
 Sim.op (h_sadd (o_t rfl) (o_t rfl)) fun x12 =>
 Sim.op1 (h_mv (o_t rfl)) <|
 Sim.doneS <| Sim.seqI <| Sim.seqI <| Sim.op1 (h_mv (o_t rfl)) <|
 Sim.op (h_lens (o_t rfl)) fun x13 =>
 Sim.op (h_cmp (I := (IT.int .i64)) rfl (o_t rfl) o_i) fun x14 =>
 Sim.doneS <| Sim.cond (o_t rfl) (
 Sim.seqI <| Sim.op1 (h_mv o_s) <|
 Sim.op1 (h_mv o_i) <|
 Sim.doneS <| Sim.ret (.cons (res_t rfl) <| .one (res_t rfl))) (
 Sim.skip <| Sim.doneS <| Sim.seqI <| Sim.op1 (h_mv (o_t rfl)) <|
 Sim.op1 (h_mv (o_t rfl)) <|
 Sim.op1 (h_mv o_i) <|
 Sim.doneS <| Sim.ret (.cons (res_t rfl) <| .one (res_t rfl))))
theorem sp_pairline_Text : Spec tb fn_pairline_Text [T_pairline_Pair] [T.str, (T.int .i64)] (fun a => pairline_Text a) :=
  Spec.of f_pairline_Text rfl rfl rfl sim_pairline_Text

noncomputable def pairline_Block (a0 : (GS S_pairline_Pair)) : Option (Str × Int) :=
 if (decide (400 < (a0.l.length : Int))) = true then
 some ([], 4)
 else
 (iter (fun (s4 : (Int × (GS Str))) =>
 if (decide (s4.1 < (a0.l.length : Int))) = true then
 (idx a0.l s4.1).bind fun x7 =>
 (pairline_Text x7).bind fun x12 =>
 if (!decide (x12.2 = 0)) = true then
 (some ([], x12.2)).map fun r => .inr (.inr r)
 else
 (apG 16 s4.2 [x12.1]).bind fun x17 =>
 some (.inl (IntKind.i64.wrap (s4.1 + 1), x17))
 else
 some (.inr (.inl s4.2))) (0, .nil)).bind (Sum.elim (fun (p5 : (GS Str)) =>
 (apG 16 p5 [[]]).bind fun x20 =>
 (lines_Join x20).bind fun x21 =>
 some (x21, 0)) some)
noncomputable def sim_pairline_Block (a : Res [(T.sl T_pairline_Pair)]) : Sim tb ⟨argsT [(T.sl T_pairline_Pair)] 0 a, []⟩ c_pairline_Block.body [] (QRes [T.str, (T.int .i64)] c_pairline_Block.res) :=
 Sim.seqI <| Sim.op1 (h_mv o_s) <|
 Sim.op1 (h_mv o_i) <|
 Sim.doneS <| Sim.seqI <| Sim.seqI <| Sim.op1 (h_mv (o_t rfl)) <|
 Sim.op (h_len (o_t rfl)) fun x1 =>
 Sim.op (h_cmp (I := (IT.int .i64)) rfl (o_t rfl) o_i) fun x2 =>
 Sim.doneS <| Sim.cond (o_t rfl) (
 Sim.seqI <| Sim.op1 (h_mv o_s) <|
 Sim.op1 (h_mv o_i) <|
 Sim.doneS <| Sim.ret (.cons (res_t rfl) <| .one (res_t rfl))) (
 Sim.skip <| Sim.doneS <| Sim.seqI <| Sim.op1 (h_mv (o_nils (t := T.str))) <| Sim.turn (born (n := 4) (j := 1004) rfl rfl) <|
 Sim.doneS <| Sim.seqI <| Sim.seqI <| Sim.op1 (h_mv (o_t rfl)) <|
 Sim.op (h_len (o_t rfl)) fun x3 =>
 Sim.op1 (h_mv o_i) <|
 Sim.doneS <| Sim.blkI <| Sim.loop (id := 0) (σ := (Int × (GS Str))) (τ := (GS Str)) (fun s4 => ⟨[(4, .own 1004), (12, .val (T.sl T_pairline_Pair) a), (13, .val (T.int .i64) x3), (14, .val (T.int .i64) s4.1)], [(1004, .row T.str s4.2)]⟩) (fun p5 => ⟨[(4, .own 1004)], [(1004, .row T.str p5)]⟩) (0, .nil) ⟨⟨⟨rfl, trivial⟩, ⟨⟨rfl, trivial⟩, ⟨⟨rfl, trivial⟩, ⟨⟨rfl, trivial⟩, trivial⟩⟩⟩⟩, ⟨⟨rfl, trivial⟩, trivial⟩⟩ (fun _ => rfl) (fun s4 =>
 Sim.seqI <| Sim.op (h_cmp (I := (IT.int .i64)) rfl (o_t rfl) (o_t rfl)) fun x6 =>
 Sim.doneS <| Sim.seqI <| Sim.cond (o_t rfl) (
 Sim.skip <| Sim.doneS <| Sim.seqI <| Sim.blkI <| Sim.seqI <| Sim.op (h_ias rfl (o_t rfl) (o_t rfl)) fun x7 =>
 Sim.opn (h_ld rfl rfl (o_t rfl)) fun x8 =>
 Sim.opM (M_alloc (t := T_pairline_Pair) 6 rfl rfl) fun x9 =>
 Sim.opM (M_stC (o_t rfl) (o_t rfl) rfl rfl (Fld.id _) rfl) fun x10 =>
 Sim.doneS <| Sim.seqI <| Sim.opn (h_ldC (t := T_pairline_Pair) (u := T_pairline_Pair) (o_t rfl) rfl rfl (Fld.id _) rfl rfl) fun x11 =>
 Sim.op (h_callN sp_pairline_Text (.one (o_t rfl))) fun x12 =>
 Sim.op1 (h_mv (o_t rfl)) <|
 Sim.opn (h_ext (o_t rfl) rfl) fun x13 =>
 Sim.opn (h_ext (o_t rfl) rfl) fun x14 =>
 Sim.op1 (h_mv (o_t rfl)) <|
 Sim.op1 (h_mv (o_t rfl)) <|
 Sim.doneS <| Sim.seqI <| Sim.seqI <| Sim.op1 (h_mv (o_t rfl)) <|
 Sim.op (h_cmp (I := (IT.int .i64)) rfl (o_t rfl) o_i) fun x15 =>
 Sim.doneS <| Sim.cond (o_t rfl) (
 Sim.seqI <| Sim.op1 (h_mv (o_t rfl)) <|
 Sim.op1 (h_mv o_s) <|
 Sim.op1 (h_mv (o_t rfl)) <|
 Sim.doneS <| Sim.outRet <| Sim.ret (.cons (res_t rfl) <| .one (res_t rfl))) (
 Sim.skip <| Sim.doneS <| Sim.op1 (h_mv (o_t rfl)) <|
 Sim.op1 (h_mv (o_t rfl)) <|
 Sim.op (h_bll (t := T.str) (n := 1) rfl rfl (.cons rfl (o_t rfl) <| .nil _)) fun x16 =>
 Sim.opM (M_app rfl (o_t rfl) rfl (n_sl (o_t rfl))) fun x17 =>
 Sim.op1 (h_mv (o_t rfl)) <|
 Sim.doneB <| Sim.doneS <| Sim.op (h_add (I := (IT.int .i64)) (o_t rfl) o_i) fun x18 =>
 Sim.op1 (h_mv (o_t rfl)) <|
 Sim.next (x18, x17) ⟨⟨⟨rfl, trivial⟩, ⟨⟨rfl, trivial⟩, ⟨⟨rfl, trivial⟩, ⟨⟨rfl, trivial⟩, trivial⟩⟩⟩⟩, ⟨⟨rfl, trivial⟩, trivial⟩⟩)) (
 Sim.exitS <| Sim.out s4.2 ⟨⟨⟨rfl, trivial⟩, trivial⟩, ⟨⟨rfl, trivial⟩, trivial⟩⟩)) (fun p5 =>
 Sim.exitB <| Sim.doneS <| Sim.seqI <| Sim.op1 (h_mv (o_t rfl)) <|
 Sim.op (h_bll (t := T.str) (n := 1) rfl rfl (.cons rfl o_s <| .nil _)) fun x19 =>
 Sim.opM (M_app rfl (o_t rfl) rfl (n_sl (o_t rfl))) fun x20 =>
 Sim.frzRow 1004 rfl rfl <| Sim.op (h_call1 sp_lines_Join (.one (o_t rfl))) fun x21 =>
 Sim.op1 (h_mv (o_t rfl)) <|
 Sim.op1 (h_mv o_i) <|
 Sim.doneS <| Sim.ret (.cons (res_t rfl) <| .one (res_t rfl))))
theorem sp_pairline_Block : Spec tb fn_pairline_Block [(T.sl T_pairline_Pair)] [T.str, (T.int .i64)] (fun a => pairline_Block a) :=
  Spec.of f_pairline_Block rfl rfl rfl sim_pairline_Block

noncomputable def r36_has (a0 : Str) (a1 : UInt8) : Option Bool :=
 (r06_Parts a0 a1).bind fun x1 =>
 some (decide (1 < (x1.l.length : Int)))
noncomputable def sim_r36_has (a : Res [T.str, T.u8]) : Sim tb ⟨argsT [T.str, T.u8] 0 a, []⟩ c_r36_has.body [] (QRes [T.b] c_r36_has.res) :=
 Sim.seqI <| Sim.op1 (h_mv o_b) <|
 Sim.doneS <| Sim.seqI <| Sim.op1 (h_mv (o_t rfl)) <|
 Sim.op1 (h_mv (o_t rfl)) <|
 Sim.op (h_call1 sp_r06_Parts (.cons (o_t rfl) <| .one (o_t rfl))) fun x1 =>
 Sim.op (h_len (o_t rfl)) fun x2 =>
 Sim.op (h_cmp (I := (IT.int .i64)) rfl (o_t rfl) o_i) fun x3 =>
 Sim.op1 (h_mv (o_t rfl)) <|
 Sim.doneS <| Sim.ret (.one (res_t rfl))
theorem sp_r36_has : Spec tb fn_r36_has [T.str, T.u8] [T.b] (fun a => r36_has a.1 a.2) :=
  Spec.of f_r36_has rfl rfl rfl sim_r36_has

noncomputable def r36_Text (a0 : S_r36_Pair) : Option (Str × Int) :=
 (orO (decide (a0.Key = [])) ((r36_has a0.Key (61 : UInt8)).bind fun x4 =>
 some x4)).bind fun x5 =>
 (orO x5 ((r36_has a0.Key (10 : UInt8)).bind fun x7 =>
 some x7)).bind fun x8 =>
 (orO x8 ((r36_has a0.Value (10 : UInt8)).bind fun x10 =>
 some x10)).bind fun x11 =>
 if x11 = true then
 some ([], 5)
 else
 (if a0.Key.length + [61].length ≤ 2 * most then some (a0.Key ++ [61]) else none).bind fun x13 =>
 (if x13.length + a0.Value.length ≤ 2 * most then some (x13 ++ a0.Value) else none).bind fun x15 =>
 if (decide (512 < (x15.length : Int))) = true then
 some ([], 4)
 else
 some (x15, 0)
noncomputable def sim_r36_Text (a : Res [T_r36_Pair]) : Sim tb ⟨argsT [T_r36_Pair] 0 a, []⟩ c_r36_Text.body [] (QRes [T.str, (T.int .i64)] c_r36_Text.res) :=
 Sim.seqI <| Sim.opM (M_box (t := T_r36_Pair) 1 rfl rfl (o_t rfl)) fun _ =>
 Sim.op1 (h_mv o_s) <|
 Sim.op1 (h_mv o_i) <|
 Sim.doneS <| Sim.seqI <| Sim.seqI <| Sim.op1 (h_faC (o_t rfl)) <|
 Sim.opn (h_ldC (t := T_r36_Pair) (u := T.str) (o_t rfl) rfl rfl F_r36_Pair_Key rfl rfl) fun x1 =>
 Sim.op (h_seql (o_t rfl) o_s) fun x2 =>
 Sim.op1 (h_mv (o_t rfl)) <|
 Sim.or 3 rfl rfl rfl (Grp.op1 (h_faC (o_t rfl)) <|
 Grp.opn (h_ldC (t := T_r36_Pair) (u := T.str) (o_t rfl) rfl rfl F_r36_Pair_Key rfl rfl) fun x3 =>
 Grp.op (h_call1 sp_r36_has (.cons (o_t rfl) <| .one (o_u8 61 rfl))) fun x4 =>
 Grp.nil (o_t rfl)) fun x5 =>
 Sim.op1 (h_mv (o_t rfl)) <|
 Sim.or 3 rfl rfl rfl (Grp.op1 (h_faC (o_t rfl)) <|
 Grp.opn (h_ldC (t := T_r36_Pair) (u := T.str) (o_t rfl) rfl rfl F_r36_Pair_Key rfl rfl) fun x6 =>
 Grp.op (h_call1 sp_r36_has (.cons (o_t rfl) <| .one (o_u8 10 rfl))) fun x7 =>
 Grp.nil (o_t rfl)) fun x8 =>
 Sim.op1 (h_mv (o_t rfl)) <|
 Sim.or 3 rfl rfl rfl (Grp.op1 (h_faC (o_t rfl)) <|
 Grp.opn (h_ldC (t := T_r36_Pair) (u := T.str) (o_t rfl) rfl rfl F_r36_Pair_Value rfl rfl) fun x9 =>
 Grp.op (h_call1 sp_r36_has (.cons (o_t rfl) <| .one (o_u8 10 rfl))) fun x10 =>
 Grp.nil (o_t rfl)) fun x11 =>
 Sim.doneS <| Sim.cond (o_t rfl) (
 Sim.seqI <| Sim.op1 (h_mv o_s) <|
 Sim.op1 (h_mv o_i) <|
 Sim.doneS <| Sim.ret (.cons (res_t rfl) <| .one (res_t rfl))) (
 Sim.skip <| Sim.doneS <| Sim.seqI <| Sim.op1 (h_faC (o_t rfl)) <|
 Sim.opn (h_ldC (t := T_r36_Pair) (u := T.str) (o_t rfl) rfl rfl F_r36_Pair_Key rfl rfl) fun x12 =>
 Sim.op (h_sadd (o_t rfl) o_s) fun x13 =>
 Sim.op1 (h_faC (o_t rfl)) <|
 Sim.opn (h_ldC (t := T_r36_Pair) (u := T.str) (o_t rfl) rfl rfl F_r36_Pair_Value rfl rfl) fun x14 =>
 Sim.op (h_sadd (o_t rfl) (o_t rfl)) fun x15 =>
 Sim.op1 (h_mv (o_t rfl)) <|
 Sim.doneS <| Sim.seqI <| Sim.seqI <| Sim.op1 (h_mv (o_t rfl)) <|
 Sim.op (h_lens (o_t rfl)) fun x16 =>
 Sim.op (h_cmp (I := (IT.int .i64)) rfl (o_t rfl) o_i) fun x17 =>
 Sim.doneS <| Sim.cond (o_t rfl) (
 Sim.seqI <| Sim.op1 (h_mv o_s) <|
 Sim.op1 (h_mv o_i) <|
 Sim.doneS <| Sim.ret (.cons (res_t rfl) <| .one (res_t rfl))) (
 Sim.skip <| Sim.doneS <| Sim.seqI <| Sim.op1 (h_mv (o_t rfl)) <|
 Sim.op1 (h_mv (o_t rfl)) <|
 Sim.op1 (h_mv o_i) <|
 Sim.doneS <| Sim.ret (.cons (res_t rfl) <| .one (res_t rfl))))
theorem sp_r36_Text : Spec tb fn_r36_Text [T_r36_Pair] [T.str, (T.int .i64)] (fun a => r36_Text a) :=
  Spec.of f_r36_Text rfl rfl rfl sim_r36_Text

noncomputable def r36_Block (a0 : (GS S_r36_Pair)) : Option (Str × Int) :=
 if (decide (400 < (a0.l.length : Int))) = true then
 some ([], 4)
 else
 (iter (fun (s3 : (Str × Int)) =>
 if (decide (s3.2 < (a0.l.length : Int))) = true then
 (idx a0.l s3.2).bind fun x7 =>
 (r36_Text x7).bind fun x9 =>
 if (!decide (x9.2 = 0)) = true then
 (some ([], x9.2)).map fun r => .inr (.inr r)
 else
 (if s3.1.length + x9.1.length ≤ 2 * most then some (s3.1 ++ x9.1) else none).bind fun x13 =>
 (if x13.length + [10].length ≤ 2 * most then some (x13 ++ [10]) else none).bind fun x14 =>
 some (.inl (x14, IntKind.i64.wrap (s3.2 + 1)))
 else
 some (.inr (.inl s3.1))) ([], 0)).bind (Sum.elim (fun (p4 : Str) =>
 (if p4.length + [10].length ≤ 2 * most then some (p4 ++ [10]) else none).bind fun x16 =>
 some (x16, 0)) some)
noncomputable def sim_r36_Block (a : Res [(T.sl T_r36_Pair)]) : Sim tb ⟨argsT [(T.sl T_r36_Pair)] 0 a, []⟩ c_r36_Block.body [] (QRes [T.str, (T.int .i64)] c_r36_Block.res) :=
 Sim.seqI <| Sim.op1 (h_mv o_s) <|
 Sim.op1 (h_mv o_i) <|
 Sim.doneS <| Sim.seqI <| Sim.seqI <| Sim.op1 (h_mv (o_t rfl)) <|
 Sim.op (h_len (o_t rfl)) fun x1 =>
 Sim.op (h_cmp (I := (IT.int .i64)) rfl (o_t rfl) o_i) fun x2 =>
 Sim.doneS <| Sim.cond (o_t rfl) (
 Sim.seqI <| Sim.op1 (h_mv o_s) <|
 Sim.op1 (h_mv o_i) <|
 Sim.doneS <| Sim.ret (.cons (res_t rfl) <| .one (res_t rfl))) (
 Sim.skip <| Sim.doneS <| Sim.seqI <| Sim.op1 (h_mv o_s) <|
 Sim.doneS <| Sim.seqI <| Sim.seqI <| Sim.op1 (h_mv o_i) <|
 Sim.doneS <| Sim.blkI <| Sim.loop (id := 0) (σ := (Str × Int)) (τ := Str) (fun s3 => ⟨[(0, .val (T.sl T_r36_Pair) a), (4, .val T.str s3.1), (5, .val (T.int .i64) s3.2)], []⟩) (fun p4 => ⟨[(4, .val T.str p4)], []⟩) ([], 0) ⟨⟨⟨rfl, trivial⟩, ⟨⟨rfl, trivial⟩, ⟨⟨rfl, trivial⟩, trivial⟩⟩⟩, trivial⟩ (fun _ => rfl) (fun s3 =>
 Sim.seqI <| Sim.seqI <| Sim.op1 (h_mv (o_t rfl)) <|
 Sim.op1 (h_mv (o_t rfl)) <|
 Sim.op (h_len (o_t rfl)) fun x5 =>
 Sim.op (h_cmp (I := (IT.int .i64)) rfl (o_t rfl) (o_t rfl)) fun x6 =>
 Sim.doneS <| Sim.cond (o_t rfl) (
 Sim.skip <| Sim.doneS <| Sim.seqI <| Sim.blkI <| Sim.seqI <| Sim.op1 (h_mv (o_t rfl)) <|
 Sim.op1 (h_mv (o_t rfl)) <|
 Sim.op (h_ias rfl (o_t rfl) (o_t rfl)) fun x7 =>
 Sim.opn (h_ld rfl rfl (o_t rfl)) fun x8 =>
 Sim.op (h_callN sp_r36_Text (.one (o_t rfl))) fun x9 =>
 Sim.op1 (h_mv (o_t rfl)) <|
 Sim.opn (h_ext (o_t rfl) rfl) fun x10 =>
 Sim.opn (h_ext (o_t rfl) rfl) fun x11 =>
 Sim.op1 (h_mv (o_t rfl)) <|
 Sim.op1 (h_mv (o_t rfl)) <|
 Sim.doneS <| Sim.seqI <| Sim.seqI <| Sim.op1 (h_mv (o_t rfl)) <|
 Sim.op (h_cmp (I := (IT.int .i64)) rfl (o_t rfl) o_i) fun x12 =>
 Sim.doneS <| Sim.cond (o_t rfl) (
 Sim.seqI <| Sim.op1 (h_mv (o_t rfl)) <|
 Sim.op1 (h_mv o_s) <|
 Sim.op1 (h_mv (o_t rfl)) <|
 Sim.doneS <| Sim.outRet <| Sim.ret (.cons (res_t rfl) <| .one (res_t rfl))) (
 Sim.skip <| Sim.doneS <| Sim.op1 (h_mv (o_t rfl)) <|
 Sim.op1 (h_mv (o_t rfl)) <|
 Sim.op (h_sadd (o_t rfl) (o_t rfl)) fun x13 =>
 Sim.op (h_sadd (o_t rfl) o_s) fun x14 =>
 Sim.op1 (h_mv (o_t rfl)) <|
 Sim.doneB <| Sim.doneS <| Sim.op1 (h_mv (o_t rfl)) <|
 Sim.op (h_add (I := (IT.int .i64)) (o_t rfl) o_i) fun x15 =>
 Sim.op1 (h_mv (o_t rfl)) <|
 Sim.next (x14, x15) ⟨⟨⟨rfl, trivial⟩, ⟨⟨rfl, trivial⟩, ⟨⟨rfl, trivial⟩, trivial⟩⟩⟩, trivial⟩)) (
 Sim.exitS <| Sim.out s3.1 ⟨⟨⟨rfl, trivial⟩, trivial⟩, trivial⟩)) (fun p4 =>
 Sim.exitB <| Sim.doneS <| Sim.seqI <| Sim.op1 (h_mv (o_t rfl)) <|
 Sim.op (h_sadd (o_t rfl) o_s) fun x16 =>
 Sim.op1 (h_mv (o_t rfl)) <|
 Sim.op1 (h_mv o_i) <|
 Sim.doneS <| Sim.ret (.cons (res_t rfl) <| .one (res_t rfl))))
theorem sp_r36_Block : Spec tb fn_r36_Block [(T.sl T_r36_Pair)] [T.str, (T.int .i64)] (fun a => r36_Block a) :=
  Spec.of f_r36_Block rfl rfl rfl sim_r36_Block

noncomputable def l36_alike (a0 : (GS S_pairline_Pair)) (a1 : (GS S_r36_Pair)) : Option Bool :=
 let x3 := !decide ((a0.l.length : Int) = (a1.l.length : Int))
 if x3 = true then
 some false
 else
 (iter (fun (s4 : Int) =>
 if (decide (s4 < (a0.l.length : Int))) = true then
 (idx a0.l s4).bind fun x8 =>
 (idx a1.l s4).bind fun x11 =>
 (orO (!decide (x8.Key = x11.Key)) ((idx a0.l s4).bind fun x15 =>
 (idx a1.l s4).bind fun x18 =>
 some (!decide (x15.Value = x18.Value)))).bind fun x22 =>
 if x22 = true then
 (some false).map fun r => .inr (.inr r)
 else
 some (.inl (IntKind.i64.wrap (s4 + 1)))
 else
 some (.inr (.inl ()))) 0).bind (Sum.elim (fun (p5 : Unit) =>
 some true) some)
noncomputable def sim_l36_alike (a : Res [(T.sl T_pairline_Pair), (T.sl T_r36_Pair)]) : Sim tb ⟨argsT [(T.sl T_pairline_Pair), (T.sl T_r36_Pair)] 0 a, []⟩ c_l36_alike.body [] (QRes [T.b] c_l36_alike.res) :=
 Sim.seqI <| Sim.op1 (h_mv o_b) <|
 Sim.doneS <| Sim.seqI <| Sim.seqI <| Sim.op1 (h_mv (o_t rfl)) <|
 Sim.op (h_len (o_t rfl)) fun x1 =>
 Sim.op1 (h_mv (o_t rfl)) <|
 Sim.op (h_len (o_t rfl)) fun x2 =>
 Sim.op (h_cmp (I := (IT.int .i64)) rfl (o_t rfl) (o_t rfl)) fun x3 =>
 Sim.doneS <| Sim.cond (o_t rfl) (
 Sim.seqI <| Sim.op1 (h_mv o_b) <|
 Sim.doneS <| Sim.ret (.one (res_t rfl))) (
 Sim.skip <| Sim.doneS <| Sim.seqI <| Sim.seqI <| Sim.op1 (h_mv o_i) <|
 Sim.doneS <| Sim.blkI <| Sim.loop (id := 0) (σ := Int) (τ := Unit) (fun s4 => ⟨[(0, .val (T.sl T_pairline_Pair) a.1), (1, .val (T.sl T_r36_Pair) a.2), (5, .val (T.int .i64) s4)], []⟩) (fun p5 => ⟨[], []⟩) 0 ⟨⟨⟨rfl, trivial⟩, ⟨⟨rfl, trivial⟩, ⟨⟨rfl, trivial⟩, trivial⟩⟩⟩, trivial⟩ (fun _ => rfl) (fun s4 =>
 Sim.seqI <| Sim.seqI <| Sim.op1 (h_mv (o_t rfl)) <|
 Sim.op1 (h_mv (o_t rfl)) <|
 Sim.op (h_len (o_t rfl)) fun x6 =>
 Sim.op (h_cmp (I := (IT.int .i64)) rfl (o_t rfl) (o_t rfl)) fun x7 =>
 Sim.doneS <| Sim.cond (o_t rfl) (
 Sim.skip <| Sim.doneS <| Sim.seqI <| Sim.blkI <| Sim.seqI <| Sim.op1 (h_mv (o_t rfl)) <|
 Sim.op1 (h_mv (o_t rfl)) <|
 Sim.op (h_ias rfl (o_t rfl) (o_t rfl)) fun x8 =>
 Sim.opr (h_fa F_pairline_Pair_Key (o_t rfl)) fun x9 =>
 Sim.opn (h_ld rfl rfl (o_t rfl)) fun x10 =>
 Sim.op1 (h_mv (o_t rfl)) <|
 Sim.op1 (h_mv (o_t rfl)) <|
 Sim.op (h_ias rfl (o_t rfl) (o_t rfl)) fun x11 =>
 Sim.opr (h_fa F_r36_Pair_Key (o_t rfl)) fun x12 =>
 Sim.opn (h_ld rfl rfl (o_t rfl)) fun x13 =>
 Sim.op (h_sneq (o_t rfl) (o_t rfl)) fun x14 =>
 Sim.op1 (h_mv (o_t rfl)) <|
 Sim.or 11 rfl rfl rfl (Grp.op1 (h_mv (o_t rfl)) <|
 Grp.op1 (h_mv (o_t rfl)) <|
 Grp.op (h_ias rfl (o_t rfl) (o_t rfl)) fun x15 =>
 Grp.opr (h_fa F_pairline_Pair_Value (o_t rfl)) fun x16 =>
 Grp.opn (h_ld rfl rfl (o_t rfl)) fun x17 =>
 Grp.op1 (h_mv (o_t rfl)) <|
 Grp.op1 (h_mv (o_t rfl)) <|
 Grp.op (h_ias rfl (o_t rfl) (o_t rfl)) fun x18 =>
 Grp.opr (h_fa F_r36_Pair_Value (o_t rfl)) fun x19 =>
 Grp.opn (h_ld rfl rfl (o_t rfl)) fun x20 =>
 Grp.op (h_sneq (o_t rfl) (o_t rfl)) fun x21 =>
 Grp.nil (o_t rfl)) fun x22 =>
 Sim.doneS <| Sim.cond (o_t rfl) (
 Sim.seqI <| Sim.op1 (h_mv o_b) <|
 Sim.doneS <| Sim.outRet <| Sim.ret (.one (res_t rfl))) (
 Sim.skip <| Sim.doneB <| Sim.doneS <| Sim.op1 (h_mv (o_t rfl)) <|
 Sim.op (h_add (I := (IT.int .i64)) (o_t rfl) o_i) fun x23 =>
 Sim.op1 (h_mv (o_t rfl)) <|
 Sim.next x23 ⟨⟨⟨rfl, trivial⟩, ⟨⟨rfl, trivial⟩, ⟨⟨rfl, trivial⟩, trivial⟩⟩⟩, trivial⟩)) (
 Sim.exitS <| Sim.out () ⟨trivial, trivial⟩)) (fun p5 =>
 Sim.exitB <| Sim.doneS <| Sim.seqI <| Sim.op1 (h_mv o_b) <|
 Sim.doneS <| Sim.ret (.one (res_t rfl))))
theorem sp_l36_alike : Spec tb fn_l36_alike [(T.sl T_pairline_Pair), (T.sl T_r36_Pair)] [T.b] (fun a => l36_alike a.1 a.2) :=
  Spec.of f_l36_alike rfl rfl rfl sim_l36_alike

noncomputable def l36_PairlineBlocks (a0 : (GS S_pairline_Pair)) : Option Bool :=
 if (decide (30 < (a0.l.length : Int))) = true then
 (l36_alive ()).bind fun x3 =>
 some x3
 else
 (iter (fun (s5 : (Int × (GS S_r36_Pair))) =>
 if (decide (s5.1 < (a0.l.length : Int))) = true then
 (idx a0.l s5.1).bind fun x8 =>
 (orO (decide (600 < (x8.Key.length : Int))) (some (decide (600 < (x8.Value.length : Int))))).bind fun x18 =>
 if x18 = true then
 (l36_alive ()).bind fun x19 =>
 (some x19).map fun r => .inr (.inr r)
 else
 (apG 32 s5.2 [(⟨x8.Key, x8.Value⟩ : S_r36_Pair)]).bind fun x24 =>
 some (.inl (IntKind.i64.wrap (s5.1 + 1), x24))
 else
 some (.inr (.inl s5.2))) (0, .nil)).bind (Sum.elim (fun (p6 : (GS S_r36_Pair)) =>
 (pairline_Block a0).bind fun x26 =>
 (r36_Block p6).bind fun x29 =>
 (orO (!decide (x26.1 = x29.1)) (some (!decide (x26.2 = x29.2)))).bind fun x34 =>
 if x34 = true then
 some false
 else
 if (!decide (x29.2 = 0)) = true then
 (l36_alive ()).bind fun x36 =>
 some x36
 else
 (pairline_Read x26.1).bind fun x37 =>
 (l36_alike x37.1 p6).bind fun x40 =>
 (andO x40 (some (decide (x37.2 = 0)))).bind fun x42 =>
 (andO x42 ((l36_alive ()).bind fun x43 =>
 some x43)).bind fun x44 =>
 some x44) some)
noncomputable def sim_l36_PairlineBlocks (a : Res [(T.sl T_pairline_Pair)]) : Sim tb ⟨argsT [(T.sl T_pairline_Pair)] 0 a, []⟩ c_l36_PairlineBlocks.body [] (QRes [T.b] c_l36_PairlineBlocks.res) :=
 Sim.seqI <| Sim.op1 (h_mv o_b) <|
 Sim.doneS <| Sim.seqI <| Sim.seqI <| Sim.op1 (h_mv (o_t rfl)) <|
 Sim.op (h_len (o_t rfl)) fun x1 =>
 Sim.op (h_cmp (I := (IT.int .i64)) rfl (o_t rfl) o_i) fun x2 =>
 Sim.doneS <| Sim.cond (o_t rfl) (
 Sim.seqI <| Sim.op (h_call1 sp_l36_alive (.nil)) fun x3 =>
 Sim.op1 (h_mv (o_t rfl)) <|
 Sim.doneS <| Sim.ret (.one (res_t rfl))) (
 Sim.skip <| Sim.doneS <| Sim.seqI <| Sim.op1 (h_mv (o_nils (t := T_r36_Pair))) <| Sim.turn (born (n := 3) (j := 1003) rfl rfl) <|
 Sim.doneS <| Sim.seqI <| Sim.seqI <| Sim.op1 (h_mv (o_t rfl)) <|
 Sim.op (h_len (o_t rfl)) fun x4 =>
 Sim.op1 (h_mv o_i) <|
 Sim.doneS <| Sim.blkI <| Sim.loop (id := 0) (σ := (Int × (GS S_r36_Pair))) (τ := (GS S_r36_Pair)) (fun s5 => ⟨[(0, .val (T.sl T_pairline_Pair) a), (3, .own 1003), (16, .val (T.sl T_pairline_Pair) a), (17, .val (T.int .i64) x4), (18, .val (T.int .i64) s5.1)], [(1003, .row T_r36_Pair s5.2)]⟩) (fun p6 => ⟨[(0, .val (T.sl T_pairline_Pair) a), (3, .own 1003)], [(1003, .row T_r36_Pair p6)]⟩) (0, .nil) ⟨⟨⟨rfl, trivial⟩, ⟨⟨rfl, trivial⟩, ⟨⟨rfl, trivial⟩, ⟨⟨rfl, trivial⟩, ⟨⟨rfl, trivial⟩, trivial⟩⟩⟩⟩⟩, ⟨⟨rfl, trivial⟩, trivial⟩⟩ (fun _ => rfl) (fun s5 =>
 Sim.seqI <| Sim.op (h_cmp (I := (IT.int .i64)) rfl (o_t rfl) (o_t rfl)) fun x7 =>
 Sim.doneS <| Sim.seqI <| Sim.cond (o_t rfl) (
 Sim.skip <| Sim.doneS <| Sim.seqI <| Sim.blkI <| Sim.seqI <| Sim.op (h_ias rfl (o_t rfl) (o_t rfl)) fun x8 =>
 Sim.opn (h_ld rfl rfl (o_t rfl)) fun x9 =>
 Sim.opM (M_alloc (t := T_pairline_Pair) 5 rfl rfl) fun x10 =>
 Sim.opM (M_stC (o_t rfl) (o_t rfl) rfl rfl (Fld.id _) rfl) fun x11 =>
 Sim.doneS <| Sim.seqI <| Sim.seqI <| Sim.op1 (h_faC (o_t rfl)) <|
 Sim.opn (h_ldC (t := T_pairline_Pair) (u := T.str) (o_t rfl) rfl rfl F_pairline_Pair_Key rfl rfl) fun x12 =>
 Sim.op (h_lens (o_t rfl)) fun x13 =>
 Sim.op (h_cmp (I := (IT.int .i64)) rfl (o_t rfl) o_i) fun x14 =>
 Sim.op1 (h_mv (o_t rfl)) <|
 Sim.or 4 rfl rfl rfl (Grp.op1 (h_faC (o_t rfl)) <|
 Grp.opn (h_ldC (t := T_pairline_Pair) (u := T.str) (o_t rfl) rfl rfl F_pairline_Pair_Value rfl rfl) fun x15 =>
 Grp.op (h_lens (o_t rfl)) fun x16 =>
 Grp.op (h_cmp (I := (IT.int .i64)) rfl (o_t rfl) o_i) fun x17 =>
 Grp.nil (o_t rfl)) fun x18 =>
 Sim.doneS <| Sim.cond (o_t rfl) (
 Sim.seqI <| Sim.op (h_call1 sp_l36_alive (.nil)) fun x19 =>
 Sim.op1 (h_mv (o_t rfl)) <|
 Sim.doneS <| Sim.outRet <| Sim.ret (.one (res_t rfl))) (
 Sim.skip <| Sim.doneS <| Sim.op1 (h_mv (o_t rfl)) <|
 Sim.op1 (h_faC (o_t rfl)) <|
 Sim.opn (h_ldC (t := T_pairline_Pair) (u := T.str) (o_t rfl) rfl rfl F_pairline_Pair_Key rfl rfl) fun x20 =>
 Sim.op1 (h_faC (o_t rfl)) <|
 Sim.opn (h_ldC (t := T_pairline_Pair) (u := T.str) (o_t rfl) rfl rfl F_pairline_Pair_Value rfl rfl) fun x21 =>
 Sim.op (h_bld rfl rfl (.cons F_r36_Pair_Key rfl (o_t rfl) <| .cons F_r36_Pair_Value rfl (o_t rfl) <| .nil _)) fun x22 =>
 Sim.op (h_bll (t := T_r36_Pair) (n := 1) rfl rfl (.cons rfl (o_t rfl) <| .nil _)) fun x23 =>
 Sim.opM (M_app rfl (o_t rfl) rfl (n_sl (o_t rfl))) fun x24 =>
 Sim.op1 (h_mv (o_t rfl)) <|
 Sim.doneB <| Sim.doneS <| Sim.op (h_add (I := (IT.int .i64)) (o_t rfl) o_i) fun x25 =>
 Sim.op1 (h_mv (o_t rfl)) <|
 Sim.next (x25, x24) ⟨⟨⟨rfl, trivial⟩, ⟨⟨rfl, trivial⟩, ⟨⟨rfl, trivial⟩, ⟨⟨rfl, trivial⟩, ⟨⟨rfl, trivial⟩, trivial⟩⟩⟩⟩⟩, ⟨⟨rfl, trivial⟩, trivial⟩⟩)) (
 Sim.exitS <| Sim.out s5.2 ⟨⟨⟨rfl, trivial⟩, ⟨⟨rfl, trivial⟩, trivial⟩⟩, ⟨⟨rfl, trivial⟩, trivial⟩⟩)) (fun p6 =>
 Sim.exitB <| Sim.doneS <| Sim.seqI <| Sim.op1 (h_mv (o_t rfl)) <|
 Sim.op (h_callN sp_pairline_Block (.one (o_t rfl))) fun x26 =>
 Sim.op1 (h_mv (o_t rfl)) <|
 Sim.opn (h_ext (o_t rfl) rfl) fun x27 =>
 Sim.opn (h_ext (o_t rfl) rfl) fun x28 =>
 Sim.op1 (h_mv (o_t rfl)) <|
 Sim.op1 (h_mv (o_t rfl)) <|
 Sim.doneS <| Sim.seqI <| Sim.op1 (h_mv (o_t rfl)) <|
 Sim.frzRow 1003 rfl rfl <| Sim.op (h_callN sp_r36_Block (.one (o_t rfl))) fun x29 =>
 Sim.op1 (h_mv (o_t rfl)) <|
 Sim.opn (h_ext (o_t rfl) rfl) fun x30 =>
 Sim.opn (h_ext (o_t rfl) rfl) fun x31 =>
 Sim.op1 (h_mv (o_t rfl)) <|
 Sim.op1 (h_mv (o_t rfl)) <|
 Sim.doneS <| Sim.seqI <| Sim.seqI <| Sim.op1 (h_mv (o_t rfl)) <|
 Sim.op1 (h_mv (o_t rfl)) <|
 Sim.op (h_sneq (o_t rfl) (o_t rfl)) fun x32 =>
 Sim.op1 (h_mv (o_t rfl)) <|
 Sim.or 3 rfl rfl rfl (Grp.op1 (h_mv (o_t rfl)) <|
 Grp.op1 (h_mv (o_t rfl)) <|
 Grp.op (h_cmp (I := (IT.int .i64)) rfl (o_t rfl) (o_t rfl)) fun x33 =>
 Grp.nil (o_t rfl)) fun x34 =>
 Sim.doneS <| Sim.cond (o_t rfl) (
 Sim.seqI <| Sim.op1 (h_mv o_b) <|
 Sim.doneS <| Sim.ret (.one (res_t rfl))) (
 Sim.skip <| Sim.doneS <| Sim.seqI <| Sim.seqI <| Sim.op1 (h_mv (o_t rfl)) <|
 Sim.op (h_cmp (I := (IT.int .i64)) rfl (o_t rfl) o_i) fun x35 =>
 Sim.doneS <| Sim.cond (o_t rfl) (
 Sim.seqI <| Sim.op (h_call1 sp_l36_alive (.nil)) fun x36 =>
 Sim.op1 (h_mv (o_t rfl)) <|
 Sim.doneS <| Sim.ret (.one (res_t rfl))) (
 Sim.skip <| Sim.doneS <| Sim.seqI <| Sim.op1 (h_mv (o_t rfl)) <|
 Sim.op (h_callN sp_pairline_Read (.one (o_t rfl))) fun x37 =>
 Sim.op1 (h_mv (o_t rfl)) <|
 Sim.opn (h_ext (o_t rfl) rfl) fun x38 =>
 Sim.opn (h_ext (o_t rfl) rfl) fun x39 =>
 Sim.op1 (h_mv (o_t rfl)) <|
 Sim.op1 (h_mv (o_t rfl)) <|
 Sim.doneS <| Sim.seqI <| Sim.op1 (h_mv (o_t rfl)) <|
 Sim.op1 (h_mv (o_t rfl)) <|
 Sim.op (h_call1 sp_l36_alike (.cons (o_t rfl) <| .one (o_t rfl))) fun x40 =>
 Sim.op1 (h_mv (o_t rfl)) <|
 Sim.and 2 rfl rfl rfl (Grp.op1 (h_mv (o_t rfl)) <|
 Grp.op (h_cmp (I := (IT.int .i64)) rfl (o_t rfl) o_i) fun x41 =>
 Grp.nil (o_t rfl)) fun x42 =>
 Sim.op1 (h_mv (o_t rfl)) <|
 Sim.and 1 rfl rfl rfl (Grp.op (h_call1 sp_l36_alive (.nil)) fun x43 =>
 Grp.nil (o_t rfl)) fun x44 =>
 Sim.op1 (h_mv (o_t rfl)) <|
 Sim.doneS <| Sim.ret (.one (res_t rfl))))))
theorem sp_l36_PairlineBlocks : Spec tb fn_l36_PairlineBlocks [(T.sl T_pairline_Pair)] [T.b] (fun a => l36_PairlineBlocks a) :=
  Spec.of f_l36_PairlineBlocks rfl rfl rfl sim_l36_PairlineBlocks

noncomputable def r36_Parse (a0 : Str) : Option (S_r36_Pair × Int) :=
 if (decide (512 < (a0.length : Int))) = true then
 some ((⟨[], []⟩ : S_r36_Pair), 4)
 else
 (r06_Parts a0 (61 : UInt8)).bind fun x6 =>
 (idx x6.l 0).bind fun x7 =>
 (orO (decide (x7 = [])) ((r36_has a0 (61 : UInt8)).bind fun x10 =>
 some (!x10))).bind fun x12 =>
 (orO x12 ((r36_has a0 (10 : UInt8)).bind fun x13 =>
 some x13)).bind fun x14 =>
 if x14 = true then
 some ((⟨[], []⟩ : S_r36_Pair), 5)
 else
 (subL a0 (some (IntKind.i64.wrap ((x7.length : Int) + 1))) none).bind fun x19 =>
 some ((⟨x7, x19⟩ : S_r36_Pair), 0)
noncomputable def sim_r36_Parse (a : Res [T.str]) : Sim tb ⟨argsT [T.str] 0 a, []⟩ c_r36_Parse.body [] (QRes [T_r36_Pair, (T.int .i64)] c_r36_Parse.res) :=
 Sim.seqI <| Sim.opM (M_alloc (t := T_r36_Pair) 2 rfl rfl) fun x1 =>
 Sim.op1 (h_mv o_i) <|
 Sim.doneS <| Sim.seqI <| Sim.seqI <| Sim.op1 (h_mv (o_t rfl)) <|
 Sim.op (h_lens (o_t rfl)) fun x2 =>
 Sim.op (h_cmp (I := (IT.int .i64)) rfl (o_t rfl) o_i) fun x3 =>
 Sim.doneS <| Sim.cond (o_t rfl) (
 Sim.seqI <| Sim.op (h_bld rfl rfl (.nil _)) fun x4 =>
 Sim.opM (M_stC (o_t rfl) (o_t rfl) rfl rfl (Fld.id _) rfl) fun x5 =>
 Sim.op1 (h_mv o_i) <|
 Sim.doneS <| Sim.ret (.cons (res_c rfl rfl rfl (Fld.id _) rfl rfl) <| .one (res_t rfl))) (
 Sim.skip <| Sim.doneS <| Sim.seqI <| Sim.op1 (h_mv (o_t rfl)) <|
 Sim.op (h_call1 sp_r06_Parts (.cons (o_t rfl) <| .one (o_u8 61 rfl))) fun x6 =>
 Sim.op (h_ias rfl (o_t rfl) o_i) fun x7 =>
 Sim.opn (h_ld rfl rfl (o_t rfl)) fun x8 =>
 Sim.op1 (h_mv (o_t rfl)) <|
 Sim.doneS <| Sim.seqI <| Sim.seqI <| Sim.op1 (h_mv (o_t rfl)) <|
 Sim.op (h_seql (o_t rfl) o_s) fun x9 =>
 Sim.op1 (h_mv (o_t rfl)) <|
 Sim.or 3 rfl rfl rfl (Grp.op1 (h_mv (o_t rfl)) <|
 Grp.op (h_call1 sp_r36_has (.cons (o_t rfl) <| .one (o_u8 61 rfl))) fun x10 =>
 Grp.op (h_not (o_t rfl)) fun x11 =>
 Grp.nil (o_t rfl)) fun x12 =>
 Sim.op1 (h_mv (o_t rfl)) <|
 Sim.or 2 rfl rfl rfl (Grp.op1 (h_mv (o_t rfl)) <|
 Grp.op (h_call1 sp_r36_has (.cons (o_t rfl) <| .one (o_u8 10 rfl))) fun x13 =>
 Grp.nil (o_t rfl)) fun x14 =>
 Sim.doneS <| Sim.cond (o_t rfl) (
 Sim.seqI <| Sim.op (h_bld rfl rfl (.nil _)) fun x15 =>
 Sim.opM (M_stC (o_t rfl) (o_t rfl) rfl rfl (Fld.id _) rfl) fun x16 =>
 Sim.op1 (h_mv o_i) <|
 Sim.doneS <| Sim.ret (.cons (res_c rfl rfl rfl (Fld.id _) rfl rfl) <| .one (res_t rfl))) (
 Sim.skip <| Sim.doneS <| Sim.seqI <| Sim.op1 (h_mv (o_t rfl)) <|
 Sim.op1 (h_mv (o_t rfl)) <|
 Sim.op1 (h_mv (o_t rfl)) <|
 Sim.op (h_lens (o_t rfl)) fun x17 =>
 Sim.op (h_add (I := (IT.int .i64)) (o_t rfl) o_i) fun x18 =>
 Sim.op (h_sls (o_t rfl) (.some (o_t rfl)) .none) fun x19 =>
 Sim.op (h_bld rfl rfl (.cons F_r36_Pair_Key rfl (o_t rfl) <| .cons F_r36_Pair_Value rfl (o_t rfl) <| .nil _)) fun x20 =>
 Sim.opM (M_stC (o_t rfl) (o_t rfl) rfl rfl (Fld.id _) rfl) fun x21 =>
 Sim.op1 (h_mv o_i) <|
 Sim.doneS <| Sim.ret (.cons (res_c rfl rfl rfl (Fld.id _) rfl rfl) <| .one (res_t rfl))))
theorem sp_r36_Parse : Spec tb fn_r36_Parse [T.str] [T_r36_Pair, (T.int .i64)] (fun a => r36_Parse a) :=
  Spec.of f_r36_Parse rfl rfl rfl sim_r36_Parse

noncomputable def r36_Read (a0 : Str) : Option ((GS S_r36_Pair) × Int) :=
 (r06_Parts a0 (10 : UInt8)).bind fun x1 =>
 (orO (decide ((x1.l.length : Int) < 2)) ((idx x1.l (IntKind.i64.wrap ((x1.l.length : Int) - 1))).bind fun x5 =>
 some (!decide (x5 = [])))).bind fun x8 =>
 (orO x8 ((idx x1.l (IntKind.i64.wrap ((x1.l.length : Int) - 2))).bind fun x10 =>
 some (!decide (x10 = [])))).bind fun x13 =>
 if x13 = true then
 some (.nil, 5)
 else
 (slG x1 none (some (IntKind.i64.wrap ((x1.l.length : Int) - 2)))).bind fun x15 =>
 (iter (fun (s16 : Int) =>
 if (decide (s16 < (x15.l.length : Int))) = true then
 (idx x15.l s16).bind fun x20 =>
 if (decide (x20 = [])) = true then
 (some (.nil, 5)).map fun r => .inr (.inr r)
 else
 some (.inl (IntKind.i64.wrap (s16 + 1)))
 else
 some (.inr (.inl ()))) 0).bind (Sum.elim (fun (p17 : Unit) =>
 if (decide (400 < (x15.l.length : Int))) = true then
 some (.nil, 4)
 else
 (iter (fun (s26 : (Int × (GS S_r36_Pair))) =>
 if (decide (s26.1 < (x15.l.length : Int))) = true then
 (idx x15.l s26.1).bind fun x30 =>
 (r36_Parse x30).bind fun x32 =>
 if (!decide (x32.2 = 0)) = true then
 (some (.nil, x32.2)).map fun r => .inr (.inr r)
 else
 (apG 32 s26.2 [x32.1]).bind fun x40 =>
 some (.inl (IntKind.i64.wrap (s26.1 + 1), x40))
 else
 some (.inr (.inl s26.2))) (0, .nil)).bind (Sum.elim (fun (p27 : (GS S_r36_Pair)) =>
 some (p27, 0)) some)) some)
noncomputable def sim_r36_Read (a : Res [T.str]) : Sim tb ⟨argsT [T.str] 0 a, []⟩ c_r36_Read.body [] (QRes [(T.sl T_r36_Pair), (T.int .i64)] c_r36_Read.res) :=
 Sim.seqI <| Sim.op1 (h_mv (o_nils (t := T_r36_Pair))) <| Sim.turn (born (n := 2) (j := 1002) rfl rfl) <|
 Sim.op1 (h_mv o_i) <|
 Sim.doneS <| Sim.seqI <| Sim.op1 (h_mv (o_t rfl)) <|
 Sim.op (h_call1 sp_r06_Parts (.cons (o_t rfl) <| .one (o_u8 10 rfl))) fun x1 =>
 Sim.op1 (h_mv (o_t rfl)) <|
 Sim.doneS <| Sim.seqI <| Sim.op1 (h_mv (o_t rfl)) <|
 Sim.op (h_len (o_t rfl)) fun x2 =>
 Sim.op1 (h_mv (o_t rfl)) <|
 Sim.doneS <| Sim.seqI <| Sim.seqI <| Sim.op1 (h_mv (o_t rfl)) <|
 Sim.op (h_cmp (I := (IT.int .i64)) rfl (o_t rfl) o_i) fun x3 =>
 Sim.op1 (h_mv (o_t rfl)) <|
 Sim.or 6 rfl rfl rfl (Grp.op1 (h_mv (o_t rfl)) <|
 Grp.op1 (h_mv (o_t rfl)) <|
 Grp.op (h_sub (I := (IT.int .i64)) (o_t rfl) o_i) fun x4 =>
 Grp.op (h_ias rfl (o_t rfl) (o_t rfl)) fun x5 =>
 Grp.opn (h_ld rfl rfl (o_t rfl)) fun x6 =>
 Grp.op (h_sneq (o_t rfl) o_s) fun x7 =>
 Grp.nil (o_t rfl)) fun x8 =>
 Sim.op1 (h_mv (o_t rfl)) <|
 Sim.or 6 rfl rfl rfl (Grp.op1 (h_mv (o_t rfl)) <|
 Grp.op1 (h_mv (o_t rfl)) <|
 Grp.op (h_sub (I := (IT.int .i64)) (o_t rfl) o_i) fun x9 =>
 Grp.op (h_ias rfl (o_t rfl) (o_t rfl)) fun x10 =>
 Grp.opn (h_ld rfl rfl (o_t rfl)) fun x11 =>
 Grp.op (h_sneq (o_t rfl) o_s) fun x12 =>
 Grp.nil (o_t rfl)) fun x13 =>
 Sim.doneS <| Sim.cond (o_t rfl) (
 Sim.seqI <| Sim.op1 (h_mv (o_nils (t := T_r36_Pair))) <| Sim.turn (born (n := 2) (j := 2002) rfl rfl) <|
 Sim.op1 (h_mv o_i) <|
 Sim.doneS <| Sim.frzRow 2002 rfl rfl <| Sim.ret (.cons (res_t rfl) <| .one (res_t rfl))) (
 Sim.skip <| Sim.doneS <| Sim.seqI <| Sim.op1 (h_mv (o_t rfl)) <|
 Sim.op1 (h_mv (o_t rfl)) <|
 Sim.op (h_sub (I := (IT.int .i64)) (o_t rfl) o_i) fun x14 =>
 Sim.op (h_sll rfl (o_t rfl) .none (.some (o_t rfl))) fun x15 =>
 Sim.op1 (h_mv (o_t rfl)) <|
 Sim.doneS <| Sim.seqI <| Sim.seqI <| Sim.op1 (h_mv o_i) <|
 Sim.doneS <| Sim.blkI <| Sim.loop (id := 0) (σ := Int) (τ := Unit) (fun s16 => ⟨[(4, .val (T.sl T.str) x15), (6, .val (T.int .i64) s16)], []⟩) (fun p17 => ⟨[(4, .val (T.sl T.str) x15)], []⟩) 0 ⟨⟨⟨rfl, trivial⟩, ⟨⟨rfl, trivial⟩, trivial⟩⟩, trivial⟩ (fun _ => rfl) (fun s16 =>
 Sim.seqI <| Sim.seqI <| Sim.op1 (h_mv (o_t rfl)) <|
 Sim.op1 (h_mv (o_t rfl)) <|
 Sim.op (h_len (o_t rfl)) fun x18 =>
 Sim.op (h_cmp (I := (IT.int .i64)) rfl (o_t rfl) (o_t rfl)) fun x19 =>
 Sim.doneS <| Sim.cond (o_t rfl) (
 Sim.skip <| Sim.doneS <| Sim.seqI <| Sim.blkI <| Sim.seqI <| Sim.op1 (h_mv (o_t rfl)) <|
 Sim.op1 (h_mv (o_t rfl)) <|
 Sim.op (h_ias rfl (o_t rfl) (o_t rfl)) fun x20 =>
 Sim.opn (h_ld rfl rfl (o_t rfl)) fun x21 =>
 Sim.op (h_seql (o_t rfl) o_s) fun x22 =>
 Sim.doneS <| Sim.cond (o_t rfl) (
 Sim.seqI <| Sim.op1 (h_mv (o_nils (t := T_r36_Pair))) <| Sim.turn (born (n := 2) (j := 1002) rfl rfl) <|
 Sim.op1 (h_mv o_i) <|
 Sim.doneS <| Sim.outRet <| Sim.frzRow 1002 rfl rfl <| Sim.ret (.cons (res_t rfl) <| .one (res_t rfl))) (
 Sim.skip <| Sim.doneB <| Sim.doneS <| Sim.op1 (h_mv (o_t rfl)) <|
 Sim.op (h_add (I := (IT.int .i64)) (o_t rfl) o_i) fun x23 =>
 Sim.op1 (h_mv (o_t rfl)) <|
 Sim.next x23 ⟨⟨⟨rfl, trivial⟩, ⟨⟨rfl, trivial⟩, trivial⟩⟩, trivial⟩)) (
 Sim.exitS <| Sim.out () ⟨⟨⟨rfl, trivial⟩, trivial⟩, trivial⟩)) (fun p17 =>
 Sim.exitB <| Sim.doneS <| Sim.seqI <| Sim.seqI <| Sim.op1 (h_mv (o_t rfl)) <|
 Sim.op (h_len (o_t rfl)) fun x24 =>
 Sim.op (h_cmp (I := (IT.int .i64)) rfl (o_t rfl) o_i) fun x25 =>
 Sim.doneS <| Sim.cond (o_t rfl) (
 Sim.seqI <| Sim.op1 (h_mv (o_nils (t := T_r36_Pair))) <| Sim.turn (born (n := 2) (j := 1002) rfl rfl) <|
 Sim.op1 (h_mv o_i) <|
 Sim.doneS <| Sim.frzRow 1002 rfl rfl <| Sim.ret (.cons (res_t rfl) <| .one (res_t rfl))) (
 Sim.skip <| Sim.doneS <| Sim.seqI <| Sim.op1 (h_mv (o_nils (t := T_r36_Pair))) <| Sim.turn (born (n := 7) (j := 1007) rfl rfl) <|
 Sim.doneS <| Sim.seqI <| Sim.seqI <| Sim.op1 (h_mv o_i) <|
 Sim.doneS <| Sim.blkI <| Sim.loop (id := 2) (σ := (Int × (GS S_r36_Pair))) (τ := (GS S_r36_Pair)) (fun s26 => ⟨[(4, .val (T.sl T.str) x15), (7, .own 1007), (8, .val (T.int .i64) s26.1)], [(1007, .row T_r36_Pair s26.2)]⟩) (fun p27 => ⟨[(7, .own 1007)], [(1007, .row T_r36_Pair p27)]⟩) (0, .nil) ⟨⟨⟨rfl, trivial⟩, ⟨⟨rfl, trivial⟩, ⟨⟨rfl, trivial⟩, trivial⟩⟩⟩, ⟨⟨rfl, trivial⟩, trivial⟩⟩ (fun _ => rfl) (fun s26 =>
 Sim.seqI <| Sim.seqI <| Sim.op1 (h_mv (o_t rfl)) <|
 Sim.op1 (h_mv (o_t rfl)) <|
 Sim.op (h_len (o_t rfl)) fun x28 =>
 Sim.op (h_cmp (I := (IT.int .i64)) rfl (o_t rfl) (o_t rfl)) fun x29 =>
 Sim.doneS <| Sim.cond (o_t rfl) (
 Sim.skip <| Sim.doneS <| Sim.seqI <| Sim.blkI <| Sim.seqI <| Sim.op1 (h_mv (o_t rfl)) <|
 Sim.op1 (h_mv (o_t rfl)) <|
 Sim.op (h_ias rfl (o_t rfl) (o_t rfl)) fun x30 =>
 Sim.opn (h_ld rfl rfl (o_t rfl)) fun x31 =>
 Sim.op (h_callN sp_r36_Parse (.one (o_t rfl))) fun x32 =>
 Sim.op1 (h_mv (o_t rfl)) <|
 Sim.opn (h_ext (o_t rfl) rfl) fun x33 =>
 Sim.opn (h_ext (o_t rfl) rfl) fun x34 =>
 Sim.opM (M_alloc (t := T_r36_Pair) 9 rfl rfl) fun x35 =>
 Sim.opM (M_stC (o_t rfl) (o_t rfl) rfl rfl (Fld.id _) rfl) fun x36 =>
 Sim.op1 (h_mv (o_t rfl)) <|
 Sim.doneS <| Sim.seqI <| Sim.seqI <| Sim.op1 (h_mv (o_t rfl)) <|
 Sim.op (h_cmp (I := (IT.int .i64)) rfl (o_t rfl) o_i) fun x37 =>
 Sim.doneS <| Sim.cond (o_t rfl) (
 Sim.seqI <| Sim.op1 (h_mv (o_t rfl)) <|
 Sim.op1 (h_mv (o_nils (t := T_r36_Pair))) <| Sim.turn (born (n := 2) (j := 1002) rfl rfl) <|
 Sim.op1 (h_mv (o_t rfl)) <|
 Sim.doneS <| Sim.outRet <| Sim.frzRow 1002 rfl rfl <| Sim.ret (.cons (res_t rfl) <| .one (res_t rfl))) (
 Sim.skip <| Sim.doneS <| Sim.op1 (h_mv (o_t rfl)) <|
 Sim.opn (h_ldC (t := T_r36_Pair) (u := T_r36_Pair) (o_t rfl) rfl rfl (Fld.id _) rfl rfl) fun x38 =>
 Sim.op (h_bll (t := T_r36_Pair) (n := 1) rfl rfl (.cons rfl (o_t rfl) <| .nil _)) fun x39 =>
 Sim.opM (M_app rfl (o_t rfl) rfl (n_sl (o_t rfl))) fun x40 =>
 Sim.op1 (h_mv (o_t rfl)) <|
 Sim.doneB <| Sim.doneS <| Sim.op1 (h_mv (o_t rfl)) <|
 Sim.op (h_add (I := (IT.int .i64)) (o_t rfl) o_i) fun x41 =>
 Sim.op1 (h_mv (o_t rfl)) <|
 Sim.next (x41, x40) ⟨⟨⟨rfl, trivial⟩, ⟨⟨rfl, trivial⟩, ⟨⟨rfl, trivial⟩, trivial⟩⟩⟩, ⟨⟨rfl, trivial⟩, trivial⟩⟩)) (
 Sim.exitS <| Sim.out s26.2 ⟨⟨⟨rfl, trivial⟩, trivial⟩, ⟨⟨rfl, trivial⟩, trivial⟩⟩)) (fun p27 =>
 Sim.exitB <| Sim.doneS <| Sim.seqI <| Sim.op1 (h_mv (o_t rfl)) <|
 Sim.op1 (h_mv (o_t rfl)) <|
 Sim.op1 (h_mv o_i) <|
 Sim.doneS <| Sim.frzRow 1007 rfl rfl <| Sim.ret (.cons (res_t rfl) <| .one (res_t rfl))))))
theorem sp_r36_Read : Spec tb fn_r36_Read [T.str] [(T.sl T_r36_Pair), (T.int .i64)] (fun a => r36_Read a) :=
  Spec.of f_r36_Read rfl rfl rfl sim_r36_Read

noncomputable def l36_PairlineReads (a0 : Str) : Option Bool :=
 if (decide (2000 < (a0.length : Int))) = true then
 (l36_alive ()).bind fun x3 =>
 some x3
 else
 (pairline_Read a0).bind fun x4 =>
 (r36_Read a0).bind fun x7 =>
 (l36_alike x4.1 x7.1).bind fun x10 =>
 (orO (!x10) (some (!decide (x4.2 = x7.2)))).bind fun x13 =>
 if x13 = true then
 some false
 else
 (pairline_Block x4.1).bind fun x14 =>
 (orO (!decide (x7.2 = 0)) ((andO (decide (x14.1 = a0)) (some (decide (x14.2 = 0)))).bind fun x20 =>
 some x20)).bind fun x21 =>
 (andO x21 ((l36_alive ()).bind fun x22 =>
 some x22)).bind fun x23 =>
 some x23
noncomputable def sim_l36_PairlineReads (a : Res [T.str]) : Sim tb ⟨argsT [T.str] 0 a, []⟩ c_l36_PairlineReads.body [] (QRes [T.b] c_l36_PairlineReads.res) :=
 Sim.seqI <| Sim.op1 (h_mv o_b) <|
 Sim.doneS <| Sim.seqI <| Sim.seqI <| Sim.op1 (h_mv (o_t rfl)) <|
 Sim.op (h_lens (o_t rfl)) fun x1 =>
 Sim.op (h_cmp (I := (IT.int .i64)) rfl (o_t rfl) o_i) fun x2 =>
 Sim.doneS <| Sim.cond (o_t rfl) (
 Sim.seqI <| Sim.op (h_call1 sp_l36_alive (.nil)) fun x3 =>
 Sim.op1 (h_mv (o_t rfl)) <|
 Sim.doneS <| Sim.ret (.one (res_t rfl))) (
 Sim.skip <| Sim.doneS <| Sim.seqI <| Sim.op1 (h_mv (o_t rfl)) <|
 Sim.op (h_callN sp_pairline_Read (.one (o_t rfl))) fun x4 =>
 Sim.op1 (h_mv (o_t rfl)) <|
 Sim.opn (h_ext (o_t rfl) rfl) fun x5 =>
 Sim.opn (h_ext (o_t rfl) rfl) fun x6 =>
 Sim.op1 (h_mv (o_t rfl)) <|
 Sim.op1 (h_mv (o_t rfl)) <|
 Sim.doneS <| Sim.seqI <| Sim.op1 (h_mv (o_t rfl)) <|
 Sim.op (h_callN sp_r36_Read (.one (o_t rfl))) fun x7 =>
 Sim.op1 (h_mv (o_t rfl)) <|
 Sim.opn (h_ext (o_t rfl) rfl) fun x8 =>
 Sim.opn (h_ext (o_t rfl) rfl) fun x9 =>
 Sim.op1 (h_mv (o_t rfl)) <|
 Sim.op1 (h_mv (o_t rfl)) <|
 Sim.doneS <| Sim.seqI <| Sim.seqI <| Sim.op1 (h_mv (o_t rfl)) <|
 Sim.op1 (h_mv (o_t rfl)) <|
 Sim.op (h_call1 sp_l36_alike (.cons (o_t rfl) <| .one (o_t rfl))) fun x10 =>
 Sim.op (h_not (o_t rfl)) fun x11 =>
 Sim.op1 (h_mv (o_t rfl)) <|
 Sim.or 3 rfl rfl rfl (Grp.op1 (h_mv (o_t rfl)) <|
 Grp.op1 (h_mv (o_t rfl)) <|
 Grp.op (h_cmp (I := (IT.int .i64)) rfl (o_t rfl) (o_t rfl)) fun x12 =>
 Grp.nil (o_t rfl)) fun x13 =>
 Sim.doneS <| Sim.cond (o_t rfl) (
 Sim.seqI <| Sim.op1 (h_mv o_b) <|
 Sim.doneS <| Sim.ret (.one (res_t rfl))) (
 Sim.skip <| Sim.doneS <| Sim.seqI <| Sim.op1 (h_mv (o_t rfl)) <|
 Sim.op (h_callN sp_pairline_Block (.one (o_t rfl))) fun x14 =>
 Sim.op1 (h_mv (o_t rfl)) <|
 Sim.opn (h_ext (o_t rfl) rfl) fun x15 =>
 Sim.opn (h_ext (o_t rfl) rfl) fun x16 =>
 Sim.op1 (h_mv (o_t rfl)) <|
 Sim.op1 (h_mv (o_t rfl)) <|
 Sim.doneS <| Sim.seqI <| Sim.op1 (h_mv (o_t rfl)) <|
 Sim.op (h_cmp (I := (IT.int .i64)) rfl (o_t rfl) o_i) fun x17 =>
 Sim.op1 (h_mv (o_t rfl)) <|
 Sim.or 7 rfl rfl rfl (Grp.op1 (h_mv (o_t rfl)) <|
 Grp.op1 (h_mv (o_t rfl)) <|
 Grp.op (h_seql (o_t rfl) (o_t rfl)) fun x18 =>
 Grp.op1 (h_mv (o_t rfl)) <|
 Grp.and 2 rfl rfl rfl rfl rfl (Grp.op1 (h_mv (o_t rfl)) <|
 Grp.op (h_cmp (I := (IT.int .i64)) rfl (o_t rfl) o_i) fun x19 =>
 Grp.nil (o_t rfl)) fun x20 =>
 Grp.nil (o_t rfl)) fun x21 =>
 Sim.op1 (h_mv (o_t rfl)) <|
 Sim.and 1 rfl rfl rfl (Grp.op (h_call1 sp_l36_alive (.nil)) fun x22 =>
 Grp.nil (o_t rfl)) fun x23 =>
 Sim.op1 (h_mv (o_t rfl)) <|
 Sim.doneS <| Sim.ret (.one (res_t rfl))))
theorem sp_l36_PairlineReads : Spec tb fn_l36_PairlineReads [T.str] [T.b] (fun a => l36_PairlineReads a) :=
  Spec.of f_l36_PairlineReads rfl rfl rfl sim_l36_PairlineReads

noncomputable def l36_PairlineMany (a0 : Int) : Option Bool :=
 (orO (decide (a0 < 0)) (some (decide (410 < a0)))).bind fun x3 =>
 if x3 = true then
 (l36_alive ()).bind fun x4 =>
 some x4
 else
 (iter (fun (s5 : (Str × Int × (GS S_pairline_Pair))) =>
 if (decide (s5.2.1 < a0)) = true then
 (if s5.1.length + [107, 61, 10].length ≤ 2 * most then some (s5.1 ++ [107, 61, 10]) else none).bind fun x8 =>
 (apG 32 s5.2.2 [(⟨[107], []⟩ : S_pairline_Pair)]).bind fun x11 =>
 some (.inl (x8, IntKind.i64.wrap (s5.2.1 + 1), x11))
 else
 some (.inr (.inl (s5.1, s5.2.2)))) ([], 0, .nil)).bind (Sum.elim (fun (p6 : (Str × (GS S_pairline_Pair))) =>
 (pairline_Block p6.2).bind fun x13 =>
 (if p6.1.length + [10].length ≤ 2 * most then some (p6.1 ++ [10]) else none).bind fun x16 =>
 (pairline_Read x16).bind fun x17 =>
 if (decide (400 < a0)) = true then
 (andO (decide (x13.1 = [])) (some (decide (x13.2 = 4)))).bind fun x23 =>
 (andO x23 (some (decide ((x17.1.l.length : Int) = 0)))).bind fun x26 =>
 (andO x26 (some (decide (x17.2 = 4)))).bind fun x28 =>
 (andO x28 ((l36_alive ()).bind fun x29 =>
 some x29)).bind fun x30 =>
 some x30
 else
 (if p6.1.length + [10].length ≤ 2 * most then some (p6.1 ++ [10]) else none).bind fun x31 =>
 (andO (decide (x13.1 = x31)) (some (decide (x13.2 = 0)))).bind fun x34 =>
 (andO x34 (some (decide ((x17.1.l.length : Int) = a0)))).bind fun x37 =>
 (andO x37 (some (decide (x17.2 = 0)))).bind fun x39 =>
 (andO x39 ((l36_alive ()).bind fun x40 =>
 some x40)).bind fun x41 =>
 some x41) some)
noncomputable def sim_l36_PairlineMany (a : Res [(T.int .i64)]) : Sim tb ⟨argsT [(T.int .i64)] 0 a, []⟩ c_l36_PairlineMany.body [] (QRes [T.b] c_l36_PairlineMany.res) :=
 Sim.seqI <| Sim.op1 (h_mv o_b) <|
 Sim.doneS <| Sim.seqI <| Sim.seqI <| Sim.op1 (h_mv (o_t rfl)) <|
 Sim.op (h_cmp (I := (IT.int .i64)) rfl (o_t rfl) o_i) fun x1 =>
 Sim.op1 (h_mv (o_t rfl)) <|
 Sim.or 2 rfl rfl rfl (Grp.op1 (h_mv (o_t rfl)) <|
 Grp.op (h_cmp (I := (IT.int .i64)) rfl (o_t rfl) o_i) fun x2 =>
 Grp.nil (o_t rfl)) fun x3 =>
 Sim.doneS <| Sim.cond (o_t rfl) (
 Sim.seqI <| Sim.op (h_call1 sp_l36_alive (.nil)) fun x4 =>
 Sim.op1 (h_mv (o_t rfl)) <|
 Sim.doneS <| Sim.ret (.one (res_t rfl))) (
 Sim.skip <| Sim.doneS <| Sim.seqI <| Sim.op1 (h_mv o_s) <|
 Sim.doneS <| Sim.seqI <| Sim.op1 (h_mv (o_nils (t := T_pairline_Pair))) <| Sim.turn (born (n := 4) (j := 1004) rfl rfl) <|
 Sim.doneS <| Sim.seqI <| Sim.seqI <| Sim.op1 (h_mv o_i) <|
 Sim.doneS <| Sim.blkI <| Sim.loop (id := 0) (σ := (Str × Int × (GS S_pairline_Pair))) (τ := (Str × (GS S_pairline_Pair))) (fun s5 => ⟨[(0, .val (T.int .i64) a), (3, .val T.str s5.1), (4, .own 1004), (5, .val (T.int .i64) s5.2.1)], [(1004, .row T_pairline_Pair s5.2.2)]⟩) (fun p6 => ⟨[(0, .val (T.int .i64) a), (3, .val T.str p6.1), (4, .own 1004)], [(1004, .row T_pairline_Pair p6.2)]⟩) ([], 0, .nil) ⟨⟨⟨rfl, trivial⟩, ⟨⟨rfl, trivial⟩, ⟨⟨rfl, trivial⟩, ⟨⟨rfl, trivial⟩, trivial⟩⟩⟩⟩, ⟨⟨rfl, trivial⟩, trivial⟩⟩ (fun _ => rfl) (fun s5 =>
 Sim.seqI <| Sim.seqI <| Sim.op1 (h_mv (o_t rfl)) <|
 Sim.op1 (h_mv (o_t rfl)) <|
 Sim.op (h_cmp (I := (IT.int .i64)) rfl (o_t rfl) (o_t rfl)) fun x7 =>
 Sim.doneS <| Sim.cond (o_t rfl) (
 Sim.skip <| Sim.doneS <| Sim.seqI <| Sim.blkI <| Sim.seqI <| Sim.op1 (h_mv (o_t rfl)) <|
 Sim.op (h_sadd (o_t rfl) o_s) fun x8 =>
 Sim.op1 (h_mv (o_t rfl)) <|
 Sim.doneS <| Sim.op1 (h_mv (o_t rfl)) <|
 Sim.op (h_bld rfl rfl (.cons F_pairline_Pair_Key rfl o_s <| .nil _)) fun x9 =>
 Sim.op (h_bll (t := T_pairline_Pair) (n := 1) rfl rfl (.cons rfl (o_t rfl) <| .nil _)) fun x10 =>
 Sim.opM (M_app rfl (o_t rfl) rfl (n_sl (o_t rfl))) fun x11 =>
 Sim.op1 (h_mv (o_t rfl)) <|
 Sim.doneB <| Sim.doneS <| Sim.op1 (h_mv (o_t rfl)) <|
 Sim.op (h_add (I := (IT.int .i64)) (o_t rfl) o_i) fun x12 =>
 Sim.op1 (h_mv (o_t rfl)) <|
 Sim.next (x8, x12, x11) ⟨⟨⟨rfl, trivial⟩, ⟨⟨rfl, trivial⟩, ⟨⟨rfl, trivial⟩, ⟨⟨rfl, trivial⟩, trivial⟩⟩⟩⟩, ⟨⟨rfl, trivial⟩, trivial⟩⟩) (
 Sim.exitS <| Sim.out (s5.1, s5.2.2) ⟨⟨⟨rfl, trivial⟩, ⟨⟨rfl, trivial⟩, ⟨⟨rfl, trivial⟩, trivial⟩⟩⟩, ⟨⟨rfl, trivial⟩, trivial⟩⟩)) (fun p6 =>
 Sim.exitB <| Sim.doneS <| Sim.seqI <| Sim.op1 (h_mv (o_t rfl)) <|
 Sim.frzRow 1004 rfl rfl <| Sim.op (h_callN sp_pairline_Block (.one (o_t rfl))) fun x13 =>
 Sim.op1 (h_mv (o_t rfl)) <|
 Sim.opn (h_ext (o_t rfl) rfl) fun x14 =>
 Sim.opn (h_ext (o_t rfl) rfl) fun x15 =>
 Sim.op1 (h_mv (o_t rfl)) <|
 Sim.op1 (h_mv (o_t rfl)) <|
 Sim.doneS <| Sim.seqI <| Sim.op1 (h_mv (o_t rfl)) <|
 Sim.op (h_sadd (o_t rfl) o_s) fun x16 =>
 Sim.op (h_callN sp_pairline_Read (.one (o_t rfl))) fun x17 =>
 Sim.op1 (h_mv (o_t rfl)) <|
 Sim.opn (h_ext (o_t rfl) rfl) fun x18 =>
 Sim.opn (h_ext (o_t rfl) rfl) fun x19 =>
 Sim.op1 (h_mv (o_t rfl)) <|
 Sim.op1 (h_mv (o_t rfl)) <|
 Sim.doneS <| Sim.seqI <| Sim.seqI <| Sim.op1 (h_mv (o_t rfl)) <|
 Sim.op (h_cmp (I := (IT.int .i64)) rfl (o_t rfl) o_i) fun x20 =>
 Sim.doneS <| Sim.cond (o_t rfl) (
 Sim.seqI <| Sim.op1 (h_mv (o_t rfl)) <|
 Sim.op (h_seql (o_t rfl) o_s) fun x21 =>
 Sim.op1 (h_mv (o_t rfl)) <|
 Sim.and 2 rfl rfl rfl (Grp.op1 (h_mv (o_t rfl)) <|
 Grp.op (h_cmp (I := (IT.int .i64)) rfl (o_t rfl) o_i) fun x22 =>
 Grp.nil (o_t rfl)) fun x23 =>
 Sim.op1 (h_mv (o_t rfl)) <|
 Sim.and 3 rfl rfl rfl (Grp.op1 (h_mv (o_t rfl)) <|
 Grp.op (h_len (o_t rfl)) fun x24 =>
 Grp.op (h_cmp (I := (IT.int .i64)) rfl (o_t rfl) o_i) fun x25 =>
 Grp.nil (o_t rfl)) fun x26 =>
 Sim.op1 (h_mv (o_t rfl)) <|
 Sim.and 2 rfl rfl rfl (Grp.op1 (h_mv (o_t rfl)) <|
 Grp.op (h_cmp (I := (IT.int .i64)) rfl (o_t rfl) o_i) fun x27 =>
 Grp.nil (o_t rfl)) fun x28 =>
 Sim.op1 (h_mv (o_t rfl)) <|
 Sim.and 1 rfl rfl rfl (Grp.op (h_call1 sp_l36_alive (.nil)) fun x29 =>
 Grp.nil (o_t rfl)) fun x30 =>
 Sim.op1 (h_mv (o_t rfl)) <|
 Sim.doneS <| Sim.ret (.one (res_t rfl))) (
 Sim.skip <| Sim.doneS <| Sim.seqI <| Sim.op1 (h_mv (o_t rfl)) <|
 Sim.op1 (h_mv (o_t rfl)) <|
 Sim.op (h_sadd (o_t rfl) o_s) fun x31 =>
 Sim.op (h_seql (o_t rfl) (o_t rfl)) fun x32 =>
 Sim.op1 (h_mv (o_t rfl)) <|
 Sim.and 2 rfl rfl rfl (Grp.op1 (h_mv (o_t rfl)) <|
 Grp.op (h_cmp (I := (IT.int .i64)) rfl (o_t rfl) o_i) fun x33 =>
 Grp.nil (o_t rfl)) fun x34 =>
 Sim.op1 (h_mv (o_t rfl)) <|
 Sim.and 4 rfl rfl rfl (Grp.op1 (h_mv (o_t rfl)) <|
 Grp.op (h_len (o_t rfl)) fun x35 =>
 Grp.op1 (h_mv (o_t rfl)) <|
 Grp.op (h_cmp (I := (IT.int .i64)) rfl (o_t rfl) (o_t rfl)) fun x36 =>
 Grp.nil (o_t rfl)) fun x37 =>
 Sim.op1 (h_mv (o_t rfl)) <|
 Sim.and 2 rfl rfl rfl (Grp.op1 (h_mv (o_t rfl)) <|
 Grp.op (h_cmp (I := (IT.int .i64)) rfl (o_t rfl) o_i) fun x38 =>
 Grp.nil (o_t rfl)) fun x39 =>
 Sim.op1 (h_mv (o_t rfl)) <|
 Sim.and 1 rfl rfl rfl (Grp.op (h_call1 sp_l36_alive (.nil)) fun x40 =>
 Grp.nil (o_t rfl)) fun x41 =>
 Sim.op1 (h_mv (o_t rfl)) <|
 Sim.doneS <| Sim.ret (.one (res_t rfl)))))
theorem sp_l36_PairlineMany : Spec tb fn_l36_PairlineMany [(T.int .i64)] [T.b] (fun a => l36_PairlineMany a) :=
  Spec.of f_l36_PairlineMany rfl rfl rfl sim_l36_PairlineMany

end Go.Proofs.YtopgecohakediaaDoor.Am
