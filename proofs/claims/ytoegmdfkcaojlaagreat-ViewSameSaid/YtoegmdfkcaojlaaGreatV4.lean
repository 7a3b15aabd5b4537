/-
  Each code is the program's. Printed by mkwalk.py.
  Plain laws: numbers, pieces of lists, a text split at a byte.
  What functions compute, and that they do. Printed by mkwalk.py.
  All walks. Printed by mkwalk.py.
  Plain laws: addresses, prefixes, endpoints: which may be, which is ahead.
  Plain laws: what the functions that split a text come to.
  Plain laws: texts without blanks at their ends, letters made small.
  Plain laws: two loops side by side; a text's lines with and without an end.
  Plain laws: runes of a text; one of two bytes in a text.
  Plain laws: lines of pairs; the law PairlineLines.
  Plain laws: the text of lines; the laws LinesSplit and LinesJoin.
  Plain laws: blocks of pairs; the laws PairlineBlocks, PairlineReads, PairlineMany.
  Plain laws: a number's digits; the text of an error.
  Plain laws: which configurations may be.
  Plain laws: what one may see of a state: ViewRight, ViewSame.
  The law.
-/
import Derived.Test.YtoegmdfkcaojlaaGreatProg
import Derived.KernelRfl
import Derived.Test.YtoegmdfkcaojlaaGreatV3
set_option linter.unusedSimpArgs false
section
set_option linter.unusedVariables false
set_option maxRecDepth 100000
set_option maxHeartbeats 4000000
namespace Go.Proofs.YtoegmdfkcaojlaaGreat.Am
open Go.Proofs
theorem k_all : fnl.all (fun x => okFn (okOp Tryz.prog) Tryz.prog x.2 x.1) = true := by kernel_rfl
theorem k_internal_bytealg_Compare : ext? Tryz.prog fn_internal_bytealg_Compare = some Extern.BytealgCompare.compare := by kernel_rfl
theorem fits : Fits (okOp Tryz.prog) Tryz.prog tb := by
  refine ⟨by kernel_rfl, fun ao o h => okOp_spec ao o h, fun _ _ _ h => okOp_alloc h, fun g p h => ?_, fun g cs h => (by cases h), fun g fn h => ?_⟩
  · have hm := look_mem h
    have all : ∀ x ∈ prl, CallsOk Tryz.prog tb fun g args h => if g = x.1 then x.2 args h else none := by
      simp only [prl, List.forall_mem_cons]
      exact ⟨prim_compare k_internal_bytealg_Compare, ans_l34_alive, fun x h => (by cases h)⟩
    exact all _ hm
  have hm := look_mem h
  exact List.all_eq_true.1 k_all _ hm
end Go.Proofs.YtoegmdfkcaojlaaGreat.Am
end
namespace Go.Proofs.YtoegmdfkcaojlaaGreat.Am
theorem wrapI {x : Int} (h0 : -9223372036854775808 ≤ x) (h1 : x < 9223372036854775808) : IntKind.i64.wrap x = x := by
  simp only [IntKind.wrap, IntKind.bits, IntKind.signed]; simp; omega
theorem wrapN {m : Nat} (h : m < 9223372036854775808) : IntKind.i64.wrap (m : Int) = m := wrapI (by omega) (by omega)
section
variable {α : Type}
theorem idx_nat {l : List α} {n : Nat} : idx l (n : Int) = l[n]? := by simp [idx]
@[simp] theorem GS.l_mk {l : List α} : (GS.mk l).l = l := rfl
@[simp] theorem GS.l_nil : (GS.nil : GS α).l = [] := rfl
theorem iter_ind {σ β : Type} {F : σ → Option (σ ⊕ β)} (m : σ → Nat) (I : σ → Prop) (Q : β → Prop)
    (step : ∀ s, I s → (∃ s', F s = some (.inl s') ∧ I s' ∧ m s' < m s) ∨ ∃ b, F s = some (.inr b) ∧ Q b) : ∀ {s}, I s → ∃ b, iter F s = some b ∧ Q b := by
  have key : ∀ n s, m s < n → I s → ∃ b, iter F s = some b ∧ Q b := by
    intro n
    induction n with
    | zero => intro s h; omega
    | succ n ih =>
      intro s h hI
      rcases step s hI with ⟨s', e, hI', hm⟩ | ⟨b, e, hq⟩
      · rw [iter_next e]; exact ih s' (by omega) hI'
      · exact ⟨b, iter_last e, hq⟩
  intro s hI
  exact key _ s (Nat.lt_succ_self _) hI
theorem iter_then {σ β γ : Type} {F : σ → Option (σ ⊕ β)} {K : β → Option γ} {r : Option γ} {s : σ} (m : σ → Nat) (I : σ → Prop) (Q : β → Prop) (h : I s)
    (step : ∀ s, I s → (∃ s', F s = some (.inl s') ∧ I s' ∧ m s' < m s) ∨ ∃ b, F s = some (.inr b) ∧ Q b) (fin : ∀ b, Q b → K b = r) : (iter F s).bind K = r := by
  obtain ⟨b, e, hb⟩ := iter_ind m I Q step h
  rw [e]; exact fin b hb
end
end Go.Proofs.YtoegmdfkcaojlaaGreat.Am
section
set_option linter.unusedVariables false
set_option maxRecDepth 100000
set_option maxHeartbeats 4000000
namespace Go.Proofs.YtoegmdfkcaojlaaGreat.Am
abbrev en_0 : Nat × Slot := (2000024, .ghost (.val T.b true))
def internal_bytealg_Compare (a0 : GS UInt8) (a1 : GS UInt8) : Option Int := some (cmpBy a0.l a1.l)
theorem sp_internal_bytealg_Compare : Spec tb fn_internal_bytealg_Compare [T.sl T.u8, T.sl T.u8] [T.int .i64] (fun a => internal_bytealg_Compare a.1 a.2) := Spec.cmp rfl
def l34_alive (_ : Unit) : Option Bool := some true
theorem sp_l34_alive : Spec tb fn_l34_alive [] [T.b] (fun _ => l34_alive ()) := Spec.ans rfl
noncomputable def r34_Large (a0 : S_api_Conf) : Option Bool :=
 if (decide (20 < (a0.Peers.l.length : Int))) = true then
 some true
 else
 (iter (fun (s4 : Int) =>
 if (decide (s4 < (a0.Peers.l.length : Int))) = true then
 (idx a0.Peers.l s4).bind fun x10 =>
 if (decide (80 < (x10.Allowed.l.length : Int))) = true then
 (some true).map fun r => .inr (.inr r)
 else
 some (.inl (IntKind.i64.wrap (s4 + 1)))
 else
 some (.inr (.inl ()))) 0).bind (Sum.elim (fun (p5 : Unit) =>
 some false) some)
noncomputable def sim_r34_Large (a : Res [T_api_Conf]) : SimF tb c_r34_Large [T_api_Conf] [T.b] a :=
 Sim.seqI <| Sim.opMV (M_box (t := T_api_Conf) 1 r_ r_ o_T) fun _ =>
 Sim.op1 (h_mv o_b) <|
 Sim.dsI <| Sim.seqI <| Sim.op1 (h_faC o_T) <|
 Sim.opn (h_ldC (t := T_api_Conf) (u := (T.sl T_api_Peer)) o_T r_ r_ F_api_Conf_Peers r_ r_) fun x1 =>
 Sim.opV (h_len o_T) fun x2 =>
 Sim.opV (h_cmpI r_ o_T o_i) fun x3 =>
 Sim.doneS <| Sim.cond o_T (
 Sim.seqI <| Sim.op1 (h_mv o_b) <|
 Sim.doneS <| Sim.ret (.one (res_t r_))) (
 Sim.skip <| Sim.dsI <| Sim.seqI <| Sim.op1 (h_mv o_i) <|
 Sim.doneS <| Sim.blkI <| Sim.loop (id := 0) (σ := Int) (τ := Unit) (fun s4 => ⟨[(1, .cp 1 0), (3, .val (T.int .i64) s4)], [(1, .cells [(35, .val T_api_Conf a)])]⟩) (fun p5 => ⟨[], []⟩) 0 sB (fun _ => r_) (fun s4 =>
 Sim.seqI <| Sim.seqI <| Sim.mvT r_ <|
 Sim.op1 (h_faC o_T) <|
 Sim.opn (h_ldC (t := T_api_Conf) (u := (T.sl T_api_Peer)) o_T r_ r_ F_api_Conf_Peers r_ r_) fun x6 =>
 Sim.opV (h_len o_T) fun x7 =>
 Sim.opV (h_cmpI r_ o_T o_T) fun x8 =>
 Sim.doneS <| Sim.cond o_T (
 Sim.skip <| Sim.dsI <| Sim.blkI <| Sim.seqI <| Sim.op1 (h_faC o_T) <|
 Sim.opn (h_ldC (t := T_api_Conf) (u := (T.sl T_api_Peer)) o_T r_ r_ F_api_Conf_Peers r_ r_) fun x9 =>
 Sim.mvT r_ <|
 Sim.op (h_ias r_ o_T o_T) fun x10 =>
 Sim.opr (h_fa F_api_Peer_Allowed o_T) fun x11 =>
 Sim.opn (h_ld r_ r_ o_T) fun x12 =>
 Sim.opV (h_len o_T) fun x13 =>
 Sim.opV (h_cmpI r_ o_T o_i) fun x14 =>
 Sim.doneS <| Sim.cond o_T (
 Sim.seqI <| Sim.op1 (h_mv o_b) <|
 Sim.doneS <| Sim.outRet <| Sim.ret (.one (res_t r_))) (
 Sim.skip <| Sim.doneB <| Sim.doneS <| Sim.mvT r_ <|
 Sim.opV (h_add (I := (IT.int .i64)) o_T o_i) fun x15 =>
 Sim.mvT r_ <|
 Sim.next x15 sB)) (
 Sim.exitS <| Sim.out () sB)) (fun p5 =>
 Sim.exitB <| Sim.dsI <| Sim.op1 (h_mv o_b) <|
 Sim.doneS <| Sim.ret (.one (res_t r_))))
theorem sp_r34_Large : Spec tb fn_r34_Large [T_api_Conf] [T.b] (fun a => r34_Large a) :=
  Spec.of f_r34_Large r_ r_ r_ sim_r34_Large
noncomputable def addr_Four (a0 : (Ar UInt8 4)) : Option S_api_Addr :=
 (if 0 + 4 ≤ 4 then cpyA ((⟨4, (T.arr 16 T.u8).z⟩ : S_api_Addr).B) 0 16 ((a0.l.drop 0).take 4) else none).bind fun x5 =>
 let x6 := ({ (⟨4, (T.arr 16 T.u8).z⟩ : S_api_Addr) with B := x5 })
 some x6
noncomputable def sim_addr_Four (a : Res [(T.arr 4 T.u8)]) : SimF tb c_addr_Four [(T.arr 4 T.u8)] [T_api_Addr] a :=
 Sim.seqI <| Sim.opMV (M_box (t := (T.arr 4 T.u8)) 1 r_ r_ o_T) fun _ =>
 Sim.opMV (M_alloc (t := T_api_Addr) 2 r_ r_) fun x1 =>
 Sim.dsI <| Sim.opV (h_bld r_ r_ (.cons F_api_Addr_V r_ o_i <| .nil _)) fun x2 =>
 Sim.opMV (M_alloc (t := T_api_Addr) 3 r_ r_) fun x3 =>
 Sim.opMV (M_stC o_T o_T r_ r_ (Fld.id _) r_) fun x4 =>
 Sim.dsI <| Sim.regd 1 <| SimD.op1 r_ (h_faC o_T) <|
 SimD.op1 r_ (h_slaL (k := 0) (m := 16) r_ r_ o_T .none .none r_ r_ r_) <|
 SimD.op1 r_ (h_slaL (k := 0) (m := 4) r_ r_ o_T .none .none r_ r_ r_) <|
 SimD.opM r_ (fun _ => .nil) (.nil) (M_if (c := 0 + 4 ≤ 4) fun hc => M_cpyD (t := T.u8) (s := T_api_Addr) (o := 1) (k := 0) F_api_Addr_B r_ o_T (n_oc (o := 0) (k := 0) (m := 4) (n := 4) (Fld.id _) r_ o_T r_ r_ hc) r_ r_) fun x5 =>
 SimD.done <| Sim.dsI <| Sim.opn (h_ldC (t := T_api_Addr) (u := T_api_Addr) o_T r_ r_ (Fld.id _) r_ r_) fun x6 =>
 Sim.opMV (M_stC o_T o_T r_ r_ (Fld.id _) r_) fun x7 =>
 Sim.doneS <| Sim.ret (.one (res_c r_ r_ r_ (Fld.id _) r_ r_))
theorem sp_addr_Four : Spec tb fn_addr_Four [(T.arr 4 T.u8)] [T_api_Addr] (fun a => addr_Four a) :=
  Spec.of f_addr_Four r_ r_ r_ sim_addr_Four
noncomputable def addr_Right (a0 : S_api_Addr) : Option Bool :=
 (orO (decide (a0.V = 6)) ((andO (decide (a0.V = 4)) (let x6 := (⟨(a0.B.l.drop 0).take 4, by rw [List.length_take, List.length_drop, Ar.len]; rfl⟩ : (Ar UInt8 4))
 (addr_Four x6).bind fun x7 =>
 some (cmpB C_api_Addr a0 x7))).bind fun x9 =>
 some x9)).bind fun x10 =>
 some x10
noncomputable def sim_addr_Right (a : Res [T_api_Addr]) : SimF tb c_addr_Right [T_api_Addr] [T.b] a :=
 Sim.seqI <| Sim.opMV (M_box (t := T_api_Addr) 1 r_ r_ o_T) fun _ =>
 Sim.op1 (h_mv o_b) <|
 Sim.dsI <| Sim.op1 (h_faC o_T) <|
 Sim.opn (h_ldC (t := T_api_Addr) (u := (T.int .i64)) o_T r_ r_ F_api_Addr_V r_ r_) fun x1 =>
 Sim.opV (h_cmpI r_ o_T o_i) fun x2 =>
 Sim.mvT r_ <|
 Sim.or 12 r_ r_ r_ (Grp.op1 (h_faC o_T) <|
 Grp.opn (h_ldC (t := T_api_Addr) (u := (T.int .i64)) o_T r_ r_ F_api_Addr_V r_ r_) fun x3 =>
 Grp.opV (h_cmpI r_ o_T o_i) fun x4 =>
 Grp.op1 (h_mv (o_t r_)) <|
 Grp.and 7 r_ r_ r_ r_ r_ (Grp.opn (h_ldC (t := T_api_Addr) (u := T_api_Addr) o_T r_ r_ (Fld.id _) r_ r_) fun x5 =>
 Grp.op1 (h_faC o_T) <|
 Grp.op1 (h_slaL (k := 0) (m := 4) r_ r_ o_T .none (.some o_i) r_ r_ r_) <|
 Grp.op1 (h_s2aC o_T r_) <|
 Grp.opn (h_ldC (t := T_api_Addr) (u := (T.arr 4 T.u8)) o_T r_ r_ (Fld.comp F_api_Addr_B (Fld.piece 16 T.u8 0 4 (by decide))) r_ r_) fun x6 =>
 Grp.op (h_call1 sp_addr_Four (.one o_T)) fun x7 =>
 Grp.opV (h_eq C_api_Addr r_ r_ o_T o_T) fun x8 =>
 Grp.nil o_T) fun x9 =>
 Grp.nil o_T) fun x10 =>
 Sim.mvT r_ <|
 Sim.doneS <| Sim.ret (.one (res_t r_))
theorem sp_addr_Right : Spec tb fn_addr_Right [T_api_Addr] [T.b] (fun a => addr_Right a) :=
  Spec.of f_addr_Right r_ r_ r_ sim_addr_Right
noncomputable def addr_Width (a0 : S_api_Addr) : Option Int :=
 (addr_Right a0).bind fun x2 =>
 if (!x2) = true then
 some 0
 else
 if (decide (a0.V = 4)) = true then
 some 32
 else
 some 128
noncomputable def sim_addr_Width (a : Res [T_api_Addr]) : SimF tb c_addr_Width [T_api_Addr] [(T.int .i64)] a :=
 Sim.seqI <| Sim.opMV (M_box (t := T_api_Addr) 1 r_ r_ o_T) fun _ =>
 Sim.op1 (h_mv o_i) <|
 Sim.dsI <| Sim.blkI <| Sim.seqI <| Sim.opn (h_ldC (t := T_api_Addr) (u := T_api_Addr) o_T r_ r_ (Fld.id _) r_ r_) fun x1 =>
 Sim.op (h_call1 sp_addr_Right (.one o_T)) fun x2 =>
 Sim.opV (h_not o_T) fun x3 =>
 Sim.mvT r_ <|
 Sim.doneS <| Sim.cond o_T (
 Sim.seqI <| Sim.op1 (h_mv o_i) <|
 Sim.doneS <| Sim.ret (.one (res_t r_))) (
 Sim.seqI <| Sim.op1 (h_faC o_T) <|
 Sim.opn (h_ldC (t := T_api_Addr) (u := (T.int .i64)) o_T r_ r_ F_api_Addr_V r_ r_) fun x4 =>
 Sim.opV (h_cmpI r_ o_T o_i) fun x5 =>
 Sim.mvT r_ <|
 Sim.doneS <| Sim.cond o_T (
 Sim.seqI <| Sim.op1 (h_mv o_i) <|
 Sim.doneS <| Sim.ret (.one (res_t r_))) (
 Sim.skip <| Sim.doneB <| Sim.dsI <| Sim.op1 (h_mv o_i) <|
 Sim.doneS <| Sim.ret (.one (res_t r_))))
theorem sp_addr_Width : Spec tb fn_addr_Width [T_api_Addr] [(T.int .i64)] (fun a => addr_Width a) :=
  Spec.of f_addr_Width r_ r_ r_ sim_addr_Width
noncomputable def addr_Mask (a0 : S_api_Addr) (a1 : Int) : Option S_api_Addr :=
 (addr_Right a0).bind fun x3 =>
 if (!x3) = true then
 some (⟨0, (T.arr 16 T.u8).z⟩ : S_api_Addr)
 else
 (iter (fun (s7 : (Int × S_api_Addr)) =>
 if (decide (s7.1 < 16)) = true then
 let x11 := IntKind.i64.wrap (a1 - IntKind.i64.wrap (8 * s7.1))
 let x13 := if 8 < if 0 > x11 then 0 else x11 then 8 else if 0 > x11 then 0 else x11
 (if (decide (a1 < 0)) = true then
 some (.inl 0)
 else
 some (.inl x13) : Option (Int ⊕ _)).bind (Sum.elim (fun (p15 : Int) =>
 (idxN 16 s7.1).bind fun x17 =>
 (s7.2.B.l[x17]?).bind fun x18 =>
 (if ((ofU64 (IntKind.i64.wrap (8 - p15))).toNat : Int) < 0 then none else some (ofU8 (((255 : UInt8).toNat : Int) * 2 ^ (min ((ofU64 (IntKind.i64.wrap (8 - p15))).toNat : Int).toNat 8)))).bind fun x21 =>
 let x22 := ofU8 (bitsR .and .u8 (x18.toNat : Int) (x21.toNat : Int))
 (idxN 16 s7.1).bind fun x23 =>
 (if x23 < 16 then some ({ s7.2 with B := s7.2.B.set x23 x22 }) else none).bind fun x24 =>
 some (.inl (IntKind.i64.wrap (s7.1 + 1), x24))) some)
 else
 some (.inr (.inl s7.2))) (0, a0)).bind (Sum.elim (fun (p8 : S_api_Addr) =>
 some p8) some)
noncomputable def sim_addr_Mask (a : Res [T_api_Addr, (T.int .i64)]) : SimF tb c_addr_Mask [T_api_Addr, (T.int .i64)] [T_api_Addr] a :=
 Sim.seqI <| Sim.opMV (M_box (t := T_api_Addr) 2 r_ r_ o_T) fun _ =>
 Sim.opMV (M_alloc (t := T_api_Addr) 4 r_ r_) fun x1 =>
 Sim.dsI <| Sim.seqI <| Sim.opn (h_ldC (t := T_api_Addr) (u := T_api_Addr) o_T r_ r_ (Fld.id _) r_ r_) fun x2 =>
 Sim.op (h_call1 sp_addr_Right (.one o_T)) fun x3 =>
 Sim.opV (h_not o_T) fun x4 =>
 Sim.doneS <| Sim.cond o_T (
 Sim.seqI <| Sim.opV (h_bld r_ r_ (.nil _)) fun x5 =>
 Sim.opMV (M_stC o_T o_T r_ r_ (Fld.id _) r_) fun x6 =>
 Sim.doneS <| Sim.ret (.one (res_c r_ r_ r_ (Fld.id _) r_ r_))) (
 Sim.skip <| Sim.dsI <| Sim.seqI <| Sim.op1 (h_mv o_i) <|
 Sim.doneS <| Sim.blkI <| Sim.loop (id := 0) (σ := (Int × S_api_Addr)) (τ := S_api_Addr) (fun s7 => ⟨[(1, .val (T.int .i64) a.2), (2, .cp 2 0), (4, .cp 4 0), (11, .val (T.int .i64) s7.1)], [(2, .cells [(17, .val T_api_Addr s7.2)]), (4, .cells [(17, .val T_api_Addr x1)])]⟩) (fun p8 => ⟨[(2, .cp 2 0), (4, .cp 4 0)], [(2, .cells [(17, .val T_api_Addr p8)]), (4, .cells [(17, .val T_api_Addr x1)])]⟩) (0, a.1) sB (fun _ => r_) (fun s7 =>
 Sim.seqI <| Sim.opV (h_cmpI r_ o_T o_i) fun x9 =>
 Sim.dsI <| Sim.cond o_T (
 Sim.skip <| Sim.dsI <| Sim.blkI <| Sim.seqI <| Sim.mvT r_ <|
 Sim.mvT r_ <|
 Sim.dsI <| Sim.mvT r_ <|
 Sim.mvT r_ <|
 Sim.opV (h_mul (I := (IT.int .i64)) o_i o_T) fun x10 =>
 Sim.opV (h_sub (I := (IT.int .i64)) o_T o_T) fun x11 =>
 Sim.opV (h_max (I := (IT.int .i64)) (mx := true) o_T o_i) fun x12 =>
 Sim.opV (h_max (I := (IT.int .i64)) (mx := false) o_T o_i) fun x13 =>
 Sim.mvT r_ <|
 Sim.dsI <| Sim.seqI <| Sim.mvT r_ <|
 Sim.opV (h_cmpI r_ o_T o_i) fun x14 =>
 Sim.doneS <| Sim.joinS (τ := Int) (fun p15 => ⟨[(1, .val (T.int .i64) a.2), (2, .cp 2 0), (4, .cp 4 0), (5, .val (T.int .i64) s7.1), (6, .val (T.int .i64) p15), (11, .val (T.int .i64) s7.1)], [(2, .cells [(17, .val T_api_Addr s7.2)]), (4, .cells [(17, .val T_api_Addr x1)])]⟩) (fun p15 =>
 Sim.doneS <| Sim.mvT r_ <|
 Sim.op1 (h_faC o_T) <|
 Sim.op (h_iaaC o_T o_T) fun x17 =>
 Sim.op (h_ldA F_api_Addr_B r_ r_ o_T r_ r_) fun x18 =>
 Sim.mvT r_ <|
 Sim.opV (h_sub (I := (IT.int .i64)) o_i o_T) fun x19 =>
 Sim.opV (h_cvi (I := (IT.int .i64)) (J := IT.u64) r_ o_T) fun x20 =>
 Sim.op (h_shl (I := IT.u8) (J := IT.u64) (o_u8 255 r_) o_T) fun x21 =>
 Sim.opV (h_and (I := IT.u8) o_T o_T) fun x22 =>
 Sim.op1 (h_faC o_T) <|
 Sim.op (h_iaaC o_T o_T) fun x23 =>
 Sim.opM (M_stA (s := T_api_Addr) F_api_Addr_B r_ o_T o_T r_ r_) fun x24 =>
 Sim.doneB <| Sim.doneS <| Sim.opV (h_add (I := (IT.int .i64)) o_T o_i) fun x25 =>
 Sim.mvT r_ <|
 Sim.next (x25, x24) sB) <| Sim.cond o_T (
 Sim.op1 (h_mv o_i) <|
 Sim.jn 0 sB) (
 Sim.skip <| Sim.jn x13 sB)) (
 Sim.exitS <| Sim.out s7.2 sB)) (fun p8 =>
 Sim.exitB <| Sim.dsI <| Sim.opn (h_ldC (t := T_api_Addr) (u := T_api_Addr) o_T r_ r_ (Fld.id _) r_ r_) fun x26 =>
 Sim.opMV (M_stC o_T o_T r_ r_ (Fld.id _) r_) fun x27 =>
 Sim.doneS <| Sim.ret (.one (res_c r_ r_ r_ (Fld.id _) r_ r_))))
theorem sp_addr_Mask : Spec tb fn_addr_Mask [T_api_Addr, (T.int .i64)] [T_api_Addr] (fun a => addr_Mask a.1 a.2) :=
  Spec.of f_addr_Mask r_ r_ r_ sim_addr_Mask
noncomputable def cidr_Of (a0 : S_api_Addr) (a1 : Int) : Option (S_api_Prefix × Int) :=
 (addr_Right a0).bind fun x3 =>
 if (!x3) = true then
 some ((⟨T_api_Addr.z, 0⟩ : S_api_Prefix), 1)
 else
 (orO (decide (a1 < 0)) ((addr_Width a0).bind fun x9 =>
 some (decide (x9 < a1)))).bind fun x11 =>
 if x11 = true then
 some ((⟨T_api_Addr.z, 0⟩ : S_api_Prefix), 6)
 else
 (addr_Mask a0 a1).bind fun x15 =>
 some ((⟨x15, a1⟩ : S_api_Prefix), 0)
noncomputable def sim_cidr_Of (a : Res [T_api_Addr, (T.int .i64)]) : SimF tb c_cidr_Of [T_api_Addr, (T.int .i64)] [T_api_Prefix, (T.int .i64)] a :=
 Sim.seqI <| Sim.opMV (M_box (t := T_api_Addr) 2 r_ r_ o_T) fun _ =>
 Sim.opMV (M_alloc (t := T_api_Prefix) 4 r_ r_) fun x1 =>
 Sim.op1 (h_mv o_i) <|
 Sim.dsI <| Sim.blkI <| Sim.seqI <| Sim.opn (h_ldC (t := T_api_Addr) (u := T_api_Addr) o_T r_ r_ (Fld.id _) r_ r_) fun x2 =>
 Sim.op (h_call1 sp_addr_Right (.one o_T)) fun x3 =>
 Sim.opV (h_not o_T) fun x4 =>
 Sim.mvT r_ <|
 Sim.doneS <| Sim.cond o_T (
 Sim.seqI <| Sim.opV (h_bld r_ r_ (.nil _)) fun x5 =>
 Sim.opMV (M_stC o_T o_T r_ r_ (Fld.id _) r_) fun x6 =>
 Sim.op1 (h_mv o_i) <|
 Sim.doneS <| Sim.ret (.cons (res_c r_ r_ r_ (Fld.id _) r_ r_) <| .one (res_t r_))) (
 Sim.seqI <| Sim.mvT r_ <|
 Sim.opV (h_cmpI r_ o_T o_i) fun x7 =>
 Sim.mvT r_ <|
 Sim.or 4 r_ r_ r_ (Grp.op1 (h_mv (o_t r_)) <|
 Grp.opn (h_ldC (t := T_api_Addr) (u := T_api_Addr) o_T r_ r_ (Fld.id _) r_ r_) fun x8 =>
 Grp.op (h_call1 sp_addr_Width (.one o_T)) fun x9 =>
 Grp.opV (h_cmpI r_ o_T o_T) fun x10 =>
 Grp.nil o_T) fun x11 =>
 Sim.mvT r_ <|
 Sim.doneS <| Sim.cond o_T (
 Sim.seqI <| Sim.opV (h_bld r_ r_ (.nil _)) fun x12 =>
 Sim.opMV (M_stC o_T o_T r_ r_ (Fld.id _) r_) fun x13 =>
 Sim.op1 (h_mv o_i) <|
 Sim.doneS <| Sim.ret (.cons (res_c r_ r_ r_ (Fld.id _) r_ r_) <| .one (res_t r_))) (
 Sim.skip <| Sim.doneB <| Sim.dsI <| Sim.opn (h_ldC (t := T_api_Addr) (u := T_api_Addr) o_T r_ r_ (Fld.id _) r_ r_) fun x14 =>
 Sim.mvT r_ <|
 Sim.op (h_call1 sp_addr_Mask (.cons o_T <| .one o_T)) fun x15 =>
 Sim.mvT r_ <|
 Sim.opV (h_bld r_ r_ (.cons F_api_Prefix_A r_ o_T <| .cons F_api_Prefix_Bits r_ o_T <| .nil _)) fun x16 =>
 Sim.opMV (M_stC o_T o_T r_ r_ (Fld.id _) r_) fun x17 =>
 Sim.op1 (h_mv o_i) <|
 Sim.doneS <| Sim.ret (.cons (res_c r_ r_ r_ (Fld.id _) r_ r_) <| .one (res_t r_))))
theorem sp_cidr_Of : Spec tb fn_cidr_Of [T_api_Addr, (T.int .i64)] [T_api_Prefix, (T.int .i64)] (fun a => cidr_Of a.1 a.2) :=
  Spec.of f_cidr_Of r_ r_ r_ sim_cidr_Of
noncomputable def cidr_Right (a0 : S_api_Prefix) : Option Bool :=
 (cidr_Of a0.A a0.Bits).bind fun x3 =>
 (andO (decide (x3.2 = 0)) (some (cmpB C_api_Prefix x3.1 a0))).bind fun x12 =>
 some x12
noncomputable def sim_cidr_Right (a : Res [T_api_Prefix]) : SimF tb c_cidr_Right [T_api_Prefix] [T.b] a :=
 Sim.seqI <| Sim.opMV (M_box (t := T_api_Prefix) 1 r_ r_ o_T) fun _ =>
 Sim.op1 (h_mv o_b) <|
 Sim.dsI <| Sim.op1 (h_faC o_T) <|
 Sim.opn (h_ldC (t := T_api_Prefix) (u := T_api_Addr) o_T r_ r_ F_api_Prefix_A r_ r_) fun x1 =>
 Sim.op1 (h_faC o_T) <|
 Sim.opn (h_ldC (t := T_api_Prefix) (u := (T.int .i64)) o_T r_ r_ F_api_Prefix_Bits r_ r_) fun x2 =>
 Sim.op (h_callN sp_cidr_Of (.cons o_T <| .one o_T)) fun x3 =>
 Sim.mvT r_ <|
 Sim.opn (h_ext o_T r_) fun x4 =>
 Sim.opn (h_ext o_T r_) fun x5 =>
 Sim.opMV (M_alloc (t := T_api_Prefix) 3 r_ r_) fun x6 =>
 Sim.opMV (M_stC o_T o_T r_ r_ (Fld.id _) r_) fun x7 =>
 Sim.mvT r_ <|
 Sim.dsI <| Sim.mvT r_ <|
 Sim.opV (h_cmpI r_ o_T o_i) fun x8 =>
 Sim.mvT r_ <|
 Sim.and 3 r_ r_ r_ (Grp.opn (h_ldC (t := T_api_Prefix) (u := T_api_Prefix) o_T r_ r_ (Fld.id _) r_ r_) fun x9 =>
 Grp.opn (h_ldC (t := T_api_Prefix) (u := T_api_Prefix) o_T r_ r_ (Fld.id _) r_ r_) fun x10 =>
 Grp.opV (h_eq C_api_Prefix r_ r_ o_T o_T) fun x11 =>
 Grp.nil o_T) fun x12 =>
 Sim.mvT r_ <|
 Sim.doneS <| Sim.ret (.one (res_t r_))
theorem sp_cidr_Right : Spec tb fn_cidr_Right [T_api_Prefix] [T.b] (fun a => cidr_Right a) :=
  Spec.of f_cidr_Right r_ r_ r_ sim_cidr_Right
noncomputable def bytes_Compare (a0 : (GS UInt8)) (a1 : (GS UInt8)) : Option Int :=
 (internal_bytealg_Compare a0 a1).bind fun x1 =>
 some x1
noncomputable def sim_bytes_Compare (a : Res [(T.sl T.u8), (T.sl T.u8)]) : SimF tb c_bytes_Compare [(T.sl T.u8), (T.sl T.u8)] [(T.int .i64)] a :=
 Sim.seqI <| Sim.op1 (h_mv o_i) <|
 Sim.dsI <| Sim.mvT r_ <|
 Sim.mvT r_ <|
 Sim.op (h_call1 sp_internal_bytealg_Compare (.cons o_T <| .one o_T)) fun x1 =>
 Sim.mvT r_ <|
 Sim.doneS <| Sim.ret (.one (res_t r_))
theorem sp_bytes_Compare : Spec tb fn_bytes_Compare [(T.sl T.u8), (T.sl T.u8)] [(T.int .i64)] (fun a => bytes_Compare a.1 a.2) :=
  Spec.of f_bytes_Compare r_ r_ r_ sim_bytes_Compare
noncomputable def addr_Less (a0 : S_api_Addr) (a1 : S_api_Addr) : Option Bool :=
 if (!decide (a0.V = a1.V)) = true then
 some (decide (a0.V < a1.V))
 else
 (if 0 + 16 ≤ 16 ∧ 0 + 16 ≤ 16 then bytes_Compare (GS.mk ((a0.B.l.drop 0).take 16)) (GS.mk ((a1.B.l.drop 0).take 16)) else none).bind fun x7 =>
 some (decide (x7 < 0))
noncomputable def sim_addr_Less (a : Res [T_api_Addr, T_api_Addr]) : SimF tb c_addr_Less [T_api_Addr, T_api_Addr] [T.b] a :=
 Sim.seqI <| Sim.opMV (M_box (t := T_api_Addr) 2 r_ r_ o_T) fun _ =>
 Sim.opMV (M_box (t := T_api_Addr) 3 r_ r_ o_T) fun _ =>
 Sim.op1 (h_mv o_b) <|
 Sim.dsI <| Sim.seqI <| Sim.op1 (h_faC o_T) <|
 Sim.opn (h_ldC (t := T_api_Addr) (u := (T.int .i64)) o_T r_ r_ F_api_Addr_V r_ r_) fun x1 =>
 Sim.op1 (h_faC o_T) <|
 Sim.opn (h_ldC (t := T_api_Addr) (u := (T.int .i64)) o_T r_ r_ F_api_Addr_V r_ r_) fun x2 =>
 Sim.opV (h_cmpI r_ o_T o_T) fun x3 =>
 Sim.doneS <| Sim.cond o_T (
 Sim.seqI <| Sim.op1 (h_faC o_T) <|
 Sim.opn (h_ldC (t := T_api_Addr) (u := (T.int .i64)) o_T r_ r_ F_api_Addr_V r_ r_) fun x4 =>
 Sim.op1 (h_faC o_T) <|
 Sim.opn (h_ldC (t := T_api_Addr) (u := (T.int .i64)) o_T r_ r_ F_api_Addr_V r_ r_) fun x5 =>
 Sim.opV (h_cmpI r_ o_T o_T) fun x6 =>
 Sim.mvT r_ <|
 Sim.doneS <| Sim.ret (.one (res_t r_))) (
 Sim.skip <| Sim.dsI <| Sim.op1 (h_faC o_T) <|
 Sim.op1 (h_slaL (k := 0) (m := 16) r_ r_ o_T .none .none r_ r_ r_) <|
 Sim.op1 (h_faC o_T) <|
 Sim.op1 (h_slaL (k := 0) (m := 16) r_ r_ o_T .none .none r_ r_ r_) <|
 Sim.op (h_callRc1 (c := 0 + 16 ≤ 16 ∧ 0 + 16 ≤ 16) sp_bytes_Compare (.cons flat_int .nil) (fun hc => .cons (a_s (o := 1) (k := 0) (m := 16) (n := 16) F_api_Addr_B r_ o_T r_ r_ hc.1) <| .one (a_s (o := 1) (k := 0) (m := 16) (n := 16) F_api_Addr_B r_ o_T r_ r_ hc.2))) fun x7 =>
 Sim.opV (h_cmpI r_ o_T o_i) fun x8 =>
 Sim.mvT r_ <|
 Sim.doneS <| Sim.ret (.one (res_t r_)))
theorem sp_addr_Less : Spec tb fn_addr_Less [T_api_Addr, T_api_Addr] [T.b] (fun a => addr_Less a.1 a.2) :=
  Spec.of f_addr_Less r_ r_ r_ sim_addr_Less
noncomputable def cidr_Less (a0 : S_api_Prefix) (a1 : S_api_Prefix) : Option Bool :=
 if (cmpB C_api_Addr a0.A a1.A) = true then
 some (decide (a0.Bits < a1.Bits))
 else
 (addr_Less a0.A a1.A).bind fun x9 =>
 some x9
noncomputable def sim_cidr_Less (a : Res [T_api_Prefix, T_api_Prefix]) : SimF tb c_cidr_Less [T_api_Prefix, T_api_Prefix] [T.b] a :=
 Sim.seqI <| Sim.opMV (M_box (t := T_api_Prefix) 2 r_ r_ o_T) fun _ =>
 Sim.opMV (M_box (t := T_api_Prefix) 3 r_ r_ o_T) fun _ =>
 Sim.op1 (h_mv o_b) <|
 Sim.dsI <| Sim.seqI <| Sim.op1 (h_faC o_T) <|
 Sim.opn (h_ldC (t := T_api_Prefix) (u := T_api_Addr) o_T r_ r_ F_api_Prefix_A r_ r_) fun x1 =>
 Sim.op1 (h_faC o_T) <|
 Sim.opn (h_ldC (t := T_api_Prefix) (u := T_api_Addr) o_T r_ r_ F_api_Prefix_A r_ r_) fun x2 =>
 Sim.opV (h_eq C_api_Addr r_ r_ o_T o_T) fun x3 =>
 Sim.doneS <| Sim.cond o_T (
 Sim.seqI <| Sim.op1 (h_faC o_T) <|
 Sim.opn (h_ldC (t := T_api_Prefix) (u := (T.int .i64)) o_T r_ r_ F_api_Prefix_Bits r_ r_) fun x4 =>
 Sim.op1 (h_faC o_T) <|
 Sim.opn (h_ldC (t := T_api_Prefix) (u := (T.int .i64)) o_T r_ r_ F_api_Prefix_Bits r_ r_) fun x5 =>
 Sim.opV (h_cmpI r_ o_T o_T) fun x6 =>
 Sim.mvT r_ <|
 Sim.doneS <| Sim.ret (.one (res_t r_))) (
 Sim.skip <| Sim.dsI <| Sim.op1 (h_faC o_T) <|
 Sim.opn (h_ldC (t := T_api_Prefix) (u := T_api_Addr) o_T r_ r_ F_api_Prefix_A r_ r_) fun x7 =>
 Sim.op1 (h_faC o_T) <|
 Sim.opn (h_ldC (t := T_api_Prefix) (u := T_api_Addr) o_T r_ r_ F_api_Prefix_A r_ r_) fun x8 =>
 Sim.op (h_call1 sp_addr_Less (.cons o_T <| .one o_T)) fun x9 =>
 Sim.mvT r_ <|
 Sim.doneS <| Sim.ret (.one (res_t r_)))
theorem sp_cidr_Less : Spec tb fn_cidr_Less [T_api_Prefix, T_api_Prefix] [T.b] (fun a => cidr_Less a.1 a.2) :=
  Spec.of f_cidr_Less r_ r_ r_ sim_cidr_Less
noncomputable def sim_view_rising (a : Res [(T.sl T_api_Prefix)]) : SimF tb c_view_rising [(T.sl T_api_Prefix)] [T.b] a :=
 Sim.seqI <| Sim.op1 (h_mv o_b) <|
 Sim.dsI <| Sim.seqI <| Sim.mvT r_ <|
 Sim.opV (h_len o_T) fun x1 =>
 Sim.op1 (h_mv o_i) <|
 Sim.doneS <| Sim.blkI <| Sim.loop (id := 0) (σ := Int) (τ := Unit) (fun s2 => ⟨[(0, .val (T.sl T_api_Prefix) a), (5, .val (T.sl T_api_Prefix) a), (6, .val (T.int .i64) x1), (7, .val (T.int .i64) s2)], []⟩) (fun p3 => ⟨[], []⟩) 0 sB (fun _ => r_) (fun s2 =>
 Sim.seqI <| Sim.opV (h_cmpI r_ o_T o_T) fun x4 =>
 Sim.dsI <| Sim.cond o_T (
 Sim.skip <| Sim.dsI <| Sim.blkI <| Sim.seqI <| Sim.mvT r_ <|
 Sim.op (h_ias r_ o_T o_T) fun x5 =>
 Sim.opn (h_ld r_ r_ o_T) fun x6 =>
 Sim.opMV (M_alloc (t := T_api_Prefix) 4 r_ r_) fun x7 =>
 Sim.mvT r_ <|
 Sim.opMV (M_stC o_T o_T r_ r_ (Fld.id _) r_) fun x8 =>
 Sim.dsI <| Sim.opn (h_ldC (t := T_api_Prefix) (u := T_api_Prefix) o_T r_ r_ (Fld.id _) r_ r_) fun x9 =>
 Sim.op (h_call1 sp_cidr_Right (.one o_T)) fun x10 =>
 Sim.opV (h_not o_T) fun x11 =>
 Sim.mvT r_ <|
 Sim.or 12 r_ r_ r_ (Grp.op1 (h_mv (o_t r_)) <|
 Grp.opV (h_cmpI r_ o_T o_i) fun x12 =>
 Grp.op1 (h_mv (o_t r_)) <|
 Grp.and 8 r_ r_ r_ r_ r_ (Grp.op1 (h_mv (o_t r_)) <|
 Grp.op1 (h_mv (o_t r_)) <|
 Grp.opV (h_sub (I := (IT.int .i64)) o_T o_i) fun x13 =>
 Grp.op (h_ias r_ o_T o_T) fun x14 =>
 Grp.opn (h_ld r_ r_ o_T) fun x15 =>
 Grp.opn (h_ldC (t := T_api_Prefix) (u := T_api_Prefix) o_T r_ r_ (Fld.id _) r_ r_) fun x16 =>
 Grp.op (h_call1 sp_cidr_Less (.cons o_T <| .one o_T)) fun x17 =>
 Grp.opV (h_not o_T) fun x18 =>
 Grp.nil o_T) fun x19 =>
 Grp.nil o_T) fun x20 =>
 Sim.doneS <| Sim.cond o_T (
 Sim.seqI <| Sim.op1 (h_mv o_b) <|
 Sim.doneS <| Sim.outRet <| Sim.ret (.one (res_t r_))) (
 Sim.skip <| Sim.doneB <| Sim.doneS <| Sim.opV (h_add (I := (IT.int .i64)) o_T o_i) fun x21 =>
 Sim.mvT r_ <|
 Sim.next x21 sB)) (
 Sim.exitS <| Sim.out () sB)) (fun p3 =>
 Sim.exitB <| Sim.dsI <| Sim.op1 (h_mv o_b) <|
 Sim.doneS <| Sim.ret (.one (res_t r_)))
noncomputable def hostport_None (a0 : S_api_Endpoint) : Option Bool :=
 let x3 := (cmpB C_api_Endpoint a0 (⟨T_api_Addr.z, 0⟩ : S_api_Endpoint))
 some x3
noncomputable def r11_Same (a0 : (GS S_api_Prefix)) (a1 : (GS S_api_Prefix)) : Option Bool :=
 let x3 := !decide ((a0.l.length : Int) = (a1.l.length : Int))
 if x3 = true then
 some false
 else
 (iter (fun (s4 : Int) =>
 if (decide (s4 < (a0.l.length : Int))) = true then
 (idx a0.l s4).bind fun x8 =>
 (idx a1.l s4).bind fun x10 =>
 if (!(cmpB C_api_Prefix x8 x10)) = true then
 (some false).map fun r => .inr (.inr r)
 else
 some (.inl (IntKind.i64.wrap (s4 + 1)))
 else
 some (.inr (.inl ()))) 0).bind (Sum.elim (fun (p5 : Unit) =>
 some true) some)
noncomputable def sim_r11_Same (a : Res [(T.sl T_api_Prefix), (T.sl T_api_Prefix)]) : SimF tb c_r11_Same [(T.sl T_api_Prefix), (T.sl T_api_Prefix)] [T.b] a :=
 Sim.seqI <| Sim.op1 (h_mv o_b) <|
 Sim.dsI <| Sim.seqI <| Sim.mvT r_ <|
 Sim.opV (h_len o_T) fun x1 =>
 Sim.mvT r_ <|
 Sim.opV (h_len o_T) fun x2 =>
 Sim.opV (h_cmpI r_ o_T o_T) fun x3 =>
 Sim.doneS <| Sim.cond o_T (
 Sim.seqI <| Sim.op1 (h_mv o_b) <|
 Sim.doneS <| Sim.ret (.one (res_t r_))) (
 Sim.skip <| Sim.dsI <| Sim.seqI <| Sim.op1 (h_mv o_i) <|
 Sim.doneS <| Sim.blkI <| Sim.loop (id := 0) (σ := Int) (τ := Unit) (fun s4 => ⟨[(0, .val (T.sl T_api_Prefix) a.1), (1, .val (T.sl T_api_Prefix) a.2), (5, .val (T.int .i64) s4)], []⟩) (fun p5 => ⟨[], []⟩) 0 sB (fun _ => r_) (fun s4 =>
 Sim.seqI <| Sim.seqI <| Sim.mvT r_ <|
 Sim.mvT r_ <|
 Sim.opV (h_len o_T) fun x6 =>
 Sim.opV (h_cmpI r_ o_T o_T) fun x7 =>
 Sim.doneS <| Sim.cond o_T (
 Sim.skip <| Sim.dsI <| Sim.blkI <| Sim.seqI <| Sim.mvT r_ <|
 Sim.mvT r_ <|
 Sim.op (h_ias r_ o_T o_T) fun x8 =>
 Sim.opn (h_ld r_ r_ o_T) fun x9 =>
 Sim.mvT r_ <|
 Sim.mvT r_ <|
 Sim.op (h_ias r_ o_T o_T) fun x10 =>
 Sim.opn (h_ld r_ r_ o_T) fun x11 =>
 Sim.opV (h_eq C_api_Prefix r_ r_ o_T o_T) fun x12 =>
 Sim.doneS <| Sim.cond o_T (
 Sim.seqI <| Sim.op1 (h_mv o_b) <|
 Sim.doneS <| Sim.outRet <| Sim.ret (.one (res_t r_))) (
 Sim.skip <| Sim.doneB <| Sim.doneS <| Sim.mvT r_ <|
 Sim.opV (h_add (I := (IT.int .i64)) o_T o_i) fun x13 =>
 Sim.mvT r_ <|
 Sim.next x13 sB)) (
 Sim.exitS <| Sim.out () sB)) (fun p5 =>
 Sim.exitB <| Sim.dsI <| Sim.op1 (h_mv o_b) <|
 Sim.doneS <| Sim.ret (.one (res_t r_))))
theorem sp_r11_Same : Spec tb fn_r11_Same [(T.sl T_api_Prefix), (T.sl T_api_Prefix)] [T.b] (fun a => r11_Same a.1 a.2) :=
  Spec.of f_r11_Same r_ r_ r_ sim_r11_Same
noncomputable def r34_SamePeer (a0 : S_api_Peer) (a1 : S_api_Peer) : Option Bool :=
 (andO (cmpB (CmpC.arr 32 CmpC.u8) a0.Key a1.Key) (some (cmpB (CmpC.arr 32 CmpC.u8) a0.Psk a1.Psk))).bind fun x7 =>
 (andO x7 (some (cmpB C_api_Endpoint a0.End a1.End))).bind fun x11 =>
 (andO x11 (some (decide (a0.Keep = a1.Keep)))).bind fun x15 =>
 (andO x15 (let x18 := decide ((a0.Sent.toNat : Int) = (a1.Sent.toNat : Int))
 some x18)).bind fun x19 =>
 (andO x19 (let x22 := decide ((a0.Got.toNat : Int) = (a1.Got.toNat : Int))
 some x22)).bind fun x23 =>
 (andO x23 ((r11_Same a0.Allowed a1.Allowed).bind fun x26 =>
 some x26)).bind fun x27 =>
 some x27
noncomputable def sim_r34_SamePeer (a : Res [T_api_Peer, T_api_Peer]) : SimF tb c_r34_SamePeer [T_api_Peer, T_api_Peer] [T.b] a :=
 Sim.seqI <| Sim.opMV (M_box (t := T_api_Peer) 2 r_ r_ o_T) fun _ =>
 Sim.opMV (M_box (t := T_api_Peer) 3 r_ r_ o_T) fun _ =>
 Sim.op1 (h_mv o_b) <|
 Sim.dsI <| Sim.op1 (h_faC o_T) <|
 Sim.opn (h_ldC (t := T_api_Peer) (u := (T.arr 32 T.u8)) o_T r_ r_ F_api_Peer_Key r_ r_) fun x1 =>
 Sim.op1 (h_faC o_T) <|
 Sim.opn (h_ldC (t := T_api_Peer) (u := (T.arr 32 T.u8)) o_T r_ r_ F_api_Peer_Key r_ r_) fun x2 =>
 Sim.opV (h_eq (CmpC.arr 32 CmpC.u8) r_ r_ o_T o_T) fun x3 =>
 Sim.mvT r_ <|
 Sim.and 5 r_ r_ r_ (Grp.op1 (h_faC o_T) <|
 Grp.opn (h_ldC (t := T_api_Peer) (u := (T.arr 32 T.u8)) o_T r_ r_ F_api_Peer_Psk r_ r_) fun x4 =>
 Grp.op1 (h_faC o_T) <|
 Grp.opn (h_ldC (t := T_api_Peer) (u := (T.arr 32 T.u8)) o_T r_ r_ F_api_Peer_Psk r_ r_) fun x5 =>
 Grp.opV (h_eq (CmpC.arr 32 CmpC.u8) r_ r_ o_T o_T) fun x6 =>
 Grp.nil o_T) fun x7 =>
 Sim.mvT r_ <|
 Sim.and 5 r_ r_ r_ (Grp.op1 (h_faC o_T) <|
 Grp.opn (h_ldC (t := T_api_Peer) (u := T_api_Endpoint) o_T r_ r_ F_api_Peer_End r_ r_) fun x8 =>
 Grp.op1 (h_faC o_T) <|
 Grp.opn (h_ldC (t := T_api_Peer) (u := T_api_Endpoint) o_T r_ r_ F_api_Peer_End r_ r_) fun x9 =>
 Grp.opV (h_eq C_api_Endpoint r_ r_ o_T o_T) fun x10 =>
 Grp.nil o_T) fun x11 =>
 Sim.mvT r_ <|
 Sim.and 5 r_ r_ r_ (Grp.op1 (h_faC o_T) <|
 Grp.opn (h_ldC (t := T_api_Peer) (u := (T.int .i64)) o_T r_ r_ F_api_Peer_Keep r_ r_) fun x12 =>
 Grp.op1 (h_faC o_T) <|
 Grp.opn (h_ldC (t := T_api_Peer) (u := (T.int .i64)) o_T r_ r_ F_api_Peer_Keep r_ r_) fun x13 =>
 Grp.opV (h_cmpI r_ o_T o_T) fun x14 =>
 Grp.nil o_T) fun x15 =>
 Sim.mvT r_ <|
 Sim.and 5 r_ r_ r_ (Grp.op1 (h_faC o_T) <|
 Grp.opn (h_ldC (t := T_api_Peer) (u := T.u64) o_T r_ r_ F_api_Peer_Sent r_ r_) fun x16 =>
 Grp.op1 (h_faC o_T) <|
 Grp.opn (h_ldC (t := T_api_Peer) (u := T.u64) o_T r_ r_ F_api_Peer_Sent r_ r_) fun x17 =>
 Grp.opV (h_cmp (I := IT.u64) r_ o_T o_T) fun x18 =>
 Grp.nil o_T) fun x19 =>
 Sim.mvT r_ <|
 Sim.and 5 r_ r_ r_ (Grp.op1 (h_faC o_T) <|
 Grp.opn (h_ldC (t := T_api_Peer) (u := T.u64) o_T r_ r_ F_api_Peer_Got r_ r_) fun x20 =>
 Grp.op1 (h_faC o_T) <|
 Grp.opn (h_ldC (t := T_api_Peer) (u := T.u64) o_T r_ r_ F_api_Peer_Got r_ r_) fun x21 =>
 Grp.opV (h_cmp (I := IT.u64) r_ o_T o_T) fun x22 =>
 Grp.nil o_T) fun x23 =>
 Sim.mvT r_ <|
 Sim.and 5 r_ r_ r_ (Grp.op1 (h_faC o_T) <|
 Grp.opn (h_ldC (t := T_api_Peer) (u := (T.sl T_api_Prefix)) o_T r_ r_ F_api_Peer_Allowed r_ r_) fun x24 =>
 Grp.op1 (h_faC o_T) <|
 Grp.opn (h_ldC (t := T_api_Peer) (u := (T.sl T_api_Prefix)) o_T r_ r_ F_api_Peer_Allowed r_ r_) fun x25 =>
 Grp.op (h_call1 sp_r11_Same (.cons o_T <| .one o_T)) fun x26 =>
 Grp.nil o_T) fun x27 =>
 Sim.mvT r_ <|
 Sim.doneS <| Sim.ret (.one (res_t r_))
theorem sp_r34_SamePeer : Spec tb fn_r34_SamePeer [T_api_Peer, T_api_Peer] [T.b] (fun a => r34_SamePeer a.1 a.2) :=
  Spec.of f_r34_SamePeer r_ r_ r_ sim_r34_SamePeer
noncomputable def r34_Same (a0 : S_api_Conf) (a1 : S_api_Conf) : Option Bool :=
 let x3 := !(cmpB (CmpC.arr 32 CmpC.u8) a0.Private a1.Private)
 (orO x3 (some (!decide (a0.Port = a1.Port)))).bind fun x7 =>
 (orO x7 (let x10 := !decide ((a0.Mark.toNat : Int) = (a1.Mark.toNat : Int))
 some x10)).bind fun x11 =>
 (orO x11 (let x16 := !decide ((a0.Peers.l.length : Int) = (a1.Peers.l.length : Int))
 some x16)).bind fun x17 =>
 if x17 = true then
 some false
 else
 (iter (fun (s18 : Int) =>
 if (decide (s18 < (a0.Peers.l.length : Int))) = true then
 (idx a0.Peers.l s18).bind fun x24 =>
 (idx a1.Peers.l s18).bind fun x27 =>
 (r34_SamePeer x24 x27).bind fun x29 =>
 if (!x29) = true then
 (some false).map fun r => .inr (.inr r)
 else
 some (.inl (IntKind.i64.wrap (s18 + 1)))
 else
 some (.inr (.inl ()))) 0).bind (Sum.elim (fun (p19 : Unit) =>
 some true) some)
noncomputable def sim_r34_Same (a : Res [T_api_Conf, T_api_Conf]) : SimF tb c_r34_Same [T_api_Conf, T_api_Conf] [T.b] a :=
 Sim.seqI <| Sim.opMV (M_box (t := T_api_Conf) 2 r_ r_ o_T) fun _ =>
 Sim.opMV (M_box (t := T_api_Conf) 3 r_ r_ o_T) fun _ =>
 Sim.op1 (h_mv o_b) <|
 Sim.dsI <| Sim.seqI <| Sim.op1 (h_faC o_T) <|
 Sim.opn (h_ldC (t := T_api_Conf) (u := (T.arr 32 T.u8)) o_T r_ r_ F_api_Conf_Private r_ r_) fun x1 =>
 Sim.op1 (h_faC o_T) <|
 Sim.opn (h_ldC (t := T_api_Conf) (u := (T.arr 32 T.u8)) o_T r_ r_ F_api_Conf_Private r_ r_) fun x2 =>
 Sim.opV (h_eq (CmpC.arr 32 CmpC.u8) r_ r_ o_T o_T) fun x3 =>
 Sim.mvT r_ <|
 Sim.or 5 r_ r_ r_ (Grp.op1 (h_faC o_T) <|
 Grp.opn (h_ldC (t := T_api_Conf) (u := (T.int .i64)) o_T r_ r_ F_api_Conf_Port r_ r_) fun x4 =>
 Grp.op1 (h_faC o_T) <|
 Grp.opn (h_ldC (t := T_api_Conf) (u := (T.int .i64)) o_T r_ r_ F_api_Conf_Port r_ r_) fun x5 =>
 Grp.opV (h_cmpI r_ o_T o_T) fun x6 =>
 Grp.nil o_T) fun x7 =>
 Sim.mvT r_ <|
 Sim.or 5 r_ r_ r_ (Grp.op1 (h_faC o_T) <|
 Grp.opn (h_ldC (t := T_api_Conf) (u := T.u32) o_T r_ r_ F_api_Conf_Mark r_ r_) fun x8 =>
 Grp.op1 (h_faC o_T) <|
 Grp.opn (h_ldC (t := T_api_Conf) (u := T.u32) o_T r_ r_ F_api_Conf_Mark r_ r_) fun x9 =>
 Grp.opV (h_cmp (I := IT.u32) r_ o_T o_T) fun x10 =>
 Grp.nil o_T) fun x11 =>
 Sim.mvT r_ <|
 Sim.or 7 r_ r_ r_ (Grp.op1 (h_faC o_T) <|
 Grp.opn (h_ldC (t := T_api_Conf) (u := (T.sl T_api_Peer)) o_T r_ r_ F_api_Conf_Peers r_ r_) fun x12 =>
 Grp.opV (h_len o_T) fun x13 =>
 Grp.op1 (h_faC o_T) <|
 Grp.opn (h_ldC (t := T_api_Conf) (u := (T.sl T_api_Peer)) o_T r_ r_ F_api_Conf_Peers r_ r_) fun x14 =>
 Grp.opV (h_len o_T) fun x15 =>
 Grp.opV (h_cmpI r_ o_T o_T) fun x16 =>
 Grp.nil o_T) fun x17 =>
 Sim.doneS <| Sim.cond o_T (
 Sim.seqI <| Sim.op1 (h_mv o_b) <|
 Sim.doneS <| Sim.ret (.one (res_t r_))) (
 Sim.skip <| Sim.dsI <| Sim.seqI <| Sim.op1 (h_mv o_i) <|
 Sim.doneS <| Sim.blkI <| Sim.loop (id := 0) (σ := Int) (τ := Unit) (fun s18 => ⟨[(2, .cp 2 0), (3, .cp 3 0), (5, .val (T.int .i64) s18)], [(2, .cells [(35, .val T_api_Conf a.1)]), (3, .cells [(35, .val T_api_Conf a.2)])]⟩) (fun p19 => ⟨[], []⟩) 0 sB (fun _ => r_) (fun s18 =>
 Sim.seqI <| Sim.seqI <| Sim.mvT r_ <|
 Sim.op1 (h_faC o_T) <|
 Sim.opn (h_ldC (t := T_api_Conf) (u := (T.sl T_api_Peer)) o_T r_ r_ F_api_Conf_Peers r_ r_) fun x20 =>
 Sim.opV (h_len o_T) fun x21 =>
 Sim.opV (h_cmpI r_ o_T o_T) fun x22 =>
 Sim.doneS <| Sim.cond o_T (
 Sim.skip <| Sim.dsI <| Sim.blkI <| Sim.seqI <| Sim.op1 (h_faC o_T) <|
 Sim.opn (h_ldC (t := T_api_Conf) (u := (T.sl T_api_Peer)) o_T r_ r_ F_api_Conf_Peers r_ r_) fun x23 =>
 Sim.mvT r_ <|
 Sim.op (h_ias r_ o_T o_T) fun x24 =>
 Sim.opn (h_ld r_ r_ o_T) fun x25 =>
 Sim.op1 (h_faC o_T) <|
 Sim.opn (h_ldC (t := T_api_Conf) (u := (T.sl T_api_Peer)) o_T r_ r_ F_api_Conf_Peers r_ r_) fun x26 =>
 Sim.mvT r_ <|
 Sim.op (h_ias r_ o_T o_T) fun x27 =>
 Sim.opn (h_ld r_ r_ o_T) fun x28 =>
 Sim.op (h_call1 sp_r34_SamePeer (.cons o_T <| .one o_T)) fun x29 =>
 Sim.opV (h_not o_T) fun x30 =>
 Sim.doneS <| Sim.cond o_T (
 Sim.seqI <| Sim.op1 (h_mv o_b) <|
 Sim.doneS <| Sim.outRet <| Sim.ret (.one (res_t r_))) (
 Sim.skip <| Sim.doneB <| Sim.doneS <| Sim.mvT r_ <|
 Sim.opV (h_add (I := (IT.int .i64)) o_T o_i) fun x31 =>
 Sim.mvT r_ <|
 Sim.next x31 sB)) (
 Sim.exitS <| Sim.out () sB)) (fun p19 =>
 Sim.exitB <| Sim.dsI <| Sim.op1 (h_mv o_b) <|
 Sim.doneS <| Sim.ret (.one (res_t r_))))
theorem sp_r34_Same : Spec tb fn_r34_Same [T_api_Conf, T_api_Conf] [T.b] (fun a => r34_Same a.1 a.2) :=
  Spec.of f_r34_Same r_ r_ r_ sim_r34_Same
noncomputable def slices_Equal_api_Prefix (a0 : (GS S_api_Prefix)) (a1 : (GS S_api_Prefix)) : Option Bool :=
 let x3 := !decide ((a0.l.length : Int) = (a1.l.length : Int))
 if x3 = true then
 some false
 else
 (iter (fun (s5 : Int) =>
 if (decide (s5 < (a0.l.length : Int))) = true then
 (idx a0.l s5).bind fun x8 =>
 (idx a1.l s5).bind fun x10 =>
 if (!(cmpB C_api_Prefix x8 x10)) = true then
 (some false).map fun r => .inr (.inr r)
 else
 some (.inl (IntKind.i64.wrap (s5 + 1)))
 else
 some (.inr (.inl ()))) 0).bind (Sum.elim (fun (p6 : Unit) =>
 some true) some)
noncomputable def sim_slices_Equal_api_Prefix (a : Res [(T.sl T_api_Prefix), (T.sl T_api_Prefix)]) : SimF tb c_slices_Equal_api_Prefix [(T.sl T_api_Prefix), (T.sl T_api_Prefix)] [T.b] a :=
 Sim.seqI <| Sim.op1 (h_mv o_b) <|
 Sim.dsI <| Sim.seqI <| Sim.mvT r_ <|
 Sim.opV (h_len o_T) fun x1 =>
 Sim.mvT r_ <|
 Sim.opV (h_len o_T) fun x2 =>
 Sim.opV (h_cmpI r_ o_T o_T) fun x3 =>
 Sim.doneS <| Sim.cond o_T (
 Sim.seqI <| Sim.op1 (h_mv o_b) <|
 Sim.doneS <| Sim.ret (.one (res_t r_))) (
 Sim.skip <| Sim.dsI <| Sim.seqI <| Sim.mvT r_ <|
 Sim.opV (h_len o_T) fun x4 =>
 Sim.op1 (h_mv o_i) <|
 Sim.doneS <| Sim.blkI <| Sim.loop (id := 0) (σ := Int) (τ := Unit) (fun s5 => ⟨[(0, .val (T.sl T_api_Prefix) a.1), (1, .val (T.sl T_api_Prefix) a.2), (12, .val (T.int .i64) x4), (13, .val (T.int .i64) s5)], []⟩) (fun p6 => ⟨[], []⟩) 0 sB (fun _ => r_) (fun s5 =>
 Sim.seqI <| Sim.opV (h_cmpI r_ o_T o_T) fun x7 =>
 Sim.dsI <| Sim.cond o_T (
 Sim.skip <| Sim.dsI <| Sim.blkI <| Sim.seqI <| Sim.mvT r_ <|
 Sim.mvT r_ <|
 Sim.dsI <| Sim.mvT r_ <|
 Sim.mvT r_ <|
 Sim.op (h_ias r_ o_T o_T) fun x8 =>
 Sim.opn (h_ld r_ r_ o_T) fun x9 =>
 Sim.mvT r_ <|
 Sim.mvT r_ <|
 Sim.op (h_ias r_ o_T o_T) fun x10 =>
 Sim.opn (h_ld r_ r_ o_T) fun x11 =>
 Sim.opV (h_eq C_api_Prefix r_ r_ o_T o_T) fun x12 =>
 Sim.doneS <| Sim.cond o_T (
 Sim.seqI <| Sim.op1 (h_mv o_b) <|
 Sim.doneS <| Sim.outRet <| Sim.ret (.one (res_t r_))) (
 Sim.skip <| Sim.doneB <| Sim.doneS <| Sim.opV (h_add (I := (IT.int .i64)) o_T o_i) fun x13 =>
 Sim.mvT r_ <|
 Sim.next x13 sB)) (
 Sim.exitS <| Sim.out () sB)) (fun p6 =>
 Sim.exitB <| Sim.dsI <| Sim.op1 (h_mv o_b) <|
 Sim.doneS <| Sim.ret (.one (res_t r_))))
theorem sp_slices_Equal_api_Prefix : Spec tb fn_slices_Equal_api_Prefix [(T.sl T_api_Prefix), (T.sl T_api_Prefix)] [T.b] (fun a => slices_Equal_api_Prefix a.1 a.2) :=
  Spec.of f_slices_Equal_api_Prefix r_ r_ r_ sim_slices_Equal_api_Prefix
noncomputable def view_Same_1 (a0 : S_api_Peer) (a1 : S_api_Peer) : Option Bool :=
 (andO (cmpB (CmpC.arr 32 CmpC.u8) a0.Key a1.Key) (some (cmpB (CmpC.arr 32 CmpC.u8) a0.Psk a1.Psk))).bind fun x7 =>
 (andO x7 (some (cmpB C_api_Endpoint a0.End a1.End))).bind fun x11 =>
 (andO x11 (some (decide (a0.Keep = a1.Keep)))).bind fun x15 =>
 (andO x15 (let x18 := decide ((a0.Sent.toNat : Int) = (a1.Sent.toNat : Int))
 some x18)).bind fun x19 =>
 (andO x19 (let x22 := decide ((a0.Got.toNat : Int) = (a1.Got.toNat : Int))
 some x22)).bind fun x23 =>
 (andO x23 ((slices_Equal_api_Prefix a0.Allowed a1.Allowed).bind fun x26 =>
 some x26)).bind fun x27 =>
 some x27
noncomputable def sim_view_Same_1 (a : Res [T_api_Peer, T_api_Peer]) : SimF tb c_view_Same_1 [T_api_Peer, T_api_Peer] [T.b] a :=
 Sim.seqI <| Sim.opMV (M_box (t := T_api_Peer) 2 r_ r_ o_T) fun _ =>
 Sim.opMV (M_box (t := T_api_Peer) 3 r_ r_ o_T) fun _ =>
 Sim.op1 (h_mv o_b) <|
 Sim.dsI <| Sim.op1 (h_faC o_T) <|
 Sim.opn (h_ldC (t := T_api_Peer) (u := (T.arr 32 T.u8)) o_T r_ r_ F_api_Peer_Key r_ r_) fun x1 =>
 Sim.op1 (h_faC o_T) <|
 Sim.opn (h_ldC (t := T_api_Peer) (u := (T.arr 32 T.u8)) o_T r_ r_ F_api_Peer_Key r_ r_) fun x2 =>
 Sim.opV (h_eq (CmpC.arr 32 CmpC.u8) r_ r_ o_T o_T) fun x3 =>
 Sim.mvT r_ <|
 Sim.and 5 r_ r_ r_ (Grp.op1 (h_faC o_T) <|
 Grp.opn (h_ldC (t := T_api_Peer) (u := (T.arr 32 T.u8)) o_T r_ r_ F_api_Peer_Psk r_ r_) fun x4 =>
 Grp.op1 (h_faC o_T) <|
 Grp.opn (h_ldC (t := T_api_Peer) (u := (T.arr 32 T.u8)) o_T r_ r_ F_api_Peer_Psk r_ r_) fun x5 =>
 Grp.opV (h_eq (CmpC.arr 32 CmpC.u8) r_ r_ o_T o_T) fun x6 =>
 Grp.nil o_T) fun x7 =>
 Sim.mvT r_ <|
 Sim.and 5 r_ r_ r_ (Grp.op1 (h_faC o_T) <|
 Grp.opn (h_ldC (t := T_api_Peer) (u := T_api_Endpoint) o_T r_ r_ F_api_Peer_End r_ r_) fun x8 =>
 Grp.op1 (h_faC o_T) <|
 Grp.opn (h_ldC (t := T_api_Peer) (u := T_api_Endpoint) o_T r_ r_ F_api_Peer_End r_ r_) fun x9 =>
 Grp.opV (h_eq C_api_Endpoint r_ r_ o_T o_T) fun x10 =>
 Grp.nil o_T) fun x11 =>
 Sim.mvT r_ <|
 Sim.and 5 r_ r_ r_ (Grp.op1 (h_faC o_T) <|
 Grp.opn (h_ldC (t := T_api_Peer) (u := (T.int .i64)) o_T r_ r_ F_api_Peer_Keep r_ r_) fun x12 =>
 Grp.op1 (h_faC o_T) <|
 Grp.opn (h_ldC (t := T_api_Peer) (u := (T.int .i64)) o_T r_ r_ F_api_Peer_Keep r_ r_) fun x13 =>
 Grp.opV (h_cmpI r_ o_T o_T) fun x14 =>
 Grp.nil o_T) fun x15 =>
 Sim.mvT r_ <|
 Sim.and 5 r_ r_ r_ (Grp.op1 (h_faC o_T) <|
 Grp.opn (h_ldC (t := T_api_Peer) (u := T.u64) o_T r_ r_ F_api_Peer_Sent r_ r_) fun x16 =>
 Grp.op1 (h_faC o_T) <|
 Grp.opn (h_ldC (t := T_api_Peer) (u := T.u64) o_T r_ r_ F_api_Peer_Sent r_ r_) fun x17 =>
 Grp.opV (h_cmp (I := IT.u64) r_ o_T o_T) fun x18 =>
 Grp.nil o_T) fun x19 =>
 Sim.mvT r_ <|
 Sim.and 5 r_ r_ r_ (Grp.op1 (h_faC o_T) <|
 Grp.opn (h_ldC (t := T_api_Peer) (u := T.u64) o_T r_ r_ F_api_Peer_Got r_ r_) fun x20 =>
 Grp.op1 (h_faC o_T) <|
 Grp.opn (h_ldC (t := T_api_Peer) (u := T.u64) o_T r_ r_ F_api_Peer_Got r_ r_) fun x21 =>
 Grp.opV (h_cmp (I := IT.u64) r_ o_T o_T) fun x22 =>
 Grp.nil o_T) fun x23 =>
 Sim.mvT r_ <|
 Sim.and 5 r_ r_ r_ (Grp.op1 (h_faC o_T) <|
 Grp.opn (h_ldC (t := T_api_Peer) (u := (T.sl T_api_Prefix)) o_T r_ r_ F_api_Peer_Allowed r_ r_) fun x24 =>
 Grp.op1 (h_faC o_T) <|
 Grp.opn (h_ldC (t := T_api_Peer) (u := (T.sl T_api_Prefix)) o_T r_ r_ F_api_Peer_Allowed r_ r_) fun x25 =>
 Grp.op (h_call1 sp_slices_Equal_api_Prefix (.cons o_T <| .one o_T)) fun x26 =>
 Grp.nil o_T) fun x27 =>
 Sim.mvT r_ <|
 Sim.doneS <| Sim.ret (.one (res_t r_))
theorem sp_view_Same_1 : Spec tb fn_view_Same_1 [T_api_Peer, T_api_Peer] [T.b] (fun a => view_Same_1 a.1 a.2) :=
  Spec.of f_view_Same_1 r_ r_ r_ sim_view_Same_1
noncomputable def view_Same (a0 : S_api_Conf) (a1 : S_api_Conf) : Option Bool :=
 let x3 := (cmpB (CmpC.arr 32 CmpC.u8) a0.Private a1.Private)
 (andO x3 (some (decide (a0.Port = a1.Port)))).bind fun x7 =>
 (andO x7 (let x10 := decide ((a0.Mark.toNat : Int) = (a1.Mark.toNat : Int))
 some x10)).bind fun x11 =>
 (fun (k12 : Bool → Option _) => if x11 = true then
 (let x19 := !decide ((a0.Peers.l.length : Int) = (a1.Peers.l.length : Int))
 if x19 = true then
 some false
 else
 (iter (fun (s21 : Int) =>
 if (decide (s21 < (a0.Peers.l.length : Int))) = true then
 (idx a0.Peers.l s21).bind fun x24 =>
 (idx a1.Peers.l s21).bind fun x28 =>
 (view_Same_1 x24 x28).bind fun x34 =>
 if (!x34) = true then
 (some false).map fun r => .inr (.inr r)
 else
 some (.inl (IntKind.i64.wrap (s21 + 1)))
 else
 some (.inr (.inl ()))) 0).bind (Sum.elim (fun (p22 : Unit) =>
 some true) some) : Option Bool).bind (fun (p16 : Bool) =>
 k12 p16)
 else
 k12 false) fun x13 =>
 some x13
noncomputable def sim_view_Same (a : Res [T_api_Conf, T_api_Conf]) : SimF tb c_view_Same [T_api_Conf, T_api_Conf] [T.b] a :=
 Sim.seqI <| Sim.opMV (M_box (t := T_api_Conf) 2 r_ r_ o_T) fun _ =>
 Sim.opMV (M_box (t := T_api_Conf) 3 r_ r_ o_T) fun _ =>
 Sim.op1 (h_mv o_b) <|
 Sim.dsI <| Sim.op1 (h_faC o_T) <|
 Sim.opn (h_ldC (t := T_api_Conf) (u := (T.arr 32 T.u8)) o_T r_ r_ F_api_Conf_Private r_ r_) fun x1 =>
 Sim.op1 (h_faC o_T) <|
 Sim.opn (h_ldC (t := T_api_Conf) (u := (T.arr 32 T.u8)) o_T r_ r_ F_api_Conf_Private r_ r_) fun x2 =>
 Sim.opV (h_eq (CmpC.arr 32 CmpC.u8) r_ r_ o_T o_T) fun x3 =>
 Sim.mvT r_ <|
 Sim.and 5 r_ r_ r_ (Grp.op1 (h_faC o_T) <|
 Grp.opn (h_ldC (t := T_api_Conf) (u := (T.int .i64)) o_T r_ r_ F_api_Conf_Port r_ r_) fun x4 =>
 Grp.op1 (h_faC o_T) <|
 Grp.opn (h_ldC (t := T_api_Conf) (u := (T.int .i64)) o_T r_ r_ F_api_Conf_Port r_ r_) fun x5 =>
 Grp.opV (h_cmpI r_ o_T o_T) fun x6 =>
 Grp.nil o_T) fun x7 =>
 Sim.mvT r_ <|
 Sim.and 5 r_ r_ r_ (Grp.op1 (h_faC o_T) <|
 Grp.opn (h_ldC (t := T_api_Conf) (u := T.u32) o_T r_ r_ F_api_Conf_Mark r_ r_) fun x8 =>
 Grp.op1 (h_faC o_T) <|
 Grp.opn (h_ldC (t := T_api_Conf) (u := T.u32) o_T r_ r_ F_api_Conf_Mark r_ r_) fun x9 =>
 Grp.opV (h_cmp (I := IT.u32) r_ o_T o_T) fun x10 =>
 Grp.nil o_T) fun x11 =>
 Sim.mvT r_ <|
 Sim.andI ⟨[], []⟩ 5 r_ r_ r_ (fun _ => sB) (fun x13 =>
 Sim.mvT r_ <|
 Sim.doneS <| Sim.ret (.one (res_t r_))) fun k12 =>
 Sim.op1 (h_faC o_T) <|
 Sim.opn (h_ldC (t := T_api_Conf) (u := (T.sl T_api_Peer)) o_T r_ r_ F_api_Conf_Peers r_ r_) fun x14 =>
 Sim.op1 (h_faC o_T) <|
 Sim.opn (h_ldC (t := T_api_Conf) (u := (T.sl T_api_Peer)) o_T r_ r_ F_api_Conf_Peers r_ r_) fun x15 =>
 Sim.inl (τ := Bool) (φs := [.val (T.sl T_api_Peer) x14, .val (T.sl T_api_Peer) x15, .fnv (.func fn_view_Same_1) [] []]) (n := 1) (L := [(24, .val T.b true)]) (Γr := (fun p16 => ⟨[(0, .val T.b p16)], [en_0]⟩)) 2000000 (fun p16 => ⟨[(29, .val T.b p16), (24, .val T.b true)], []⟩) f_slices_EqualFunc_api_Peer_api_Peer r_ r_ r_ (c_call r_) (.cons (s_o o_T) <| .cons (s_o o_T) <| .cons (s_o o_fn) <| .nil) sB r_ (
 Sim.seqI <| Sim.op1 (h_mv o_b) <|
 Sim.dsI <| Sim.seqI <| Sim.mvT r_ <|
 Sim.opV (h_len o_T) fun x17 =>
 Sim.mvT r_ <|
 Sim.opV (h_len o_T) fun x18 =>
 Sim.opV (h_cmpI r_ o_T o_T) fun x19 =>
 Sim.doneS <| Sim.cond o_T (
 Sim.seqI <| Sim.op1 (h_mv o_b) <|
 Sim.doneS <| Sim.retIn false (.cons (rg_t r_) <| .nil) sB) (
 Sim.skip <| Sim.dsI <| Sim.seqI <| Sim.mvT r_ <|
 Sim.opV (h_len o_T) fun x20 =>
 Sim.op1 (h_mv o_i) <|
 Sim.doneS <| Sim.blkI <| Sim.loop (id := 0) (σ := Int) (τ := Unit) (fun s21 => ⟨[(1, .val (T.sl T_api_Peer) x15), (2, .fnv (.func fn_view_Same_1) [] []), (15, .val (T.sl T_api_Peer) x14), (16, .val (T.int .i64) x20), (17, .val (T.int .i64) s21)], [en_0]⟩) (fun p22 => ⟨[], [en_0]⟩) 0 sB (fun _ => r_) (fun s21 =>
 Sim.seqI <| Sim.opV (h_cmpI r_ o_T o_T) fun x23 =>
 Sim.dsI <| Sim.cond o_T (
 Sim.skip <| Sim.dsI <| Sim.blkI <| Sim.seqI <| Sim.mvT r_ <|
 Sim.op (h_ias r_ o_T o_T) fun x24 =>
 Sim.opn (h_ld r_ r_ o_T) fun x25 =>
 Sim.opMV (M_alloc (t := T_api_Peer) 8 r_ r_) fun x26 =>
 Sim.mvT r_ <|
 Sim.opMV (M_stC o_T o_T r_ r_ (Fld.id _) r_) fun x27 =>
 Sim.dsI <| Sim.mvT r_ <|
 Sim.mvT r_ <|
 Sim.op (h_ias r_ o_T o_T) fun x28 =>
 Sim.opn (h_ld r_ r_ o_T) fun x29 =>
 Sim.opMV (M_alloc (t := T_api_Peer) 9 r_ r_) fun x30 =>
 Sim.opMV (M_stC o_T o_T r_ r_ (Fld.id _) r_) fun x31 =>
 Sim.dsI <| Sim.mvT r_ <|
 Sim.opn (h_ldC (t := T_api_Peer) (u := T_api_Peer) o_T r_ r_ (Fld.id _) r_ r_) fun x32 =>
 Sim.opn (h_ldC (t := T_api_Peer) (u := T_api_Peer) o_T r_ r_ (Fld.id _) r_ r_) fun x33 =>
 Sim.op (h_callS1 sp_view_Same_1 (c_callv o_T r_) (.cons (s_o o_T) <| .one (s_o o_T))) fun x34 =>
 Sim.opV (h_not o_T) fun x35 =>
 Sim.doneS <| Sim.cond o_T (
 Sim.seqI <| Sim.op1 (h_mv o_b) <|
 Sim.doneS <| Sim.outRet <| Sim.retIn false (.cons (rg_t r_) <| .nil) sB) (
 Sim.skip <| Sim.doneB <| Sim.doneS <| Sim.opV (h_add (I := (IT.int .i64)) o_T o_i) fun x36 =>
 Sim.mvT r_ <|
 Sim.next x36 sB)) (
 Sim.exitS <| Sim.out () sB)) (fun p22 =>
 Sim.exitB <| Sim.dsI <| Sim.op1 (h_mv o_b) <|
 Sim.doneS <| Sim.retIn true (.cons (rg_t r_) <| .nil) sB))) (fun p16 => BackOk.some' trivial r_ (.one r_) trivial sB) (.one fun p16 =>
 Sim.pickI (Γ0 := ⟨[], []⟩) r_ o_T sB k12)
theorem sp_view_Same : Spec tb fn_view_Same [T_api_Conf, T_api_Conf] [T.b] (fun a => view_Same a.1 a.2) :=
  Spec.of f_view_Same r_ r_ r_ sim_view_Same
noncomputable def l34_ViewSame (a0 : S_api_Conf) (a1 : S_api_Conf) : Option Bool :=
 (r34_Large a0).bind fun x2 =>
 (orO x2 ((r34_Large a1).bind fun x4 =>
 some x4)).bind fun x5 =>
 if x5 = true then
 (l34_alive ()).bind fun x6 =>
 some x6
 else
 (view_Same a0 a1).bind fun x9 =>
 (r34_Same a0 a1).bind fun x12 =>
 (andO (decide (x9 = x12)) ((view_Same a0 a0).bind fun x16 =>
 some x16)).bind fun x17 =>
 (andO x17 ((l34_alive ()).bind fun x18 =>
 some x18)).bind fun x19 =>
 some x19
noncomputable def sim_l34_ViewSame (a : Res [T_api_Conf, T_api_Conf]) : SimF tb c_l34_ViewSame [T_api_Conf, T_api_Conf] [T.b] a :=
 Sim.seqI <| Sim.opMV (M_box (t := T_api_Conf) 2 r_ r_ o_T) fun _ =>
 Sim.opMV (M_box (t := T_api_Conf) 3 r_ r_ o_T) fun _ =>
 Sim.op1 (h_mv o_b) <|
 Sim.dsI <| Sim.seqI <| Sim.opn (h_ldC (t := T_api_Conf) (u := T_api_Conf) o_T r_ r_ (Fld.id _) r_ r_) fun x1 =>
 Sim.op (h_call1 sp_r34_Large (.one o_T)) fun x2 =>
 Sim.mvT r_ <|
 Sim.or 2 r_ r_ r_ (Grp.opn (h_ldC (t := T_api_Conf) (u := T_api_Conf) o_T r_ r_ (Fld.id _) r_ r_) fun x3 =>
 Grp.op (h_call1 sp_r34_Large (.one o_T)) fun x4 =>
 Grp.nil o_T) fun x5 =>
 Sim.doneS <| Sim.cond o_T (
 Sim.seqI <| Sim.op (h_call1 sp_l34_alive (.nil)) fun x6 =>
 Sim.mvT r_ <|
 Sim.doneS <| Sim.ret (.one (res_t r_))) (
 Sim.skip <| Sim.dsI <| Sim.opn (h_ldC (t := T_api_Conf) (u := T_api_Conf) o_T r_ r_ (Fld.id _) r_ r_) fun x7 =>
 Sim.opn (h_ldC (t := T_api_Conf) (u := T_api_Conf) o_T r_ r_ (Fld.id _) r_ r_) fun x8 =>
 Sim.op (h_call1 sp_view_Same (.cons o_T <| .one o_T)) fun x9 =>
 Sim.opn (h_ldC (t := T_api_Conf) (u := T_api_Conf) o_T r_ r_ (Fld.id _) r_ r_) fun x10 =>
 Sim.opn (h_ldC (t := T_api_Conf) (u := T_api_Conf) o_T r_ r_ (Fld.id _) r_ r_) fun x11 =>
 Sim.op (h_call1 sp_r34_Same (.cons o_T <| .one o_T)) fun x12 =>
 Sim.opV (h_eqb (neg := false) o_T o_T) fun x13 =>
 Sim.mvT r_ <|
 Sim.and 3 r_ r_ r_ (Grp.opn (h_ldC (t := T_api_Conf) (u := T_api_Conf) o_T r_ r_ (Fld.id _) r_ r_) fun x14 =>
 Grp.opn (h_ldC (t := T_api_Conf) (u := T_api_Conf) o_T r_ r_ (Fld.id _) r_ r_) fun x15 =>
 Grp.op (h_call1 sp_view_Same (.cons o_T <| .one o_T)) fun x16 =>
 Grp.nil o_T) fun x17 =>
 Sim.mvT r_ <|
 Sim.and 1 r_ r_ r_ (Grp.op (h_call1 sp_l34_alive (.nil)) fun x18 =>
 Grp.nil o_T) fun x19 =>
 Sim.mvT r_ <|
 Sim.doneS <| Sim.ret (.one (res_t r_)))
theorem sp_l34_ViewSame : Spec tb fn_l34_ViewSame [T_api_Conf, T_api_Conf] [T.b] (fun a => l34_ViewSame a.1 a.2) :=
  Spec.of f_l34_ViewSame r_ r_ r_ sim_l34_ViewSame
end Go.Proofs.YtoegmdfkcaojlaaGreat.Am
end

namespace Go.Proofs.YtoegmdfkcaojlaaGreat.Am
theorem scanK {β ρ : Type} {k n : Nat} {F : Int → Option (Int ⊕ (Unit ⊕ β))} {K : Unit ⊕ β → Option ρ} (q : Nat → Option β) (hk : k ≤ n) (hn : n < 4611686018427387904) (h1 : ∀ i : Nat, k ≤ i → i < n → F (i : Int) = some (match q i with | none => .inl (IntKind.i64.wrap ((i : Int) + 1)) | some b => .inr (.inr b)))
    (h2 : F (n : Int) = some (.inr (.inl ()))) : (iter F (k : Int)).bind K = (match (List.range' k (n - k)).findSome? q with | none => K (.inl ()) | some b => K (.inr b)) := by
  refine iter_then (fun s => n - s.toNat) (fun s => ∃ i : Nat, s = i ∧ k ≤ i ∧ i ≤ n ∧ ∀ j, k ≤ j → j < i → q j = none)
    (fun r => (r = .inl () ∧ ∀ j, k ≤ j → j < n → q j = none) ∨ ∃ b, r = .inr b ∧ (List.range' k (n - k)).findSome? q = some b) ⟨k, rfl, Nat.le_refl _, hk, by omega⟩ ?_ ?_
  · rintro s ⟨i, rfl, hki, hi, hq⟩
    rcases Nat.lt_or_ge i n with hlt | hge
    · rw [h1 i hki hlt]
      cases e : q i with
      | none =>
        left
        refine ⟨_, rfl, ⟨i + 1, ?_, by omega, by omega, fun j hj1 hj => ?_⟩, ?_⟩
        · rw [show (i : Int) + 1 = ((i + 1 : Nat) : Int) by omega, wrapN (by omega)]
        · rcases Nat.lt_or_ge j i with h | h
          · exact hq j hj1 h
          · obtain rfl : j = i := by omega
            exact e
        · rw [show (i : Int) + 1 = ((i + 1 : Nat) : Int) by omega, wrapN (by omega)]; omega
      | some b =>
        right
        refine ⟨_, rfl, .inr ⟨b, rfl, ?_⟩⟩
        have : List.range' k (n - k) = List.range' k (i - k) ++ i :: List.range' (i + 1) (n - (i + 1)) := by
          rw [show n - k = (i - k) + (1 + (n - (i + 1))) by omega, ← List.range'_append_1, ← List.range'_append_1]
          simp only [List.range'_one, List.singleton_append, List.append_cancel_left_eq]
          rw [show k + (i - k) = i by omega]
        rw [this, List.findSome?_append, List.findSome?_eq_none_iff.2 (fun j hj => by
          rw [List.mem_range'_1] at hj; exact hq j hj.1 (by omega))]
        simp [e]
    · obtain rfl : i = n := by omega
      right
      exact ⟨_, h2, .inl ⟨rfl, hq⟩⟩
  · rintro _ (⟨rfl, h⟩ | ⟨b, rfl, h⟩)
    · rw [List.findSome?_eq_none_iff.2 (fun j hj => by rw [List.mem_range'_1] at hj; exact h j hj.1 (by omega))]
    · rw [h]
theorem cmpE (x y : S_api_Endpoint) : cmpB C_api_Endpoint x y = decide (x = y) :=
  if h : x = y then (cmpB_yes (t := T_api_Endpoint) h).trans (decide_eq_true h).symm else (cmpB_no (t := T_api_Endpoint) h).trans (decide_eq_false h).symm
theorem cmpP (x y : S_api_Prefix) : cmpB C_api_Prefix x y = decide (x = y) :=
  if h : x = y then (cmpB_yes (t := T_api_Prefix) h).trans (decide_eq_true h).symm else (cmpB_no (t := T_api_Prefix) h).trans (decide_eq_false h).symm
end Go.Proofs.YtoegmdfkcaojlaaGreat.Am
namespace Go.Proofs.YtoegmdfkcaojlaaGreat.Am
end Go.Proofs.YtoegmdfkcaojlaaGreat.Am
namespace Go.Proofs.YtoegmdfkcaojlaaGreat.Am
def blk (c : UInt8) : Bool := c == 32 || c == 9 || c == 13
end Go.Proofs.YtoegmdfkcaojlaaGreat.Am
namespace Go.Proofs.YtoegmdfkcaojlaaGreat.Am
end Go.Proofs.YtoegmdfkcaojlaaGreat.Am
namespace Go.Proofs.YtoegmdfkcaojlaaGreat.Am
end Go.Proofs.YtoegmdfkcaojlaaGreat.Am
namespace Go.Proofs.YtoegmdfkcaojlaaGreat.Am
end Go.Proofs.YtoegmdfkcaojlaaGreat.Am
namespace Go.Proofs.YtoegmdfkcaojlaaGreat.Am
end Go.Proofs.YtoegmdfkcaojlaaGreat.Am
namespace Go.Proofs.YtoegmdfkcaojlaaGreat.Am
end Go.Proofs.YtoegmdfkcaojlaaGreat.Am
namespace Go.Proofs.YtoegmdfkcaojlaaGreat.Am
end Go.Proofs.YtoegmdfkcaojlaaGreat.Am
namespace Go.Proofs.YtoegmdfkcaojlaaGreat.Am
open Classical
theorem cmpK (x y : Ar UInt8 32) : cmpB (CmpC.arr 32 CmpC.u8) x y = decide (x = y) :=
  if h : x = y then (cmpB_yes (t := T.arr 32 T.u8) h).trans (decide_eq_true h).symm else (cmpB_no (t := T.arr 32 T.u8) h).trans (decide_eq_false h).symm
def smallC (c : S_api_Conf) : Prop := c.Peers.l.length ≤ 400 ∧ ∀ p ∈ c.Peers.l, p.Allowed.l.length ≤ 400
end Go.Proofs.YtoegmdfkcaojlaaGreat.Am
namespace Go.Proofs.YtoegmdfkcaojlaaGreat.Am
theorem largeC_val (c : S_api_Conf) : ∃ b, r34_Large c = some b ∧ (b = false → smallC c) := by
  unfold r34_Large
  by_cases h : 20 < c.Peers.l.length
  · exact ⟨true, by rw [if_pos (by rw [decide_eq_true_eq]; omega)], by simp⟩
  · rw [if_neg (by rw [decide_eq_true_eq]; omega)]
    obtain ⟨r, e, hq⟩ : ∃ r : Unit ⊕ Bool, iter (fun s4 : Int => if (decide (s4 < (c.Peers.l.length : Int))) = true then
       (idx c.Peers.l s4).bind fun x10 =>
       if (decide (80 < (x10.Allowed.l.length : Int))) = true then
       (some true).map fun r => .inr (.inr r)
       else
       some (.inl (IntKind.i64.wrap (s4 + 1)))
       else
       some (.inr (.inl ()))) 0 = some r ∧ (r = .inr true ∨ (r = .inl () ∧ smallC c)) := by
      refine iter_ind (fun s : Int => c.Peers.l.length - s.toNat) (fun s : Int => ∃ n : Nat, s = n ∧ n ≤ c.Peers.l.length ∧ ∀ i (hi : i < n) (hl : i < c.Peers.l.length), c.Peers.l[i].Allowed.l.length ≤ 80)
        (fun r : Unit ⊕ Bool => r = .inr true ∨ (r = .inl () ∧ smallC c)) ?_ ⟨0, rfl, by omega, fun i hi => absurd hi (by omega)⟩
      rintro _ ⟨n, rfl, h1, h2⟩
      by_cases hn : n < c.Peers.l.length
      · rw [if_pos (by simpa using hn), idx_nat, List.getElem?_eq_getElem hn, Option.bind_some]
        by_cases h8 : 80 < c.Peers.l[n].Allowed.l.length
        · rw [if_pos (by rw [decide_eq_true_eq]; omega)]
          exact .inr ⟨_, rfl, .inl rfl⟩
        · rw [if_neg (by rw [decide_eq_true_eq]; omega), show (n : Int) + 1 = ((n + 1 : Nat) : Int) by omega, wrapN (by omega)]
          refine .inl ⟨_, rfl, ⟨n + 1, rfl, by omega, fun i hi hl => ?_⟩, by omega⟩
          by_cases e : i < n
          · exact h2 i e hl
          · obtain rfl : i = n := by omega
            omega
      · rw [if_neg (by simpa using hn)]
        refine .inr ⟨_, rfl, .inr ⟨rfl, by omega, fun p hp => ?_⟩⟩
        obtain ⟨i, hi, rfl⟩ := List.mem_iff_getElem.1 hp
        exact Nat.le_trans (h2 i (by omega) hi) (by decide)
    refine ⟨Sum.elim (fun _ => false) (fun b => b) r, (congrArg (fun x : Option (Unit ⊕ Bool) => x.bind (Sum.elim (fun _ => some false) some)) e).trans (by cases r <;> rfl), ?_⟩
    rcases hq with rfl | ⟨rfl, hq⟩
    · intro h; cases h
    · exact fun _ => hq
def norP (p : S_api_Peer) : Ar UInt8 32 × Ar UInt8 32 × S_api_Endpoint × Int × UInt64 × UInt64 × List S_api_Prefix := (p.Key, p.Psk, p.End, p.Keep, p.Sent, p.Got, p.Allowed.l)
def norC (c : S_api_Conf) : Ar UInt8 32 × Int × UInt32 × List (Ar UInt8 32 × Ar UInt8 32 × S_api_Endpoint × Int × UInt64 × UInt64 × List S_api_Prefix) := (c.Private, c.Port, c.Mark, c.Peers.l.map norP)
theorem allI {n : Nat} {F : Int → Option (Int ⊕ (Unit ⊕ Bool))} {K : Option Bool} (p : Nat → Prop) (hn : n < 4611686018427387904)
    (h0 : ∀ i : Nat, i < n → p i → F (i : Int) = some (.inl (IntKind.i64.wrap ((i : Int) + 1)))) (h1 : ∀ i : Nat, i < n → ¬ p i → F (i : Int) = some (.inr (.inr false)))
    (h2 : F (n : Int) = some (.inr (.inl ()))) : ((∀ i, i < n → p i) ∧ (iter F 0).bind (Sum.elim (fun _ => K) some) = K) ∨ ((¬ ∀ i, i < n → p i) ∧ (iter F 0).bind (Sum.elim (fun _ => K) some) = some false) := by
  classical
  have := scanK (K := Sum.elim (fun _ => K) some) (k := 0) (n := n) (fun i => if p i then none else some false) (Nat.zero_le _) hn (fun i _ hi => by
    by_cases e : p i
    · rw [if_pos e, h0 i hi e]
    · rw [if_neg e, h1 i hi e]) h2
  have this' : (iter F 0).bind (Sum.elim (fun _ => K) some) = _ := this
  rw [this']
  cases e : (List.range' 0 (n - 0)).findSome? fun i => if p i then none else some false with
  | none =>
    left
    refine ⟨fun i hi => ?_, rfl⟩
    have h := List.findSome?_eq_none_iff.1 e i (by simp; omega)
    by_cases q : p i
    · exact q
    · rw [if_neg q] at h; cases h
  | some b =>
    right
    obtain ⟨i, hi, hb⟩ := List.exists_of_findSome?_eq_some e
    simp only [List.mem_range'_1] at hi
    by_cases q : p i
    · rw [if_pos q] at hb; cases hb
    · rw [if_neg q] at hb
      cases hb
      exact ⟨fun h => q (h i (by omega)), rfl⟩
theorem r11_same (a b : GS S_api_Prefix) (ha : a.l.length < 1000000000) : r11_Same a b = some (decide (a.l = b.l)) := by
  unfold r11_Same
  dsimp only
  by_cases h : a.l.length = b.l.length
  · rw [if_neg (by simp [h])]
    rcases allI (n := a.l.length) (F := fun (s4 : Int) =>
      if (decide (s4 < (a.l.length : Int))) = true then
      (idx a.l s4).bind fun x8 => (idx b.l s4).bind fun x10 => if (!(cmpB C_api_Prefix x8 x10)) = true then (some false).map fun r => .inr (.inr r) else some (.inl (IntKind.i64.wrap (s4 + 1)))
      else some (.inr (.inl ()))) (K := some true) (fun i => a.l[i]? = b.l[i]?) (by omega) (fun i hi hp => by
        have hb : i < b.l.length := by omega
        rw [List.getElem?_eq_getElem hi, List.getElem?_eq_getElem hb, Option.some.injEq] at hp
        rw [if_pos (by simpa using hi), idx_nat, idx_nat, List.getElem?_eq_getElem hi, List.getElem?_eq_getElem hb, Option.bind_some, Option.bind_some, if_neg (by rw [cmpP, decide_eq_true hp]; decide)]) (fun i hi hp => by
        have hb : i < b.l.length := by omega
        rw [List.getElem?_eq_getElem hi, List.getElem?_eq_getElem hb, Option.some.injEq] at hp
        rw [if_pos (by simpa using hi), idx_nat, idx_nat, List.getElem?_eq_getElem hi, List.getElem?_eq_getElem hb, Option.bind_some, Option.bind_some, if_pos (by rw [cmpP, decide_eq_false hp]; decide)]; rfl) (by rw [if_neg (by simp)]) with ⟨hq, e⟩ | ⟨hq, e⟩
    · refine e.trans (congrArg some (decide_eq_true (List.ext_getElem? fun i => ?_)).symm)
      by_cases hi : i < a.l.length
      · exact hq i hi
      · rw [List.getElem?_eq_none (by omega), List.getElem?_eq_none (by omega)]
    · exact e.trans (congrArg some (decide_eq_false fun h => hq fun i _ => by rw [h]).symm)
  · rw [if_pos (by simp only [Bool.not_eq_true', decide_eq_false_iff_not]; omega), decide_eq_false fun e => h (by rw [e])]
theorem u64_eq (x y : UInt64) : decide ((x.toNat : Int) = (y.toNat : Int)) = decide (x = y) := by
  by_cases h : x = y
  · subst h; simp
  · rw [decide_eq_false h, decide_eq_false]
    intro e
    exact h (UInt64.toNat_inj.1 (by omega))
theorem u32_eq (x y : UInt32) : decide ((x.toNat : Int) = (y.toNat : Int)) = decide (x = y) := by
  by_cases h : x = y
  · subst h; simp
  · rw [decide_eq_false h, decide_eq_false]
    intro e
    exact h (UInt32.toNat_inj.1 (by omega))
open Classical in
theorem same_peer (p q : S_api_Peer) (hp : p.Allowed.l.length < 1000000000) : r34_SamePeer p q = some (decide (norP p = norP q)) := by
  unfold r34_SamePeer
  dsimp only
  rw [cmpK, cmpK, cmpE, u64_eq, u64_eq, r11_same _ _ hp]
  unfold norP
  by_cases h1 : p.Key = q.Key <;> by_cases h2 : p.Psk = q.Psk <;> by_cases h3 : p.End = q.End <;> by_cases h4 : p.Keep = q.Keep <;> by_cases h5 : p.Sent = q.Sent <;> by_cases h6 : p.Got = q.Got <;> by_cases h7 : p.Allowed.l = q.Allowed.l <;> simp [andO, h1, h2, h3, h4, h5, h6, h7]
open Classical in
theorem same_conf (a b : S_api_Conf) (hs : smallC a) : r34_Same a b = some (decide (norC a = norC b)) := by
  unfold r34_Same
  dsimp only
  rw [cmpK, u32_eq]
  have hlen : (decide ((a.Peers.l.length : Int) = (b.Peers.l.length : Int))) = decide (a.Peers.l.length = b.Peers.l.length) := by
    by_cases h : a.Peers.l.length = b.Peers.l.length <;> simp [h]; omega
  rw [hlen]
  by_cases h1 : a.Private = b.Private
  · by_cases h2 : a.Port = b.Port
    · by_cases h3 : a.Mark = b.Mark
      · by_cases h4 : a.Peers.l.length = b.Peers.l.length
        · simp only [h1, h2, h3, h4, decide_true, Bool.not_true, orO, Option.bind_some, Bool.false_eq_true, if_false]
          rcases allI (n := a.Peers.l.length) (F := fun (s18 : Int) =>
            if (decide (s18 < (a.Peers.l.length : Int))) = true then
            (idx a.Peers.l s18).bind fun x24 => (idx b.Peers.l s18).bind fun x27 => (r34_SamePeer x24 x27).bind fun x29 => if (!x29) = true then (some false).map fun r => .inr (.inr r) else some (.inl (IntKind.i64.wrap (s18 + 1)))
            else some (.inr (.inl ()))) (K := some true) (fun i => (a.Peers.l.map norP)[i]? = (b.Peers.l.map norP)[i]?) (by have := hs.1; omega) (fun i hi hp => by
              have hb : i < b.Peers.l.length := by omega
              have hsm := hs.2 _ (List.getElem_mem hi)
              rw [List.getElem?_map, List.getElem?_map, List.getElem?_eq_getElem hi, List.getElem?_eq_getElem hb, Option.map_some, Option.map_some, Option.some.injEq] at hp
              rw [if_pos (by simpa using hi), idx_nat, idx_nat, List.getElem?_eq_getElem hi, List.getElem?_eq_getElem hb, Option.bind_some, Option.bind_some, same_peer _ _ (by omega), Option.bind_some, if_neg (by rw [decide_eq_true hp]; decide)]) (fun i hi hp => by
              have hb : i < b.Peers.l.length := by omega
              have hsm := hs.2 _ (List.getElem_mem hi)
              rw [List.getElem?_map, List.getElem?_map, List.getElem?_eq_getElem hi, List.getElem?_eq_getElem hb, Option.map_some, Option.map_some, Option.some.injEq] at hp
              rw [if_pos (by simpa using hi), idx_nat, idx_nat, List.getElem?_eq_getElem hi, List.getElem?_eq_getElem hb, Option.bind_some, Option.bind_some, same_peer _ _ (by omega), Option.bind_some, if_pos (by rw [decide_eq_false hp]; decide)]; rfl) (by rw [if_neg (by simp)]) with ⟨hq, e⟩ | ⟨hq, e⟩
          · refine Eq.trans ?_ (e.trans (congrArg some (decide_eq_true ?_).symm))
            · rw [h4]
            · unfold norC
              rw [h1, h2, h3, List.ext_getElem? (l₁ := a.Peers.l.map norP) (l₂ := b.Peers.l.map norP) fun i => ?_]
              by_cases hi : i < a.Peers.l.length
              · exact hq i hi
              · rw [List.getElem?_eq_none (by simp; omega), List.getElem?_eq_none (by simp; omega)]
          · refine Eq.trans ?_ (e.trans (congrArg some (decide_eq_false fun h => hq fun i _ => ?_).symm))
            · rw [h4]
            · have : a.Peers.l.map norP = b.Peers.l.map norP := congrArg (fun x => x.2.2.2) h
              rw [this]
        · simp only [h1, h2, h3, decide_true, Bool.not_true, orO, Option.bind_some, Bool.false_eq_true, if_false, decide_eq_false h4, Bool.not_false, if_true]
          rw [decide_eq_false]
          intro h
          have : a.Peers.l.map norP = b.Peers.l.map norP := congrArg (fun x => x.2.2.2) h
          exact h4 (by simpa using congrArg List.length this)
      · rw [decide_eq_false (p := norC a = norC b) fun h => h3 (congrArg (fun x => x.2.2.1) h)]
        simp [h1, h2, h3, orO]
    · rw [decide_eq_false (p := norC a = norC b) fun h => h2 (congrArg (fun x => x.2.1) h)]
      simp [h1, h2, orO]
  · rw [decide_eq_false (p := norC a = norC b) fun h => h1 (congrArg (fun x => x.1) h)]
    simp [h1, orO]
theorem same_one (x y : S_api_Peer) : view_Same_1 x y = r34_SamePeer x y := rfl
theorem view_same (a b : S_api_Conf) : view_Same a b = r34_Same a b := by
  unfold view_Same r34_Same
  dsimp only
  have e : view_Same_1 = r34_SamePeer := by funext x y; exact same_one x y
  rw [e]
  generalize cmpB (CmpC.arr 32 CmpC.u8) a.Private b.Private = p1
  generalize decide (a.Port = b.Port) = p2
  generalize decide ((a.Mark.toNat : Int) = (b.Mark.toNat : Int)) = p3
  generalize decide ((a.Peers.l.length : Int) = (b.Peers.l.length : Int)) = p4
  cases p1 <;> cases p2 <;> cases p3 <;> cases p4 <;> simp [andO, orO]
theorem plain_ViewSame (a b : S_api_Conf) : l34_ViewSame a b = some true := by
  unfold l34_ViewSame
  obtain ⟨la, ea, ha⟩ := largeC_val a
  obtain ⟨lb, eb, hb⟩ := largeC_val b
  rw [ea, eb]
  cases la with
  | true => rfl
  | false =>
    cases lb with
    | true => rfl
    | false =>
      rw [view_same, view_same, same_conf a b (ha rfl), same_conf a a (ha rfl)]
      simp [orO, andO, l34_alive]
end Go.Proofs.YtoegmdfkcaojlaaGreat.Am

