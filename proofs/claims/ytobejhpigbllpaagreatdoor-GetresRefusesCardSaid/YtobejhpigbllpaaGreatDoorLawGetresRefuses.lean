/-
  PROVED: for every input of crawlway/crawlwaylaw39.GetresRefuses the call returns true, and its arguments read afterwards as they read before. Printed by mkrow.py.
  Its conditions: those of the given row getresRefusesRow and card, no others.
-/
import Derived.Test.YtobejhpigbllpaaGreatDoorChk
import Derived.Test.YtobejhpigbllpaaGreatDoorPlGetresRefuses
import Derived.Test.YtobejhpigbllpaaGreatDoorCards
import Derived.Test.YtobejhpigbllpaaGreatDoorTie
import Derived.Deep.DeepHandedRow
import Derived.ProofKit
import Derived.KernelRfl
set_option maxRecDepth 100000
set_option linter.unusedVariables false
namespace Go.Proofs.YtobejhpigbllpaaGreatDoor.Am
open Go.ChangeShapes Go.WideShapes Go.ChangeAt Go.RowKit Go.Proofs

theorem law_GetresRefuses {n : Nat} (xs : List AV) (h : TypedVs Tryz.prog n [3] xs) : ∃ h, den tb fn_l39_GetresRefuses xs [] = some (.b true, h) :=
  Spec.law sp_l39_GetresRefuses rfl (fun e => by cases e) (Tys.one (by kernel_rfl) (TyOk.int (by kernel_rfl))) (fun a _ => plain_GetresRefuses a) h

theorem own : ownKnob Tryz.prog.godebug = none := by kernel_rfl
theorem laidOut : laidOutB Tryz.prog = true := by kernel_rfl
theorem contract_GetresRefuses (H : Type) (enc : TypeId × Value → H) (W : World) (base : Nat) (args : Array Value) (ds gs : List (DataW H)) (before : List MemPlace)
    (hval : ∀ (j : Nat) t v, Tryz.f8.params[j]? = some t → args[j]? = some v → Value.okWide Tryz.prog W .any base t v)
    (hW : DataW.Whole enc Tryz.prog Tryz.f8.params.toList Rows.getresRefusesSpec.vars false W args.toList ds gs before)
    (hL : laidMet Tryz.prog Rows.getresRefusesRow.laid W) :
    Calls Tryz.prog 8 args W fun e W' => ∃ v, e = .returned v ∧ Rows.getresRefusesSpec.post enc Tryz.prog Tryz.f8 false true false false W args v W' := by
  refine contract fits (n := 12) (bt := 4) laidOut rfl Tryz.underlying4 (by kernel_rfl) (by kernel_rfl) rfl ?_ hval hW (fun g cs h => by
    have hm := look_mem h
    have all : ∀ x ∈ gll, x.1 < W.heap.size ∧ x.2.all scal = true ∧ ∃ vs, Holds W x.1 0 vs ∧ RepL ⟨fun _ => ⟨0, 0, 0⟩, [], W⟩ x.2 vs := by
      simp only [gll, List.forall_mem_cons]
      exact ⟨gl_of_laid hL (n := "crawlway/field.names") (d := Rows.laid_crawlway_field_names) (e := 9) (List.Mem.tail _ (List.Mem.tail _ (List.Mem.tail _ (List.Mem.tail _ (List.Mem.tail _ (List.Mem.head _)))))) (by kernel_rfl) (t := 203) (by kernel_rfl) Tryz.underlying203 (by kernel_rfl) (by kernel_rfl) rfl (by kernel_rfl), gl_of_laid hL (n := "internal/strconv.uint64pow10") (d := Rows.laid_internal_strconv_uint64pow10) (e := 81) (List.Mem.tail _ (List.Mem.tail _ (List.Mem.head _))) (by kernel_rfl) (t := 262) (by kernel_rfl) Tryz.underlying262 (by kernel_rfl) (by kernel_rfl) rfl (by kernel_rfl), fun x h => (by cases h)⟩
    exact all _ hm) fun xs ht _ => law_GetresRefuses xs ht
  intro ds hd
  obtain ⟨d0, rfl⟩ : ∃ d0, ds = [d0] := by
    match ds, hd with
    | [d0], _ => exact ⟨d0, rfl⟩
  rfl

/-- a world for the witness: the listed tables hold what they hold -/
def fillT (cs : Array Value) : Go.Obj → Go.Obj
  | .cells _ t frozen => .cells cs t frozen
  | o => o
noncomputable def laidWorld (os : Os) : World :=
  { World.holding Tryz.prog os ⟨#[], #[], []⟩ with heap := (((((((((World.holding Tryz.prog os ⟨#[], #[], []⟩).heap.modify 7 (fillT (#[.int .u8 0, .int .u8 1, .int .u8 28, .int .u8 2, .int .u8 29, .int .u8 14, .int .u8 24, .int .u8 3, .int .u8 30, .int .u8 22, .int .u8 20, .int .u8 15, .int .u8 25, .int .u8 17, .int .u8 4, .int .u8 8, .int .u8 31, .int .u8 27, .int .u8 13, .int .u8 23, .int .u8 21, .int .u8 19, .int .u8 16, .int .u8 7, .int .u8 26, .int .u8 12, .int .u8 18, .int .u8 6, .int .u8 11, .int .u8 5, .int .u8 10, .int .u8 9]))).modify 8 (fillT (#[.int .u8 0, .int .u8 1, .int .u8 56, .int .u8 2, .int .u8 57, .int .u8 49, .int .u8 28, .int .u8 3, .int .u8 61, .int .u8 58, .int .u8 42, .int .u8 50, .int .u8 38, .int .u8 29, .int .u8 17, .int .u8 4, .int .u8 62, .int .u8 47, .int .u8 59, .int .u8 36, .int .u8 45, .int .u8 43, .int .u8 51, .int .u8 22, .int .u8 53, .int .u8 39, .int .u8 33, .int .u8 30, .int .u8 24, .int .u8 18, .int .u8 12, .int .u8 5, .int .u8 63, .int .u8 55, .int .u8 48, .int .u8 27, .int .u8 60, .int .u8 41, .int .u8 37, .int .u8 16, .int .u8 46, .int .u8 35, .int .u8 44, .int .u8 21, .int .u8 52, .int .u8 32, .int .u8 23, .int .u8 11, .int .u8 54, .int .u8 26, .int .u8 40, .int .u8 15, .int .u8 34, .int .u8 20, .int .u8 31, .int .u8 10, .int .u8 25, .int .u8 14, .int .u8 19, .int .u8 9, .int .u8 13, .int .u8 8, .int .u8 7, .int .u8 6]))).modify 2 (fillT (#[.int .u64 1, .int .u64 10, .int .u64 100, .int .u64 1000, .int .u64 10000, .int .u64 100000, .int .u64 1000000, .int .u64 10000000, .int .u64 100000000, .int .u64 1000000000, .int .u64 10000000000, .int .u64 100000000000, .int .u64 1000000000000, .int .u64 10000000000000, .int .u64 100000000000000, .int .u64 1000000000000000, .int .u64 10000000000000000, .int .u64 100000000000000000, .int .u64 1000000000000000000, .int .u64 10000000000000000000]))).modify 4 (fillT (#[.iface 273 (.pointer (some ⟨14, 0, none⟩))]))).modify 3 (fillT (#[.iface 273 (.pointer (some ⟨15, 0, none⟩))]))).modify 0 (fillT (#[.string ⟨#[]⟩, .string ⟨#[112, 114, 105, 118, 97, 116, 101, 95, 107, 101, 121]⟩, .string ⟨#[108, 105, 115, 116, 101, 110, 95, 112, 111, 114, 116]⟩, .string ⟨#[102, 119, 109, 97, 114, 107]⟩, .string ⟨#[114, 101, 112, 108, 97, 99, 101, 95, 112, 101, 101, 114, 115]⟩, .string ⟨#[112, 117, 98, 108, 105, 99, 95, 107, 101, 121]⟩, .string ⟨#[114, 101, 109, 111, 118, 101]⟩, .string ⟨#[117, 112, 100, 97, 116, 101, 95, 111, 110, 108, 121]⟩, .string ⟨#[112, 114, 101, 115, 104, 97, 114, 101, 100, 95, 107, 101, 121]⟩, .string ⟨#[101, 110, 100, 112, 111, 105, 110, 116]⟩, .string ⟨#[112, 101, 114, 115, 105, 115, 116, 101, 110, 116, 95, 107, 101, 101, 112, 97, 108, 105, 118, 101, 95, 105, 110, 116, 101, 114, 118, 97, 108]⟩, .string ⟨#[114, 101, 112, 108, 97, 99, 101, 95, 97, 108, 108, 111, 119, 101, 100, 95, 105, 112, 115]⟩, .string ⟨#[97, 108, 108, 111, 119, 101, 100, 95, 105, 112]⟩, .string ⟨#[112, 114, 111, 116, 111, 99, 111, 108, 95, 118, 101, 114, 115, 105, 111, 110]⟩, .string ⟨#[116, 120, 95, 98, 121, 116, 101, 115]⟩, .string ⟨#[114, 120, 95, 98, 121, 116, 101, 115]⟩, .string ⟨#[101, 114, 114, 110, 111]⟩]))).push (.cells #[.string ⟨#[118, 97, 108, 117, 101, 32, 111, 117, 116, 32, 111, 102, 32, 114, 97, 110, 103, 101]⟩] 275 (0, 0))).push (.cells #[.string ⟨#[105, 110, 118, 97, 108, 105, 100, 32, 115, 121, 110, 116, 97, 120]⟩] 275 (0, 0))) }
theorem laid_met (os : Os) : laidMet Tryz.prog Rows.getresRefusesRow.laid ((laidWorld os).forCall (fun _ _ => 0) ⟨#[], #[.int .i64 0], []⟩).memory :=
  laidMet_of_run' 8 (by kernel_rfl) (by kernel_rfl)
theorem reads (os : Os) {H : Type} (enc : TypeId × Value → H) : ∃ places, DataW.whole enc Tryz.prog ((laidWorld os).forCall (fun _ _ => 0) ⟨#[], #[.int .i64 0], []⟩).memory Tryz.f8.params.toList Rows.getresRefusesSpec.vars false (#[.int .i64 0] : Array Value).toList 12 = some ([.lit (.int .i64 0)], [], places) :=
  ⟨[], by kernel_rfl⟩
theorem lifted_GetresRefuses (os : Os) (started : os.Started) (H : Type) (enc : TypeId × Value → H) (F : Stop.Interp) :
    ReturnsInHanded {} Tryz.checked os 8 .any ((OpenSpec.ofChange Rows.getresRefusesSpec).preRow enc Tryz.prog Tryz.f8 Rows.getresRefusesRow.domain false Rows.getresRefusesRow.laid) (((OpenSpec.ofChange Rows.getresRefusesSpec).at F).post enc Tryz.prog Tryz.f8 false true false false) := by
  obtain ⟨places, hx⟩ := reads os enc
  refine returnsInHanded_of_row (C := Tryz.checked) (s := OpenSpec.ofChange Rows.getresRefusesSpec) own started (by kernel_rfl) Tryz.func8
    (witness_row_at (enc := enc) (C := Tryz.checked) false (laidWorld os) #[.int .i64 0] rfl (by kernel_rfl) (by kernel_rfl) (by kernel_rfl)
      (OpenSpec.preRow_of_cond 12 hx (by kernel_rfl) (fun k hk => by cases hk) (by kernel_rfl) (laid_met os))) ?_
  intro W base args ds gs before hval hW _ _ _ hL _ hcond
  exact contract_GetresRefuses H enc W base args ds gs before hval hW hL
end Go.Proofs.YtobejhpigbllpaaGreatDoor.Am
namespace Go.Proofs.YtobejhpigbllpaaGreatDoor
open Go.ChangeShapes Go.WideShapes Go.ChangeAt Go.RowKit Go.Proofs
theorem getresRefuses_said : Rows.GetresRefusesSaid :=
  OpenClaim.holds_of_cond 8 Tryz.f8 rfl rfl rfl rfl rfl rfl rfl ⟨rfl, rfl, rfl, rfl, rfl⟩ rfl rfl rfl rfl rfl (by kernel_rfl) Tryz.func8 (by kernel_rfl)
    (of_decide_eq_true (by kernel_rfl)) (by unfold Func.isWrapper; first | (rw [if_pos (by decide +kernel)]; kernel_rfl) | (rw [if_neg (by decide +kernel)]; exact ⟨rfl, rfl⟩))
    (fun os started H enc _ F => by rw [OpenClaim.pre_eq_preRow]; exact Am.lifted_GetresRefuses os started H enc F)
theorem getresRefuses_plain (f : FuncId) (fn : Func) (hf : Tryz.pinned.checked.prog.funcNamed "crawlway/crawlwaylaw39.GetresRefuses" = some f) (hfn : Tryz.pinned.checked.prog.funcs[f]? = some fn) :
    true = Tryz.pinned.checked.prog.looks [] ∧ ∀ (j : Nat) t, fn.params[j]? = some t → Tryz.pinned.checked.prog.wantsStandIn t = false := by
  obtain rfl : f = 8 := Option.some.inj ((show Tryz.prog.funcNamed "crawlway/crawlwaylaw39.GetresRefuses" = some 8 by kernel_rfl).symm.trans hf) |>.symm
  obtain rfl : fn = Tryz.f8 := (Option.some.inj (Tryz.func8.symm.trans hfn)).symm
  refine ⟨by kernel_rfl, fun j t ht => ?_⟩
  have hm := Array.mem_of_getElem? ht
  have all : ∀ t ∈ Tryz.f8.params.toList, Tryz.prog.wantsStandIn t = false := fun t ht => by
    have h : Tryz.f8.params.toList.all (fun t => !Tryz.prog.wantsStandIn t) = true := by kernel_rfl
    simpa using List.all_eq_true.1 h t ht
  exact all t (by simpa using hm)
theorem getresRefuses_holds : Rows.GetresRefusesCardSaid :=
  Claim7.holds_tied_plain_at .later [] _ _ _ _ getresRefuses_said (fun _ h => by cases h) (by kernel_rfl) (fun _ h => by cases h) getresRefuses_row_tie rfl ⟨rfl, rfl⟩ (by kernel_rfl) rfl getresRefuses_plain (by kernel_rfl)
end Go.Proofs.YtobejhpigbllpaaGreatDoor
