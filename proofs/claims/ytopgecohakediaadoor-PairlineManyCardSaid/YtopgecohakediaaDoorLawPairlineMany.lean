/-
  PROVED: for every input of crawlway/crawlwaylaw36.PairlineMany the call returns true, and its arguments read afterwards as they read before. Printed by mkrow.py.
  Its conditions: those of the given row pairlineManyRow and card, no others.
-/
import Derived.Test.YtopgecohakediaaDoorChk
import Derived.Test.YtopgecohakediaaDoorPlPairlineMany
import Derived.Test.YtopgecohakediaaDoorCards
import Derived.Test.YtopgecohakediaaDoorTie
import Derived.Deep.DeepHandedRow
import Derived.ProofKit
import Derived.KernelRfl
set_option maxRecDepth 100000
set_option linter.unusedVariables false
namespace Go.Proofs.YtopgecohakediaaDoor.Am
open Go.ChangeShapes Go.WideShapes Go.ChangeAt Go.RowKit Go.Proofs

theorem law_PairlineMany {n : Nat} (xs : List AV) (h : TypedVs Tryd.prog n [3] xs) : ∃ h, den tb fn_l36_PairlineMany xs [] = some (.b true, h) :=
  Spec.law sp_l36_PairlineMany rfl (fun e => by cases e) (Tys.one (by kernel_rfl) (TyOk.int (by kernel_rfl))) (fun a _ => plain_PairlineMany a) h

theorem own : ownKnob Tryd.prog.godebug = none := by kernel_rfl
theorem laidOut : laidOutB Tryd.prog = true := by kernel_rfl
theorem contract_PairlineMany (H : Type) (enc : TypeId × Value → H) (W : World) (base : Nat) (args : Array Value) (ds gs : List (DataW H)) (before : List MemPlace)
    (hval : ∀ (j : Nat) t v, Tryd.f7.params[j]? = some t → args[j]? = some v → Value.okWide Tryd.prog W .any base t v)
    (hW : DataW.Whole enc Tryd.prog Tryd.f7.params.toList Rows.pairlineManySpec.vars false W args.toList ds gs before) :
    Calls Tryd.prog 7 args W fun e W' => ∃ v, e = .returned v ∧ Rows.pairlineManySpec.post enc Tryd.prog Tryd.f7 false true false false W args v W' := by
  refine contract fits (n := 12) (bt := 4) laidOut rfl Tryd.underlying4 (by kernel_rfl) (by kernel_rfl) rfl ?_ hval hW (fun g cs h => by cases h) fun xs ht _ => law_PairlineMany xs ht
  intro ds hd
  obtain ⟨d0, rfl⟩ : ∃ d0, ds = [d0] := by
    match ds, hd with
    | [d0], _ => exact ⟨d0, rfl⟩
  rfl

/-- a world for the witness: the listed tables hold what they hold -/
def fillT (cs : Array Value) : Go.Obj → Go.Obj
  | .cells _ t frozen => .cells cs t frozen
  | o => o
noncomputable def laidWorld (os : Os) : World :=
  { World.holding Tryd.prog os ⟨#[], #[], []⟩ with heap := (((World.holding Tryd.prog os ⟨#[], #[], []⟩).heap.modify 1 (fillT (Go.Pinned.utf8FirstZ.map fun (n : Nat) => Value.int .u8 n).toArray)).modify 2 (fillT #[.int .u8 128, .int .u8 191, .int .u8 160, .int .u8 191, .int .u8 128, .int .u8 159, .int .u8 144, .int .u8 191, .int .u8 128, .int .u8 143, .int .u8 0, .int .u8 0, .int .u8 0, .int .u8 0, .int .u8 0, .int .u8 0, .int .u8 0, .int .u8 0, .int .u8 0, .int .u8 0, .int .u8 0, .int .u8 0, .int .u8 0, .int .u8 0, .int .u8 0, .int .u8 0, .int .u8 0, .int .u8 0, .int .u8 0, .int .u8 0, .int .u8 0, .int .u8 0])) }
theorem laid_met (os : Os) : laidMet Tryd.prog Rows.pairlineManyRow.laid ((laidWorld os).forCall (fun _ _ => 0) ⟨#[], #[.int .i64 0], []⟩).memory :=
  laidMet_of_run' 8 (by kernel_rfl) (by kernel_rfl)
theorem reads (os : Os) {H : Type} (enc : TypeId × Value → H) : ∃ places, DataW.whole enc Tryd.prog ((laidWorld os).forCall (fun _ _ => 0) ⟨#[], #[.int .i64 0], []⟩).memory Tryd.f7.params.toList Rows.pairlineManySpec.vars false (#[.int .i64 0] : Array Value).toList 12 = some ([.lit (.int .i64 0)], [], places) :=
  ⟨[], by kernel_rfl⟩
theorem lifted_PairlineMany (os : Os) (started : os.Started) (H : Type) (enc : TypeId × Value → H) (F : Stop.Interp) :
    ReturnsInHanded {} Tryd.checked os 7 .any ((OpenSpec.ofChange Rows.pairlineManySpec).preRow enc Tryd.prog Tryd.f7 Rows.pairlineManyRow.domain false Rows.pairlineManyRow.laid) (((OpenSpec.ofChange Rows.pairlineManySpec).at F).post enc Tryd.prog Tryd.f7 false true false false) := by
  obtain ⟨places, hx⟩ := reads os enc
  refine returnsInHanded_of_row (C := Tryd.checked) (s := OpenSpec.ofChange Rows.pairlineManySpec) own started (by kernel_rfl) Tryd.func7
    (witness_row_at (enc := enc) (C := Tryd.checked) false (laidWorld os) #[.int .i64 0] rfl (by kernel_rfl) (by kernel_rfl) (by kernel_rfl)
      (OpenSpec.preRow_of_cond 12 hx (by kernel_rfl) (fun k hk => by cases hk) (by kernel_rfl) (laid_met os))) ?_
  intro W base args ds gs before hval hW _ _ _ hL _ hcond
  exact contract_PairlineMany H enc W base args ds gs before hval hW
end Go.Proofs.YtopgecohakediaaDoor.Am
namespace Go.Proofs.YtopgecohakediaaDoor
open Go.ChangeShapes Go.WideShapes Go.ChangeAt Go.RowKit Go.Proofs
theorem pairlineMany_said : Rows.PairlineManySaid :=
  OpenClaim.holds_of_cond 7 Tryd.f7 rfl rfl rfl rfl rfl rfl rfl ⟨rfl, rfl, rfl, rfl, rfl⟩ rfl rfl rfl rfl rfl (by kernel_rfl) Tryd.func7 (by kernel_rfl)
    (of_decide_eq_true (by kernel_rfl)) (by unfold Func.isWrapper; first | (rw [if_pos (by decide +kernel)]; kernel_rfl) | (rw [if_neg (by decide +kernel)]; exact ⟨rfl, rfl⟩))
    (fun os started H enc _ F => by rw [OpenClaim.pre_eq_preRow]; exact Am.lifted_PairlineMany os started H enc F)
theorem pairlineMany_plain (f : FuncId) (fn : Func) (hf : Tryd.pinned.checked.prog.funcNamed "crawlway/crawlwaylaw36.PairlineMany" = some f) (hfn : Tryd.pinned.checked.prog.funcs[f]? = some fn) :
    false = Tryd.pinned.checked.prog.looks [] ∧ ∀ (j : Nat) t, fn.params[j]? = some t → Tryd.pinned.checked.prog.wantsStandIn t = false := by
  obtain rfl : f = 7 := Option.some.inj ((show Tryd.prog.funcNamed "crawlway/crawlwaylaw36.PairlineMany" = some 7 by kernel_rfl).symm.trans hf) |>.symm
  obtain rfl : fn = Tryd.f7 := (Option.some.inj (Tryd.func7.symm.trans hfn)).symm
  refine ⟨by kernel_rfl, fun j t ht => ?_⟩
  have hm := Array.mem_of_getElem? ht
  have all : ∀ t ∈ Tryd.f7.params.toList, Tryd.prog.wantsStandIn t = false := fun t ht => by
    have h : Tryd.f7.params.toList.all (fun t => !Tryd.prog.wantsStandIn t) = true := by kernel_rfl
    simpa using List.all_eq_true.1 h t ht
  exact all t (by simpa using hm)
theorem pairlineMany_holds : Rows.PairlineManyCardSaid :=
  Claim7.holds_tied_plain_at .later [] _ _ _ _ pairlineMany_said (fun _ h => by cases h) (by kernel_rfl) (fun _ h => by cases h) pairlineMany_row_tie rfl ⟨rfl, rfl⟩ (by kernel_rfl) rfl pairlineMany_plain (by kernel_rfl)
end Go.Proofs.YtopgecohakediaaDoor
