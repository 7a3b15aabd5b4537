/-
  PROVED: for every input of crawlway/crawlwaylaw36.PairlineBlocks the call returns true, and its arguments read afterwards as they read before. Printed by mkrow.py.
  Its conditions: those of the given row pairlineBlocksRow and card, no others.
-/
import Derived.Test.YtopgecohakediaaDoorChk
import Derived.Test.YtopgecohakediaaDoorPlPairlineBlocks
import Derived.Test.YtopgecohakediaaDoorCards
import Derived.Test.YtopgecohakediaaDoorTie
import Derived.Deep.DeepHandedRow
import Derived.ProofKit
import Derived.KernelRfl
set_option maxRecDepth 100000
set_option linter.unusedVariables false
namespace Go.Proofs.YtopgecohakediaaDoor.Am
open Go.ChangeShapes Go.WideShapes Go.ChangeAt Go.RowKit Go.Proofs

theorem ty_37 : TyOk Tryd.prog 37 T_pairline_Pair (fun (y : S_pairline_Pair) => (fun _ => True) y.Key ∧ (fun _ => True) y.Value) := TyOk.weak (TyOk.st (u := (T.prod T.str T.str)) (P := Tryd.prog) (t := 37) (f := fun (x : S_pairline_Pair) => (x.Key, x.Value)) (g := fun (p : (Str × Str)) => ⟨p.1, p.2⟩) (hfg := fun _ => rfl) (hu := Tryd.underlying37) (TyF.cons (TyOk.str (by kernel_rfl)) (TyF.one (TyOk.str (by kernel_rfl))))) (fun _ h => h)
theorem law_PairlineBlocks {n : Nat} (xs : List AV) (h : TypedVs Tryd.prog n [34] xs) : ∃ h, den tb fn_l36_PairlineBlocks xs [] = some (.b true, h) :=
  Spec.law sp_l36_PairlineBlocks rfl (fun e => by cases e) (Tys.one (by kernel_rfl) (TyOk.sl (e := 37) ty_37 (by kernel_rfl) (by kernel_rfl))) (fun a _ => plain_PairlineBlocks a) h

theorem own : ownKnob Tryd.prog.godebug = none := by kernel_rfl
theorem laidOut : laidOutB Tryd.prog = true := by kernel_rfl
theorem contract_PairlineBlocks (H : Type) (enc : TypeId × Value → H) (W : World) (base : Nat) (args : Array Value) (ds gs : List (DataW H)) (before : List MemPlace)
    (hval : ∀ (j : Nat) t v, Tryd.f5.params[j]? = some t → args[j]? = some v → Value.okWide Tryd.prog W .any base t v)
    (hW : DataW.Whole enc Tryd.prog Tryd.f5.params.toList Rows.pairlineBlocksSpec.vars false W args.toList ds gs before) :
    Calls Tryd.prog 5 args W fun e W' => ∃ v, e = .returned v ∧ Rows.pairlineBlocksSpec.post enc Tryd.prog Tryd.f5 false true false false W args v W' := by
  refine contract fits (n := 12) (bt := 4) laidOut rfl Tryd.underlying4 (by kernel_rfl) (by kernel_rfl) rfl ?_ hval hW (fun g cs h => by cases h) fun xs ht _ => law_PairlineBlocks xs ht
  intro ds hd
  obtain ⟨d0, rfl⟩ : ∃ d0, ds = [d0] := by
    match ds, hd with
    | [d0], _ => exact ⟨d0, rfl⟩
  rfl

/-- a world for the witness: the listed tables hold what they hold -/
def fillT (cs : Array Value) : Go.Obj → Go.Obj
  | .cells _ t frozen => .cells cs t frozen
  | o => o
noncomputable def laidWorld (os : Os) : World :=
  { World.holding Tryd.prog os ⟨#[], #[], []⟩ with heap := (((World.holding Tryd.prog os ⟨#[], #[], []⟩).heap.modify 1 (fillT (Go.Pinned.utf8FirstZ.map fun (n : Nat) => Value.int .u8 n).toArray)).modify 2 (fillT #[.int .u8 128, .int .u8 191, .int .u8 160, .int .u8 191, .int .u8 128, .int .u8 159, .int .u8 144, .int .u8 191, .int .u8 128, .int .u8 143, .int .u8 0, .int .u8 0, .int .u8 0, .int .u8 0, .int .u8 0, .int .u8 0, .int .u8 0, .int .u8 0, .int .u8 0, .int .u8 0, .int .u8 0, .int .u8 0, .int .u8 0, .int .u8 0, .int .u8 0, .int .u8 0, .int .u8 0, .int .u8 0, .int .u8 0, .int .u8 0, .int .u8 0, .int .u8 0])) }
theorem laid_met (os : Os) : laidMet Tryd.prog Rows.pairlineBlocksRow.laid ((laidWorld os).forCall (fun _ _ => 0) ⟨#[], #[.slice none 0 0], []⟩).memory :=
  laidMet_of_run' 8 (by kernel_rfl) (by kernel_rfl)
theorem reads (os : Os) {H : Type} (enc : TypeId × Value → H) : ∃ places, DataW.whole enc Tryd.prog ((laidWorld os).forCall (fun _ _ => 0) ⟨#[], #[.slice none 0 0], []⟩).memory Tryd.f5.params.toList Rows.pairlineBlocksSpec.vars false (#[.slice none 0 0] : Array Value).toList 12 = some ([.nil], [], places) :=
  ⟨[], by kernel_rfl⟩
theorem lifted_PairlineBlocks (os : Os) (started : os.Started) (H : Type) (enc : TypeId × Value → H) (F : Stop.Interp) :
    ReturnsInHanded {} Tryd.checked os 5 .any ((OpenSpec.ofChange Rows.pairlineBlocksSpec).preRow enc Tryd.prog Tryd.f5 Rows.pairlineBlocksRow.domain false Rows.pairlineBlocksRow.laid) (((OpenSpec.ofChange Rows.pairlineBlocksSpec).at F).post enc Tryd.prog Tryd.f5 false true false false) := by
  obtain ⟨places, hx⟩ := reads os enc
  refine returnsInHanded_of_row (C := Tryd.checked) (s := OpenSpec.ofChange Rows.pairlineBlocksSpec) own started (by kernel_rfl) Tryd.func5
    (witness_row_at (enc := enc) (C := Tryd.checked) false (laidWorld os) #[.slice none 0 0] rfl (by kernel_rfl) (by kernel_rfl) (by kernel_rfl)
      (OpenSpec.preRow_of_cond 12 hx (by kernel_rfl) (fun k hk => by cases hk) (by kernel_rfl) (laid_met os))) ?_
  intro W base args ds gs before hval hW _ _ _ hL _ hcond
  exact contract_PairlineBlocks H enc W base args ds gs before hval hW
end Go.Proofs.YtopgecohakediaaDoor.Am
namespace Go.Proofs.YtopgecohakediaaDoor
open Go.ChangeShapes Go.WideShapes Go.ChangeAt Go.RowKit Go.Proofs
theorem pairlineBlocks_said : Rows.PairlineBlocksSaid :=
  OpenClaim.holds_of_cond 5 Tryd.f5 rfl rfl rfl rfl rfl rfl rfl ⟨rfl, rfl, rfl, rfl, rfl⟩ rfl rfl rfl rfl rfl (by kernel_rfl) Tryd.func5 (by kernel_rfl)
    (of_decide_eq_true (by kernel_rfl)) (by unfold Func.isWrapper; first | (rw [if_pos (by decide +kernel)]; kernel_rfl) | (rw [if_neg (by decide +kernel)]; exact ⟨rfl, rfl⟩))
    (fun os started H enc _ F => by rw [OpenClaim.pre_eq_preRow]; exact Am.lifted_PairlineBlocks os started H enc F)
theorem pairlineBlocks_plain (f : FuncId) (fn : Func) (hf : Tryd.pinned.checked.prog.funcNamed "crawlway/crawlwaylaw36.PairlineBlocks" = some f) (hfn : Tryd.pinned.checked.prog.funcs[f]? = some fn) :
    false = Tryd.pinned.checked.prog.looks [] ∧ ∀ (j : Nat) t, fn.params[j]? = some t → Tryd.pinned.checked.prog.wantsStandIn t = false := by
  obtain rfl : f = 5 := Option.some.inj ((show Tryd.prog.funcNamed "crawlway/crawlwaylaw36.PairlineBlocks" = some 5 by kernel_rfl).symm.trans hf) |>.symm
  obtain rfl : fn = Tryd.f5 := (Option.some.inj (Tryd.func5.symm.trans hfn)).symm
  refine ⟨by kernel_rfl, fun j t ht => ?_⟩
  have hm := Array.mem_of_getElem? ht
  have all : ∀ t ∈ Tryd.f5.params.toList, Tryd.prog.wantsStandIn t = false := fun t ht => by
    have h : Tryd.f5.params.toList.all (fun t => !Tryd.prog.wantsStandIn t) = true := by kernel_rfl
    simpa using List.all_eq_true.1 h t ht
  exact all t (by simpa using hm)
theorem pairlineBlocks_holds : Rows.PairlineBlocksCardSaid :=
  Claim7.holds_tied_plain_at .later [] _ _ _ _ pairlineBlocks_said (fun _ h => by cases h) (by kernel_rfl) (fun _ h => by cases h) pairlineBlocks_row_tie rfl ⟨rfl, rfl⟩ (by kernel_rfl) rfl pairlineBlocks_plain (by kernel_rfl)
end Go.Proofs.YtopgecohakediaaDoor
