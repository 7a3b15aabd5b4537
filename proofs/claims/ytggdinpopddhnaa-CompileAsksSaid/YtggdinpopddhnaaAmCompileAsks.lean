/-
  PROVED: for every input of crawlway/crawlwaylaw45.CompileAsks the call returns true, and its argument reads afterwards as it read before.
  Its conditions: those of the given row compileAsksRow, no others.
-/
import Derived.Test.YtggdinpopddhnaaAmSB
import Derived.Test.YtggdinpopddhnaaAmInv
import Derived.Test.YtggdinpopddhnaaAmChk
import Derived.Test.YtggdinpopddhnaaRows
import Derived.ProofKit
set_option maxRecDepth 100000
namespace Go.Proofs.Ytggdinpopddhnaa.Am
open Go.ChangeShapes Go.WideShapes Go.ChangeAt Go.RowKit Go.Proofs

theorem law_CompileAsks {n : Nat} (xs : List AV) (h : TypedVs Try.prog n [32] xs) : ∃ h, den tb fn_l45_CompileAsks xs [] = some (.b true, h) := by
  obtain ⟨x, r, rfl, hx, hr⟩ := h
  obtain rfl : r = [] := hr
  have ha : aggT Try.prog 32 = true := by kernel_rfl
  simp only [TypedV, ha, if_true] at hx
  obtain ⟨cs, rfl, ht⟩ := hx
  obtain ⟨c, rfl⟩ := inv_TIni ht
  exact ⟨_, l45_CompileAsks_s (h := []) (by simp [WF, mentH]) (c := c)⟩

theorem own : ownKnob Try.prog.godebug = none := by kernel_rfl
theorem laidOut : laidOutB Try.prog = true := by kernel_rfl
theorem lifted_CompileAsks (os : Os) (started : os.Started) (H : Type) (enc : TypeId × Value → H) :
    ReturnsInHanded {} Try.checked os 4 .any (Rows.compileAsksSpec.pre6 enc Try.prog Try.f4 Rows.compileAsksRow.domain false) (Rows.compileAsksSpec.post enc Try.prog Try.f4 false true false false) := by
  refine returnsInHanded_of_change (C := Try.checked) own started (by kernel_rfl) Try.func4
    (ChangeSpec.witness6 (enc := enc) (C := Try.checked) false ⟨#[], #[.agg (Array.replicate 32 (.int .u8 0) ++ #[.int .i64 0, .int .u32 0, .slice none 0 0])], []⟩ 8 (by kernel_rfl) (by kernel_rfl) (by kernel_rfl) (by kernel_rfl)) ?_
  intro W base args ds gs before hval hW _ _
  refine contract fits (n := 8) (bt := 4) laidOut rfl Try.underlying4 (by kernel_rfl) (by kernel_rfl) rfl ?_ hval hW (fun g cs h => by cases h) fun xs ht _ => law_CompileAsks xs ht
  intro ds hd
  obtain ⟨d, rfl⟩ : ∃ d, ds = [d] := by
    match ds, hd with
    | [d], _ => exact ⟨d, rfl⟩
  rfl
end Go.Proofs.Ytggdinpopddhnaa.Am
namespace Go.Proofs.Ytggdinpopddhnaa
open Go.ChangeShapes Go.WideShapes Go.ChangeAt Go.RowKit Go.Proofs
theorem compileAsks_holds : Rows.CompileAsksSaid :=
  OpenClaim.holds_of_wide 4 Try.f4 rfl rfl rfl rfl rfl rfl rfl ⟨rfl, rfl, rfl, rfl, rfl⟩ rfl rfl rfl rfl rfl (by kernel_rfl) Try.func4 (by kernel_rfl)
    (of_decide_eq_true (by kernel_rfl)) (by unfold Func.isWrapper; first | (rw [if_pos (by decide +kernel)]; kernel_rfl) | (rw [if_neg (by decide +kernel)]; exact ⟨rfl, rfl⟩))
    (fun os started H enc _ => Am.lifted_CompileAsks os started H enc)
end Go.Proofs.Ytggdinpopddhnaa

