/-
  A type's cells are its structure's. Printed by mkinv.py.
-/
import Derived.Test.YtggdinpopddhnaaAmR
import Derived.Test.YtggdinpopddhnaaProg
import Derived.KernelRfl
set_option linter.unusedVariables false
namespace Go.Proofs.Ytggdinpopddhnaa.Am
open Go.Proofs

theorem inv_TAddr {n : Nat} {cs : List AV} (h : Typed Try.prog n 46 cs) : ∃ x : TAddr, cs = x.c := by
  cases n with
  | zero => exact h.elim
  | succ n =>
    simp only [Typed, Try.underlying46, TypedF] at h
    obtain ⟨a0, _, rfl, h0, a1, _, rfl, h1, rfl⟩ := h
    obtain ⟨x0, rfl⟩ := inv_int Try.underlying3 h0
    obtain ⟨x1, rfl⟩ := inv_bytes Try.underlying44 Try.underlying5 h1
    exact ⟨⟨x0, x1⟩, by simp only [List.append_nil]; rfl⟩
theorem inv_TPrefix {n : Nat} {cs : List AV} (h : Typed Try.prog n 58 cs) : ∃ x : TPrefix, cs = x.c := by
  cases n with
  | zero => exact h.elim
  | succ n =>
    simp only [Typed, Try.underlying58, TypedF] at h
    obtain ⟨a0, _, rfl, h0, a1, _, rfl, h1, rfl⟩ := h
    obtain ⟨x0, rfl⟩ := inv_TAddr h0
    obtain ⟨x1, rfl⟩ := inv_int Try.underlying3 h1
    exact ⟨⟨x0, x1⟩, by simp only [List.append_nil]; rfl⟩
theorem inv_TEndpoint {n : Nat} {cs : List AV} (h : Typed Try.prog n 48 cs) : ∃ x : TEndpoint, cs = x.c := by
  cases n with
  | zero => exact h.elim
  | succ n =>
    simp only [Typed, Try.underlying48, TypedF] at h
    obtain ⟨a0, _, rfl, h0, a1, _, rfl, h1, rfl⟩ := h
    obtain ⟨x0, rfl⟩ := inv_TAddr h0
    obtain ⟨x1, rfl⟩ := inv_int Try.underlying3 h1
    exact ⟨⟨x0, x1⟩, by simp only [List.append_nil]; rfl⟩
theorem inv_TPeer {n : Nat} {cs : List AV} (h : Typed Try.prog n 52 cs) : ∃ x : TPeer, cs = x.c := by
  cases n with
  | zero => exact h.elim
  | succ n =>
    simp only [Typed, Try.underlying52, TypedF] at h
    obtain ⟨a0, _, rfl, h0, a1, _, rfl, h1, a2, _, rfl, h2, a3, _, rfl, h3, a4, _, rfl, h4, a5, _, rfl, h5, a6, _, rfl, h6, rfl⟩ := h
    obtain ⟨x0, rfl⟩ := inv_bytes Try.underlying23 Try.underlying5 h0
    obtain ⟨x1, rfl⟩ := inv_bytes Try.underlying23 Try.underlying5 h1
    obtain ⟨x2, rfl⟩ := inv_TEndpoint h2
    obtain ⟨x3, rfl⟩ := inv_int Try.underlying3 h3
    obtain ⟨x4, rfl⟩ := inv_int Try.underlying49 h4
    obtain ⟨x5, rfl⟩ := inv_int Try.underlying49 h5
    obtain ⟨x6, rfl⟩ := inv_slice (sz := 18) (c := TPrefix.c) Try.underlying50 (by kernel_rfl) (fun n cs h => inv_TPrefix h) h6
    exact ⟨⟨x0, x1, x2, x3, x4, x5, x6⟩, by simp only [List.append_nil]; rfl⟩
theorem inv_TIniPeer {n : Nat} {cs : List AV} (h : Typed Try.prog n 55 cs) : ∃ x : TIniPeer, cs = x.c := by
  cases n with
  | zero => exact h.elim
  | succ n =>
    simp only [Typed, Try.underlying55, TypedF] at h
    obtain ⟨a0, _, rfl, h0, a1, _, rfl, h1, a2, _, rfl, h2, a3, _, rfl, h3, a4, _, rfl, h4, rfl⟩ := h
    obtain ⟨x0, rfl⟩ := inv_bytes Try.underlying23 Try.underlying5 h0
    obtain ⟨x1, rfl⟩ := inv_bytes Try.underlying23 Try.underlying5 h1
    obtain ⟨x2, rfl⟩ := inv_TEndpoint h2
    obtain ⟨x3, rfl⟩ := inv_int Try.underlying3 h3
    obtain ⟨x4, rfl⟩ := inv_slice (sz := 18) (c := TPrefix.c) Try.underlying50 (by kernel_rfl) (fun n cs h => inv_TPrefix h) h4
    exact ⟨⟨x0, x1, x2, x3, x4⟩, by simp only [List.append_nil]; rfl⟩
theorem inv_TConf {n : Nat} {cs : List AV} (h : Typed Try.prog n 27 cs) : ∃ x : TConf, cs = x.c := by
  cases n with
  | zero => exact h.elim
  | succ n =>
    simp only [Typed, Try.underlying27, TypedF] at h
    obtain ⟨a0, _, rfl, h0, a1, _, rfl, h1, a2, _, rfl, h2, a3, _, rfl, h3, rfl⟩ := h
    obtain ⟨x0, rfl⟩ := inv_bytes Try.underlying23 Try.underlying5 h0
    obtain ⟨x1, rfl⟩ := inv_int Try.underlying3 h1
    obtain ⟨x2, rfl⟩ := inv_int Try.underlying24 h2
    obtain ⟨x3, rfl⟩ := inv_slice (sz := 86) (c := TPeer.c) Try.underlying25 (by kernel_rfl) (fun n cs h => inv_TPeer h) h3
    exact ⟨⟨x0, x1, x2, x3⟩, by simp only [List.append_nil]; rfl⟩
theorem inv_TIni {n : Nat} {cs : List AV} (h : Typed Try.prog n 32 cs) : ∃ x : TIni, cs = x.c := by
  cases n with
  | zero => exact h.elim
  | succ n =>
    simp only [Typed, Try.underlying32, TypedF] at h
    obtain ⟨a0, _, rfl, h0, a1, _, rfl, h1, a2, _, rfl, h2, a3, _, rfl, h3, rfl⟩ := h
    obtain ⟨x0, rfl⟩ := inv_bytes Try.underlying23 Try.underlying5 h0
    obtain ⟨x1, rfl⟩ := inv_int Try.underlying3 h1
    obtain ⟨x2, rfl⟩ := inv_int Try.underlying24 h2
    obtain ⟨x3, rfl⟩ := inv_slice (sz := 84) (c := TIniPeer.c) Try.underlying30 (by kernel_rfl) (fun n cs h => inv_TIniPeer h) h3
    exact ⟨⟨x0, x1, x2, x3⟩, by simp only [List.append_nil]; rfl⟩
end Go.Proofs.Ytggdinpopddhnaa.Am
