/-
  A type's cells are a structure's.
-/
import Derived.Test.YtggdinpopddhnaaAmQ
import Derived.Test.YtggdinpopddhnaaAmO
namespace Go.Proofs.Ytggdinpopddhnaa.Am
section
variable {P : Program} {n : Nat} {t e : TypeId} {cs : List AV}
theorem inv_int {k : IntKind} (hu : P.underlying t = some (.int k)) (h : Typed P n t cs) : ∃ x : Int, cs = [.i k x] := by
  cases n with
  | zero => exact h.elim
  | succ n =>
    simp only [Typed, hu] at h
    obtain ⟨x, e, _⟩ := h
    exact ⟨x, e⟩
theorem inv_bool (hu : P.underlying t = some .bool) (h : Typed P n t cs) : ∃ x : Bool, cs = [.b x] := by
  cases n with
  | zero => exact h.elim
  | succ n => simp only [Typed, hu] at h; exact h
theorem inv_str (hu : P.underlying t = some .string) (h : Typed P n t cs) : ∃ x : List UInt8, cs = [.s x] := by
  cases n with
  | zero => exact h.elim
  | succ n => simp only [Typed, hu] at h; exact h
theorem inv_u8 (hu : P.underlying t = some (.int .u8)) (h : Typed P n t cs) : ∃ x : UInt8, cs = [.i .u8 x.toNat] := by
  cases n with
  | zero => exact h.elim
  | succ n =>
    simp only [Typed, hu] at h
    obtain ⟨x, e, hx⟩ := h
    have h0 : 0 ≤ x ∧ x < 256 := by
      simp only [IntKind.has, IntKind.min, IntKind.max, IntKind.signed, IntKind.bits] at hx
      simp at hx
      omega
    refine ⟨UInt8.ofNat x.toNat, ?_⟩
    rw [e]
    congr 2
    have hx : (UInt8.ofNat x.toNat).toNat = x.toNat := by rw [UInt8.toNat_ofNat']; omega
    rw [hx]
    omega
theorem inv_bytes {m : Nat} (hu : P.underlying t = some (.array m e)) (he : P.underlying e = some (.int .u8)) (h : Typed P n t cs) : ∃ b : Bs m, cs = b.c := by
  cases n with
  | zero => exact h.elim
  | succ n =>
    simp only [Typed, hu] at h
    obtain ⟨els, hl, rfl, hels⟩ := h
    have key : ∀ l : List (List AV), (∀ x ∈ l, Typed P n e x) → ∃ b : List UInt8, b.length = l.length ∧ l.flatten = b.map fun x => .i .u8 x.toNat := by
      intro l
      induction l with
      | nil => intro _; exact ⟨[], rfl, rfl⟩
      | cons x l ih =>
        intro hx
        obtain ⟨b, h1, h2⟩ := ih fun y hy => hx y (List.mem_cons_of_mem _ hy)
        obtain ⟨u, rfl⟩ := inv_u8 he (hx x List.mem_cons_self)
        exact ⟨u :: b, by simp [h1], by simp [h2]⟩
    obtain ⟨b, h1, h2⟩ := key els hels
    exact ⟨⟨b, h1.trans hl⟩, h2⟩
theorem inv_slice {α : Type} {sz : Nat} {c : α → List AV} (hu : P.underlying t = some (.slice e)) (hsz : P.cellsOf e = sz) (he : ∀ (n : Nat) (cs : List AV), Typed P n e cs → ∃ x : α, cs = c x) (h : Typed P n t cs) : ∃ g : GS α, cs = [slv sz c g] := by
  cases n with
  | zero => exact h.elim
  | succ n =>
    simp only [Typed, hu] at h
    rcases h with rfl | ⟨els, rfl, hels⟩
    · exact ⟨.nil, rfl⟩
    · have key : ∀ l : List (List AV), (∀ x ∈ l, Typed P n e x) → ∃ b : List α, l = b.map c := by
        intro l
        induction l with
        | nil => intro _; exact ⟨[], rfl⟩
        | cons x l ih =>
          intro hx
          obtain ⟨b, rfl⟩ := ih fun y hy => hx y (List.mem_cons_of_mem _ hy)
          obtain ⟨u, rfl⟩ := he n x (hx x List.mem_cons_self)
          exact ⟨u :: b, rfl⟩
      obtain ⟨b, rfl⟩ := key els hels
      exact ⟨.mk b, by rw [hsz]; rfl⟩
theorem look_mem {α : Type} {n : Nat} {v : α} : ∀ {l : List (Nat × α)}, look n l = some v → (n, v) ∈ l
  | [], h => by simp [look] at h
  | (k, u) :: r, h => by
    simp only [look] at h
    split at h
    · rename_i e
      obtain rfl := Option.some.inj h
      obtain rfl := Nat.eq_of_beq_eq_true e
      exact List.mem_cons_self
    · exact List.mem_cons_of_mem _ (look_mem h)
end
end Go.Proofs.Ytggdinpopddhnaa.Am
