/-
  Plain laws: numbers, pieces of lists, a text split at a byte.
-/
import Derived.Test.YtopgecohakediaaDoorSmL
namespace Go.Proofs.YtopgecohakediaaDoor.Am

theorem wrapI {x : Int} (h0 : -9223372036854775808 ≤ x) (h1 : x < 9223372036854775808) : IntKind.i64.wrap x = x := by
  simp only [IntKind.wrap, IntKind.bits, IntKind.signed]; simp; omega
theorem wrapN {m : Nat} (h : m < 9223372036854775808) : IntKind.i64.wrap (m : Int) = m := wrapI (by omega) (by omega)

section
variable {α : Type}
theorem subL_to {l : List α} {n : Nat} (h : n ≤ l.length) : subL l none (some (n : Int)) = some (l.take n) := by
  simp [subL, bnd, h]
theorem subL_from {l : List α} {n : Nat} (h : n ≤ l.length) : subL l (some (n : Int)) none = some (l.drop n) := by
  simp [subL, bnd, h]
theorem subL_mid {l : List α} {m n : Nat} (h : m ≤ n) (h' : n ≤ l.length) : subL l (some (m : Int)) (some (n : Int)) = some ((l.take n).drop m) := by
  simp [subL, bnd, h, h']
theorem slG_from {l : List α} {n : Nat} (h : n ≤ l.length) : slG (.mk l) (some (n : Int)) none = some (.mk (l.drop n)) := by
  simp [slG, bnd, GS.l, h, pieceG]
theorem slG_to {l : List α} {n : Nat} (h : n ≤ l.length) : slG (.mk l) none (some (n : Int)) = some (.mk (l.take n)) := by
  simp [slG, bnd, GS.l, h, pieceG]
theorem idx_nat {l : List α} {n : Nat} : idx l (n : Int) = l[n]? := by simp [idx]
theorem idxN_nat {n k : Nat} (h : n < k) : idxN k (n : Int) = some n := by simp [idxN, h]
theorem apG_one {bytes : Nat} {g : GS α} {x : α} (h : (g.l.length + 1) * bytes ≤ most) : apG bytes g [x] = some (.mk (g.l ++ [x])) := by
  unfold apG
  rw [if_pos (by simpa using h)]
  cases g <;> rfl
@[simp] theorem GS.l_mk {l : List α} : (GS.mk l).l = l := rfl
@[simp] theorem GS.l_nil : (GS.nil : GS α).l = [] := rfl

/-! loops, by a measure -/
theorem iter_ind {σ β : Type} {F : σ → Option (σ ⊕ β)} (m : σ → Nat) (I : σ → Prop) (Q : β → Prop)
    (step : ∀ s, I s → (∃ s', F s = some (.inl s') ∧ I s' ∧ m s' < m s) ∨ ∃ b, F s = some (.inr b) ∧ Q b) : ∀ {s}, I s → ∃ b, iter F s = some b ∧ Q b := by
  have key : ∀ n s, m s < n → I s → ∃ b, iter F s = some b ∧ Q b := by
    intro n
    induction n with
    | zero => intro s h; omega
    | succ n ih =>
      intro s h hI
      rcases step s hI with ⟨s', e, hI', hm⟩ | ⟨b, e, hq⟩
      · rw [iter_next e]; exact ih s' (by omega) hI'
      · exact ⟨b, iter_last e, hq⟩
  intro s hI
  exact key _ s (Nat.lt_succ_self _) hI
/-- .. and what is done behind them -/
theorem iter_then {σ β γ : Type} {F : σ → Option (σ ⊕ β)} {K : β → Option γ} {r : Option γ} {s : σ} (m : σ → Nat) (I : σ → Prop) (Q : β → Prop) (h : I s)
    (step : ∀ s, I s → (∃ s', F s = some (.inl s') ∧ I s' ∧ m s' < m s) ∨ ∃ b, F s = some (.inr b) ∧ Q b) (fin : ∀ b, Q b → K b = r) : (iter F s).bind K = r := by
  obtain ⟨b, e, hb⟩ := iter_ind m I Q step h
  rw [e]; exact fin b hb
/-- .. that come to one value -/
theorem iter_val {σ β : Type} {F : σ → Option (σ ⊕ β)} {b : β} (m : σ → Nat) (I : σ → Prop)
    (step : ∀ s, I s → (∃ s', F s = some (.inl s') ∧ I s' ∧ m s' < m s) ∨ F s = some (.inr b)) {s : σ} (h : I s) : iter F s = some b := by
  obtain ⟨b', e, rfl⟩ := iter_ind m I (fun b' => b' = b) (fun s hs => (step s hs).imp_right fun e => ⟨b, e, rfl⟩) h
  exact e
end

/-! a text split at a byte -/
def splitB (c : UInt8) : Str → List Str
  | [] => [[]]
  | x :: l => if x = c then [] :: splitB c l else match splitB c l with
    | [] => [[x]]
    | h :: t => (x :: h) :: t
theorem splitB_ne {c : UInt8} : ∀ l, splitB c l ≠ []
  | [] => by simp [splitB]
  | x :: l => by
    simp only [splitB]
    split
    · simp
    · split <;> simp
theorem splitB_none {c : UInt8} : ∀ {p : Str}, (∀ x ∈ p, x ≠ c) → splitB c p = [p]
  | [], _ => rfl
  | x :: p, h => by
    simp only [splitB, if_neg (h x List.mem_cons_self), splitB_none fun y hy => h y (List.mem_cons_of_mem _ hy)]
theorem splitB_app {c : UInt8} {q : Str} : ∀ {p : Str}, (∀ x ∈ p, x ≠ c) → splitB c (p ++ c :: q) = p :: splitB c q
  | [], _ => by simp [splitB]
  | x :: p, h => by
    simp only [List.cons_append, splitB, if_neg (h x List.mem_cons_self), splitB_app fun y hy => h y (List.mem_cons_of_mem _ hy)]
theorem splitB_len {c : UInt8} : ∀ l : Str, (splitB c l).length = l.countP (fun x => x == c) + 1
  | [] => rfl
  | x :: l => by
    have ih := splitB_len (c := c) l
    simp only [splitB]
    by_cases hx : x = c
    · rw [if_pos hx, List.length_cons, ih, List.countP_cons_of_pos (by simp [hx])]
    · rw [if_neg hx, List.countP_cons_of_neg (by simp [hx])]
      split
      · rename_i e; exact absurd e (splitB_ne l)
      · rename_i e; rw [e] at ih; simpa using ih
theorem splitB_le {c : UInt8} (l : Str) : (splitB c l).length ≤ l.length + 1 := by
  rw [splitB_len]; have := List.countP_le_length (p := fun x => x == c) (l := l); omega

theorem findB_cases (l : Str) (c : UInt8) : ((∀ x ∈ l, x ≠ c) ∧ findB l c = -1) ∨ ∃ p q, l = p ++ c :: q ∧ (∀ x ∈ p, x ≠ c) ∧ findB l c = (p.length : Int) := by
  unfold findB
  cases e : l.findIdx? (fun x => x == c) with
  | none =>
    left
    rw [List.findIdx?_eq_none_iff] at e
    exact ⟨fun x hx => by simpa using e x hx, rfl⟩
  | some i =>
    right
    rw [List.findIdx?_eq_some_iff_getElem] at e
    obtain ⟨h, h1, h2⟩ := e
    have hc : l[i] = c := by simpa using h1
    refine ⟨l.take i, l.drop (i + 1), ?_, ?_, ?_⟩
    · rw [← hc, ← List.drop_eq_getElem_cons h, List.take_append_drop]
    · intro x hx
      obtain ⟨j, hj, rfl⟩ := List.mem_iff_getElem.1 hx
      rw [List.length_take] at hj
      have := h2 j (by omega)
      rw [List.getElem_take]
      simpa using this
    · rw [List.length_take]; simp only [Int.ofNat_inj]; omega

/-- a slice of one's own is filled -/
theorem set_at {α : Type} {d : List α} {x y : α} {r : List α} : (d ++ x :: r).set d.length y = d ++ y :: r := by
  rw [List.set_append_right _ _ (Nat.le_refl _), Nat.sub_self, List.set_cons_zero]
theorem drop_at {α : Type} {p q : List α} {x : α} : (p ++ x :: q).drop (p.length + 1) = q := by
  rw [← List.drop_drop, List.drop_left' rfl]; rfl
theorem take_at {α : Type} {p q : List α} : (p ++ q).take p.length = p := List.take_left' rfl
theorem get_at {α : Type} {d : List α} {x : α} {r : List α} : (d ++ x :: r)[d.length]? = some x := by
  rw [List.getElem?_append_right (Nat.le_refl _), Nat.sub_self]; rfl
end Go.Proofs.YtopgecohakediaaDoor.Am
