/-
  Plain laws: two loops side by side; a text's lines with and without an end.
-/
import Derived.Test.YtopgecohakediaaDoorPlC
namespace Go.Proofs.YtopgecohakediaaDoor.Am

theorem ne_of_notMem {l : Str} {c : UInt8} (h : c ∉ l) : ∀ x ∈ l, x ≠ c := fun x hx e => h (e ▸ hx)
/-- two loops side by side -/
theorem iter_rel {σ τ β γ : Type} {F : σ → Option (σ ⊕ β)} {G : τ → Option (τ ⊕ γ)} (m : σ → Nat) (R : σ → τ → Prop) (Q : β → γ → Prop)
    (step : ∀ s t, R s t → (∃ s' t', F s = some (.inl s') ∧ G t = some (.inl t') ∧ R s' t' ∧ m s' < m s) ∨ ∃ b c, F s = some (.inr b) ∧ G t = some (.inr c) ∧ Q b c) {s : σ} {t : τ} (h : R s t) :
    ∃ b c, iter F s = some b ∧ iter G t = some c ∧ Q b c := by
  have key : ∀ n s t, m s < n → R s t → ∃ b c, iter F s = some b ∧ iter G t = some c ∧ Q b c := by
    intro n
    induction n with
    | zero => intro s t h; omega
    | succ n ih =>
      intro s t h hR
      rcases step s t hR with ⟨s', t', e1, e2, hR', hm⟩ | ⟨b, c, e1, e2, hq⟩
      · rw [iter_next e1, iter_next e2]; exact ih s' t' (by omega) hR'
      · exact ⟨b, c, iter_last e1, iter_last e2, hq⟩
  exact key _ s t (Nat.lt_succ_self _) h

theorem splitB_last (c : UInt8) : ∀ l : Str, ∃ init last pre, splitB c l = init ++ [last] ∧ l = pre ++ last ∧ c ∉ last ∧ ((pre = [] ∧ init = []) ∨ ∃ m, pre = m ++ [c] ∧ init = splitB c m)
  | [] => ⟨[], [], [], rfl, rfl, by simp, .inl ⟨rfl, rfl⟩⟩
  | x :: l => by
    obtain ⟨init, last, pre, h1, h2, h3, h4⟩ := splitB_last c l
    by_cases hx : x = c
    · subst hx
      refine ⟨[] :: init, last, x :: pre, by simp [splitB, h1], by rw [h2]; rfl, h3, .inr ?_⟩
      rcases h4 with ⟨rfl, rfl⟩ | ⟨m, rfl, rfl⟩
      · exact ⟨[], rfl, rfl⟩
      · exact ⟨x :: m, rfl, by simp [splitB]⟩
    · rcases h4 with ⟨rfl, rfl⟩ | ⟨m, rfl, rfl⟩
      · refine ⟨[], x :: last, [], ?_, by rw [h2]; rfl, ?_, .inl ⟨rfl, rfl⟩⟩
        · simp only [List.nil_append] at h1
          simp [splitB, hx, h1]
        · simp only [List.mem_cons, not_or]; exact ⟨Ne.symm hx, h3⟩
      · have hm := splitB_ne (c := c) m
        cases hs : splitB c m with
        | nil => exact absurd hs hm
        | cons h t =>
          rw [hs] at h1
          refine ⟨(x :: h) :: t, last, x :: (m ++ [c]), ?_, by rw [h2]; rfl, h3, .inr ⟨x :: m, rfl, ?_⟩⟩
          · simp [splitB, hx, h1]
          · simp [splitB, hx, hs]

theorem loose_both (s : Str) (hl : s.length < 1073741823) : ∃ g g', lines_Loose s = some g ∧ r06_Loose s = some g' ∧ g.l = g'.l ∧ g.l.length ≤ s.length + 1 := by
  obtain ⟨init, last, pre, h1, h2, h3, h4⟩ := splitB_last 10 s
  have hle := splitB_le (c := 10) s
  rw [h1, List.length_append, List.length_singleton] at hle
  have hr : r06_Loose s = if last = [] then some (.mk init) else some (.mk (init ++ [last])) := by
    unfold r06_Loose
    simp only [r06_parts_val s 10 (by omega), h1, Option.bind_some]
    have hn : ((GS.mk (init ++ [last])).l.length : Int) - 1 = (init.length : Nat) := by simp
    rw [hn, wrapN (by omega)]
    have hi : idx (GS.mk (init ++ [last])).l ((init.length : Nat) : Int) = some last := by
      rw [idx_nat]; simp
    rw [hi, slG_to (by simp)]
    simp only [Option.bind_some, List.take_left']
    by_cases h : last = []
    · rw [if_pos h, if_pos (by simpa using h)]
    · rw [if_neg h, if_neg (by simpa using h)]
  by_cases h : last = []
  · rw [if_pos h] at hr
    subst h
    rw [List.append_nil] at h2
    subst h2
    rcases h4 with ⟨rfl, rfl⟩ | ⟨m, rfl, rfl⟩
    · exact ⟨.nil, _, by simp [lines_Loose], hr, rfl, by simp⟩
    · simp only [List.length_append, List.length_cons, List.length_nil] at hl
      exact ⟨_, _, loose_val m (by omega), hr, rfl, by simp only [GS.l_mk]; omega⟩
  · rw [if_neg h] at hr
    refine ⟨_, _, loose_none s hl ?_ ?_, hr, by rw [h1], by rw [h1]; simp; omega⟩
    · intro e
      have := congrArg List.length h2
      rw [e, List.length_append, List.length_nil] at this
      exact h (List.eq_nil_of_length_eq_zero (by omega))
    · intro m e
      rcases snoc_cases last with e' | ⟨q, x, e'⟩
      · exact h e'
      · rw [e', e, ← List.append_assoc] at h2
        have := List.append_inj_right' h2 rfl
        simp only [List.cons.injEq, and_true] at this
        exact h3 (by rw [e', ← this]; simp)

end Go.Proofs.YtopgecohakediaaDoor.Am
