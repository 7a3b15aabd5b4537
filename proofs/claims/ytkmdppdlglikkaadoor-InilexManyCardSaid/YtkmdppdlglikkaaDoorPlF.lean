/-
  Plain laws: a text's lines with and without an end; the law InilexReads.
-/
import Derived.Test.YtkmdppdlglikkaaDoorPlE
namespace Go.Proofs.YtkmdppdlglikkaaDoor.Am

/-- two loops side by side -/
theorem iter_rel {σ τ β γ : Type} {F : σ → Option (σ ⊕ β)} {G : τ → Option (τ ⊕ γ)} (m : σ → Nat) (R : σ → τ → Prop) (Q : β → γ → Prop)
    (step : ∀ s t, R s t → (∃ s' t', F s = some (.inl s') ∧ G t = some (.inl t') ∧ R s' t' ∧ m s' < m s) ∨ ∃ b c, F s = some (.inr b) ∧ G t = some (.inr c) ∧ Q b c) {s : σ} {t : τ} (h : R s t) :
    ∃ b c, iter F s = some b ∧ iter G t = some c ∧ Q b c := by
  have key : ∀ n s t, m s < n → R s t → ∃ b c, iter F s = some b ∧ iter G t = some c ∧ Q b c := by
    intro n
    induction n with
    | zero => intro s t h; omega
    | succ n ih =>
      intro s t h hR
      rcases step s t hR with ⟨s', t', e1, e2, hR', hm⟩ | ⟨b, c, e1, e2, hq⟩
      · rw [iter_next e1, iter_next e2]; exact ih s' t' (by omega) hR'
      · exact ⟨b, c, iter_last e1, iter_last e2, hq⟩
  exact key _ s t (Nat.lt_succ_self _) h

theorem splitB_last (c : UInt8) : ∀ l : Str, ∃ init last pre, splitB c l = init ++ [last] ∧ l = pre ++ last ∧ c ∉ last ∧ ((pre = [] ∧ init = []) ∨ ∃ m, pre = m ++ [c] ∧ init = splitB c m)
  | [] => ⟨[], [], [], rfl, rfl, by simp, .inl ⟨rfl, rfl⟩⟩
  | x :: l => by
    obtain ⟨init, last, pre, h1, h2, h3, h4⟩ := splitB_last c l
    by_cases hx : x = c
    · subst hx
      refine ⟨[] :: init, last, x :: pre, by simp [splitB, h1], by rw [h2]; rfl, h3, .inr ?_⟩
      rcases h4 with ⟨rfl, rfl⟩ | ⟨m, rfl, rfl⟩
      · exact ⟨[], rfl, rfl⟩
      · exact ⟨x :: m, rfl, by simp [splitB]⟩
    · rcases h4 with ⟨rfl, rfl⟩ | ⟨m, rfl, rfl⟩
      · refine ⟨[], x :: last, [], ?_, by rw [h2]; rfl, ?_, .inl ⟨rfl, rfl⟩⟩
        · simp only [List.nil_append] at h1
          simp [splitB, hx, h1]
        · simp only [List.mem_cons, not_or]; exact ⟨Ne.symm hx, h3⟩
      · have hm := splitB_ne (c := c) m
        cases hs : splitB c m with
        | nil => exact absurd hs hm
        | cons h t =>
          rw [hs] at h1
          refine ⟨(x :: h) :: t, last, x :: (m ++ [c]), ?_, by rw [h2]; rfl, h3, .inr ⟨x :: m, rfl, ?_⟩⟩
          · simp [splitB, hx, h1]
          · simp [splitB, hx, hs]

theorem trim_le (l : Str) : (trimL (trimR l)).length ≤ l.length := by
  have h1 := trimR_le l
  have h2 : (trimL (trimR l)).length ≤ (trimR l).length := (List.dropWhile_sublist blk (l := trimR l)).length_le
  omega
theorem prefix_val (x c : UInt8) (l : Str) : internal_stringslite_HasPrefix (x :: l) [c] = some (decide (x = c)) := by
  have hs : subL (x :: l) none (some ((([c] : Str).length : Nat) : Int)) = some [x] := by
    rw [subL_to (by simp)]; simp
  simp only [internal_stringslite_HasPrefix, hs, Option.bind_some, andO]
  rw [if_pos (by simp; omega)]
  simp
theorem suffix_val' (m : Str) (x c : UInt8) (hl : m.length < 4611686018427387900) : internal_stringslite_HasSuffix (m ++ [x]) [c] = some (decide (x = c)) := by
  rcases isuffix_val (m ++ [x]) c (by simp; omega) with ⟨⟨m', e⟩, h⟩ | ⟨e, h⟩
  · have := List.append_inj_right' e rfl
    simp only [List.cons.injEq, and_true] at this
    rw [h]; simp [this]
  · have : x ≠ c := fun hx => e m (by rw [hx])
    rw [h]; simp [this]

theorem l42_alive_val : l42_alive () = some true := by
  have h1 := loose_val [91, 32, 80, 101, 101, 114, 32, 93, 10, 65, 32, 61, 32, 98, 32, 35, 32, 99] (by simp)
  simp only [List.cons_append, List.nil_append] at h1
  have h2 : splitB 10 [91, 32, 80, 101, 101, 114, 32, 93, 10, 65, 32, 61, 32, 98, 32, 35, 32, 99] = [[91, 32, 80, 101, 101, 114, 32, 93], [65, 32, 61, 32, 98, 32, 35, 32, 99]] := by decide
  rw [h2] at h1
  have c1 : lines_Cut [91, 32, 80, 101, 101, 114, 32, 93] 35 = some ([91, 32, 80, 101, 101, 114, 32, 93], [], false) := by rfl
  have c2 : lines_Cut [65, 32, 61, 32, 98, 32, 35, 32, 99] 35 = some ([65, 32, 61, 32, 98, 32], [32, 99], true) := by rfl
  have tv : ∀ l : Str, l.length < 100 → lines_Trim l = some (trimL (trimR l)) := fun l h => trim_val l (by omega)
  have fv : ∀ l : Str, l.length < 100 → lines_Fold l = some (l.map fold) := fun l h => fold_val l (by omega)
  have t1 : lines_Trim [91, 32, 80, 101, 101, 114, 32, 93] = some [91, 32, 80, 101, 101, 114, 32, 93] := (tv _ (by decide)).trans (by decide)
  have t2 : lines_Trim [65, 32, 61, 32, 98, 32] = some [65, 32, 61, 32, 98] := (tv _ (by decide)).trans (by decide)
  have s1 : inilex_say [91, 32, 80, 101, 101, 114, 32, 93] = some (⟨true, [112, 101, 101, 114], [], 0⟩, true) := by
    have a1 : strings_HasPrefix [91, 32, 80, 101, 101, 114, 32, 93] [91] = some true := by rfl
    have a2 : strings_CutSuffix [91, 32, 80, 101, 101, 114, 32, 93] [93] = some ([91, 32, 80, 101, 101, 114, 32], true) := by rfl
    have a3 : strings_TrimPrefix [91, 32, 80, 101, 101, 114, 32] [91] = some [32, 80, 101, 101, 114, 32] := by rfl
    have a4 : lines_Trim [32, 80, 101, 101, 114, 32] = some [80, 101, 101, 114] := (tv _ (by decide)).trans (by decide)
    have a5 : lines_Fold [80, 101, 101, 114] = some [112, 101, 101, 114] := (fv _ (by decide)).trans (by decide)
    simp only [inilex_say, inilex_section, a1, a2, a3, a4, a5, Option.bind_some, if_true, Bool.not_true, Bool.false_eq_true, if_false]
    rfl
  have s2 : inilex_say [65, 32, 61, 32, 98] = some (⟨false, [97], [98], 0⟩, true) := by
    have a1 : strings_HasPrefix [65, 32, 61, 32, 98] [91] = some false := by rfl
    have a2 : lines_Cut [65, 32, 61, 32, 98] 61 = some ([65, 32], [32, 98], true) := by rfl
    have a3 : lines_Trim [65, 32] = some [65] := (tv _ (by decide)).trans (by decide)
    have a4 : lines_Trim [32, 98] = some [98] := (tv _ (by decide)).trans (by decide)
    have a5 : lines_Fold [65] = some [97] := (fv _ (by decide)).trans (by decide)
    simp only [inilex_say, inilex_pair, a1, a2, a3, a4, a5, Option.bind_some, Bool.false_eq_true, if_false, orO, Bool.not_true]
    rfl
  have hx : inilex_Lex [91, 32, 80, 101, 101, 114, 32, 93, 10, 65, 32, 61, 32, 98, 32, 35, 32, 99, 10] = some (.mk [⟨true, [112, 101, 101, 114], [], 1⟩, ⟨false, [97], [98], 2⟩], 0, 0) := by
    unfold inilex_Lex
    simp only [h1, Option.bind_some]
    rw [iter_of (n := 3) (b := .inl (.mk [⟨true, [112, 101, 101, 114], [], 1⟩, ⟨false, [97], [98], 2⟩]))]
    · rfl
    · have g0 : idx (GS.mk [([91, 32, 80, 101, 101, 114, 32, 93] : Str), [65, 32, 61, 32, 98, 32, 35, 32, 99]]).l 0 = some [91, 32, 80, 101, 101, 114, 32, 93] := rfl
      have g1 : idx (GS.mk [([91, 32, 80, 101, 101, 114, 32, 93] : Str), [65, 32, 61, 32, 98, 32, 35, 32, 99]]).l 1 = some [65, 32, 61, 32, 98, 32, 35, 32, 99] := rfl
      have l0 : (0 : Int) < ((GS.mk [([91, 32, 80, 101, 101, 114, 32, 93] : Str), [65, 32, 61, 32, 98, 32, 35, 32, 99]]).l.length : Int) := by decide
      have l1 : (1 : Int) < ((GS.mk [([91, 32, 80, 101, 101, 114, 32, 93] : Str), [65, 32, 61, 32, 98, 32, 35, 32, 99]]).l.length : Int) := by decide
      have l2 : ¬ (2 : Int) < ((GS.mk [([91, 32, 80, 101, 101, 114, 32, 93] : Str), [65, 32, 61, 32, 98, 32, 35, 32, 99]]).l.length : Int) := by decide
      have w0 : IntKind.i64.wrap ((0 : Int) + 1) = 1 := rfl
      have w1 : IntKind.i64.wrap ((1 : Int) + 1) = 2 := rfl
      have n0 : ¬ (400 : Int) ≤ 0 := by decide
      have n1 : ¬ (400 : Int) ≤ 1 := by decide
      have m0 : ¬ (512 : Int) < ((([91, 32, 80, 101, 101, 114, 32, 93] : Str).length : Nat) : Int) := by decide
      have m1 : ¬ (512 : Int) < ((([65, 32, 61, 32, 98, 32, 35, 32, 99] : Str).length : Nat) : Int) := by decide
      have e0 : ¬ ([91, 32, 80, 101, 101, 114, 32, 93] : Str) = [] := by decide
      have e1 : ¬ ([65, 32, 61, 32, 98] : Str) = [] := by decide
      have p0 : apG 48 (GS.nil : GS S_inilex_Item) [⟨true, [112, 101, 101, 114], [], 1⟩] = some (.mk [⟨true, [112, 101, 101, 114], [], 1⟩]) := apG_one (by unfold most; simp)
      have p1 : apG 48 (GS.mk [(⟨true, [112, 101, 101, 114], [], 1⟩ : S_inilex_Item)]) [⟨false, [97], [98], 2⟩] = some (.mk [⟨true, [112, 101, 101, 114], [], 1⟩, ⟨false, [97], [98], 2⟩]) := apG_one (by unfold most; simp)
      simp only [iterN, l0, l1, l2, g0, g1, w0, w1, n0, n1, m0, m1, e0, e1, c1, c2, t1, t2, s1, s2, p0, p1, orO, decide_true, decide_false, if_true, Bool.false_eq_true, if_false, Option.bind_some, Bool.not_true]
  simp only [l42_alive, hx, Option.bind_some]
  rfl

end Go.Proofs.YtkmdppdlglikkaaDoor.Am
