/-
  Plain laws: many empty lines; one long remark.
-/
import Derived.Test.YtkmdppdlglikkaaDoorPlF
namespace Go.Proofs.YtkmdppdlglikkaaDoor.Am

theorem splitB_rep (n : Nat) : splitB 10 (List.replicate n 10) = List.replicate (n + 1) [] := by
  induction n with
  | zero => rfl
  | succ n ih => rw [List.replicate_succ, splitB, if_pos rfl, ih]; rfl
theorem loose_rep (n : Nat) (hn : n ≤ 1000) : ∃ g, lines_Loose (List.replicate n 10) = some g ∧ g.l = List.replicate n [] := by
  cases n with
  | zero => exact ⟨.nil, by simp [lines_Loose], rfl⟩
  | succ n => exact ⟨_, by rw [List.replicate_succ']; exact loose_val _ (by simp; omega), by rw [splitB_rep]; rfl⟩
theorem lex_rep (n : Nat) (hn : n ≤ 1000) : inilex_Lex (List.replicate n 10) = some (.nil, if 400 < n then (401, 4) else (0, 0)) := by
  obtain ⟨g, e, hg⟩ := loose_rep n hn
  unfold inilex_Lex
  simp only [e, Option.bind_some]
  have hlen : g.l.length = n := by rw [hg]; simp
  refine iter_then (fun s => n - s.1.toNat) (fun s => ∃ i : Nat, s.1 = (i : Int) ∧ i ≤ n ∧ i ≤ 400 ∧ s.2 = .nil) (fun r => (400 < n ∧ r = .inr (.nil, 401, 4)) ∨ (¬ 400 < n ∧ r = .inl .nil)) ⟨0, rfl, by omega, by omega, rfl⟩ ?_ ?_
  · rintro ⟨i, o⟩ ⟨k, rfl, h1, h2, ho⟩
    dsimp only at ho ⊢
    subst ho
    by_cases hk : k < n
    · have hlt : (k : Int) < (g.l.length : Int) := by omega
      have hi : idx g.l (k : Int) = some [] := by rw [idx_nat, hg, List.getElem?_replicate, if_pos hk]
      rw [show (k : Int) + 1 = ((k + 1 : Nat) : Int) by omega, wrapN (by omega)]
      have hc : lines_Cut [] 35 = some ([], [], false) := rfl
      have ht : lines_Trim [] = some [] := by rw [trim_val [] (by simp)]; rfl
      have hl0 : ¬ (512 : Int) < ((([] : Str).length : Nat) : Int) := by simp
      by_cases h400 : (400 : Int) ≤ (k : Int)
      · right
        obtain rfl : k = 400 := by omega
        refine ⟨.inr (.nil, 401, 4), ?_, .inl ⟨by omega, rfl⟩⟩
        simp only [hlt, decide_true, if_true, orO, h400, Option.bind_some]
        rfl
      · left
        refine ⟨(((k + 1 : Nat) : Int), .nil), ?_, ⟨k + 1, rfl, by omega, by omega, rfl⟩, by dsimp only; omega⟩
        simp only [hlt, decide_true, decide_false, if_true, Bool.false_eq_true, if_false, orO, h400, hi, hl0, hc, ht, Option.bind_some]
    · right
      have hlt : ¬ (k : Int) < (g.l.length : Int) := by omega
      refine ⟨.inl .nil, by simp only [hlt, decide_false, Bool.false_eq_true, if_false], .inr ⟨by omega, rfl⟩⟩
  · rintro _ (⟨h, rfl⟩ | ⟨h, rfl⟩)
    · rw [if_pos h]; rfl
    · rw [if_neg h]; rfl
theorem lex_remark (m : Str) (hm : ∀ x ∈ m, x = 97) (hl : m.length ≤ 1000) : inilex_Lex (35 :: m) = some (.nil, if 512 < m.length + 1 then (1, 4) else (0, 0)) := by
  have h10 : ∀ x ∈ (35 :: m : Str), x ≠ 10 := by
    intro x hx
    rcases List.mem_cons.1 hx with rfl | hx
    · decide
    · rw [hm x hx]; decide
  have e : lines_Loose (35 :: m) = some (.mk [35 :: m]) := by
    rw [loose_none (35 :: m) (by simp; omega) (by simp) (fun q e => h10 10 (by rw [e]; simp) rfl), splitB_none h10]
  unfold inilex_Lex
  simp only [e, Option.bind_some]
  have hc : lines_Cut (35 :: m) 35 = some ([], m, true) := by
    rcases cut_val (35 :: m) 35 (by simp; omega) with ⟨hn, _⟩ | ⟨p, q, he, hn, e⟩
    · exact absurd rfl (hn 35 (by simp))
    · cases p with
      | nil => simp only [List.nil_append, List.cons.injEq, true_and] at he; rw [e, he]
      | cons x p => simp only [List.cons_append, List.cons.injEq] at he; exact absurd he.1.symm (hn x (by simp))
  have ht : lines_Trim [] = some [] := by rw [trim_val [] (by simp)]; rfl
  have g0 : idx (GS.mk [(35 :: m : Str)]).l 0 = some (35 :: m) := rfl
  have l0 : (0 : Int) < ((GS.mk [(35 :: m : Str)]).l.length : Int) := by simp
  have l1 : ¬ (1 : Int) < ((GS.mk [(35 :: m : Str)]).l.length : Int) := by simp
  have w0 : IntKind.i64.wrap ((0 : Int) + 1) = 1 := rfl
  have n0 : ¬ (400 : Int) ≤ 0 := by decide
  have hlen : (((35 :: m : Str).length : Nat) : Int) = (m.length : Int) + 1 := by simp
  by_cases h : 512 < m.length + 1
  · have h' : (512 : Int) < (m.length : Int) + 1 := by omega
    rw [if_pos h, iter_of (n := 1) (b := .inr (.nil, 1, 4))]
    · rfl
    · simp only [iterN, l0, g0, w0, n0, hlen, h', orO, decide_true, decide_false, if_true, Bool.false_eq_true, if_false, Option.bind_some]
      rfl
  · have h' : ¬ (512 : Int) < (m.length : Int) + 1 := by omega
    rw [if_neg h, iter_of (n := 2) (b := .inl .nil)]
    · rfl
    · simp only [iterN, l0, l1, g0, w0, n0, hlen, h', hc, ht, orO, decide_true, decide_false, if_true, Bool.false_eq_true, if_false, Option.bind_some]
end Go.Proofs.YtkmdppdlglikkaaDoor.Am
