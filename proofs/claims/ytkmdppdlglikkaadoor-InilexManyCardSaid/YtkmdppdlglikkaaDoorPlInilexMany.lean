/-
  The law InilexMany, plainly.
-/
import Derived.Test.YtkmdppdlglikkaaDoorPlG
namespace Go.Proofs.YtkmdppdlglikkaaDoor.Am

theorem build_lines (n : Nat) (hn : n ≤ 1000) {γ : Type} {K : (Str ⊕ γ) → Option γ} {r : Option γ} (h : K (.inl (List.replicate n 10)) = r) : (iter (fun (s9 : (Str × Int)) =>
    if (decide (s9.2 < (n : Int))) = true then
    (if s9.1.length + [10].length ≤ 2 * most then some (s9.1 ++ [(10 : UInt8)]) else none).bind fun x12 =>
    some (.inl (x12, IntKind.i64.wrap (s9.2 + 1)))
    else
    some (.inr (.inl s9.1))) ([], 0)).bind K = r := by
  refine iter_then (fun s => n - s.2.toNat) (fun s => ∃ k : Nat, s.2 = (k : Int) ∧ k ≤ n ∧ s.1 = List.replicate k 10) (fun b => b = .inl (List.replicate n 10)) ⟨0, rfl, by omega, rfl⟩ ?_ (by rintro _ rfl; exact h)
  rintro ⟨t, i⟩ ⟨k, rfl, h1, ht⟩
  dsimp only at ht ⊢
  subst ht
  by_cases hk : k < n
  · left
    have hlt : (k : Int) < (n : Int) := by omega
    refine ⟨(List.replicate (k + 1) 10, ((k + 1 : Nat) : Int)), ?_, ⟨k + 1, rfl, by omega, rfl⟩, by dsimp only; omega⟩
    rw [show (k : Int) + 1 = ((k + 1 : Nat) : Int) by omega, wrapN (by omega), List.replicate_succ']
    simp only [hlt, decide_true, if_true]
    rw [if_pos (by unfold most; simp; omega)]
    rfl
  · right
    have hlt : ¬ (k : Int) < (n : Int) := by omega
    obtain rfl : k = n := by omega
    exact ⟨_, by simp only [hlt, decide_false, Bool.false_eq_true, if_false], rfl⟩
theorem build_remark (n : Nat) (hn : n ≤ 1000) {γ : Type} {K : (GS UInt8 ⊕ γ) → Option γ} {r : Option γ} (h : K (.inl (.mk (35 :: List.replicate (n - 1) 97))) = r) : (iter (fun (s30 : (GS UInt8)) =>
    if (decide ((s30.l.length : Int) < (n : Int))) = true then
    (apG 1 s30 [(97 : UInt8)]).bind fun x35 =>
    some (.inl x35)
    else
    some (.inr (.inl s30))) (GS.mk [(35 : UInt8)])).bind K = r := by
  refine iter_then (fun s => n - s.l.length) (fun s => ∃ k : Nat, k ≤ n - 1 ∧ s = .mk (35 :: List.replicate k 97)) (fun b => b = .inl (.mk (35 :: List.replicate (n - 1) 97))) ⟨0, by omega, rfl⟩ ?_ (by rintro _ rfl; exact h)
  rintro s ⟨k, h1, rfl⟩
  have hlen : (GS.mk (35 :: List.replicate k (97 : UInt8))).l.length = k + 1 := by simp
  by_cases hk : k + 1 < n
  · left
    have hlt : ((GS.mk (35 :: List.replicate k (97 : UInt8))).l.length : Int) < (n : Int) := by omega
    refine ⟨.mk (35 :: List.replicate (k + 1) 97), ?_, ⟨k + 1, by omega, rfl⟩, by simp; omega⟩
    have ha : apG 1 (GS.mk (35 :: List.replicate k (97 : UInt8))) [97] = some (.mk (35 :: List.replicate (k + 1) 97)) := by
      rw [apG_one (by unfold most; simp; omega), List.replicate_succ']; rfl
    simp only [hlt, decide_true, if_true, ha, Option.bind_some]
  · right
    have hlt : ¬ ((GS.mk (35 :: List.replicate k (97 : UInt8))).l.length : Int) < (n : Int) := by omega
    obtain rfl : k = n - 1 := by omega
    exact ⟨_, by simp only [hlt, decide_false, Bool.false_eq_true, if_false], rfl⟩

theorem plain_InilexMany (a b : Int) : l42_InilexMany a b = some true := by
  unfold l42_InilexMany
  by_cases h1 : a < 0
  · simp only [orO, h1, decide_true, if_true, Option.bind_some, l42_alive_val]
  by_cases h2 : 410 < a
  · simp only [orO, h1, h2, decide_true, decide_false, if_true, Bool.false_eq_true, if_false, Option.bind_some, l42_alive_val]
  by_cases h3 : b < 0
  · simp only [orO, h1, h2, h3, decide_true, decide_false, if_true, Bool.false_eq_true, if_false, Option.bind_some, l42_alive_val]
  by_cases h4 : 520 < b
  · simp only [orO, h1, h2, h3, h4, decide_true, decide_false, if_true, Bool.false_eq_true, if_false, Option.bind_some, l42_alive_val]
  simp only [orO, h1, h2, h3, h4, decide_false, Bool.false_eq_true, if_false, Option.bind_some]
  obtain ⟨n, rfl⟩ : ∃ n : Nat, a = n := ⟨a.toNat, by omega⟩
  obtain ⟨m, rfl⟩ : ∃ m : Nat, b = m := ⟨b.toNat, by omega⟩
  refine build_lines n (by omega) ?_
  simp only [Sum.elim_inl, lex_rep n (by omega), Option.bind_some]
  have hlast : ((iter (fun (s30 : (GS UInt8)) =>
      if (decide ((s30.l.length : Int) < (m : Int))) = true then
      (apG 1 s30 [(97 : UInt8)]).bind fun x35 =>
      some (.inl x35)
      else
      some (.inr (.inl s30))) (GS.mk [(35 : UInt8)])).bind (Sum.elim (fun (p31 : (GS UInt8)) =>
      (inilex_Lex p31.l).bind fun x37 =>
      if (decide (512 < (m : Int))) = true then
      (andO (decide (x37.2.1 = 1)) (some (decide (x37.2.2 = 4)))).bind fun x44 =>
      (andO x44 ((l42_alive ()).bind fun x45 =>
      some x45)).bind fun x46 =>
      some x46
      else
      (andO (decide (x37.2.1 = 0)) (some (decide (x37.2.2 = 0)))).bind fun x49 =>
      (andO x49 ((l42_alive ()).bind fun x50 =>
      some x50)).bind fun x51 =>
      some x51) some)) = some true := by
    refine build_remark m (by omega) ?_
    simp only [Sum.elim_inl, GS.l_mk, lex_remark (List.replicate (m - 1) 97) (fun x hx => List.eq_of_mem_replicate hx) (by simp; omega), Option.bind_some, l42_alive_val, List.length_replicate]
    by_cases hm : (512 : Int) < (m : Int)
    · have : 512 < m - 1 + 1 := by omega
      simp [hm, this, andO]
    · have : ¬ 512 < m - 1 + 1 := by omega
      simp [hm, this, andO]
  by_cases hn : (400 : Int) < (n : Int)
  · have g1 : 400 < n := by omega
    have g2 : ¬ (n : Int) ≤ 400 := by omega
    simp only [hn, g1, g2, andO, decide_true, decide_false, if_true, Bool.not_true, Bool.false_eq_true, if_false, Option.bind_some]
    exact hlast
  · have g1 : ¬ 400 < n := by omega
    have g2 : (n : Int) ≤ 400 := by omega
    simp only [hn, g1, g2, andO, decide_true, decide_false, if_true, Bool.not_true, Bool.false_eq_true, if_false, Option.bind_some]
    exact hlast
end Go.Proofs.YtkmdppdlglikkaaDoor.Am
