/-
  Ways that meet again, each walked once: what comes behind them is told apart from them.
-/
import Derived.Test.YtobejhpigbllpaaGreatDoorSmX
namespace Go.Proofs.YtobejhpigbllpaaGreatDoor.Am

section
variable {tb : Tab} {Γ : Cx} {ks : List Kf} {ρ : Type} {Q : Post ρ}
/-- what a piece of code comes to: where the ways meet, or the function's result -/
def QJ (tb : Tab) {τ : Type} (Γj : τ → Cx) (ks : List Kf) (Q : Post ρ) : Post (τ ⊕ ρ) := fun E r e f H =>
  match r with
  | .inl p => e = .normal ∧ Rel E (Γj p) f H
  | .inr r => e ≠ .normal ∧ ∃ e' f' H', runk tb ks (e, f, H) = some (e', f', H') ∧ Q E r e' f' H'
def Sim.joinS {c : AC} {τ : Type} (Γj : τ → Cx) (k : (p : τ) → Sim tb (Γj p) (rg false []) ks Q) (main : Sim tb Γ c [] (QJ tb Γj ks Q)) : Sim tb Γ c ks Q :=
  ⟨main.m.bind (Sum.elim (fun p => (k p).m) some), fun E f H R r hr => by
    obtain ⟨b, hb, hr⟩ := Option.bind_eq_some_iff.1 hr
    obtain ⟨e, f1, H1, h1, h2⟩ := main.ok E f H R b hb
    have h1' : exec tb (den tb) c f H = some (e, f1, H1) := by
      obtain ⟨p, hp, h⟩ := Option.bind_eq_some_iff.1 h1
      rw [hp, ← h]; rfl
    rw [h1']
    cases b with
    | inr r' =>
      simp only [Sum.elim_inr, Option.some.injEq] at hr
      subst hr
      exact h2.2
    | inl p =>
      obtain ⟨rfl, R'⟩ := h2
      simp only [Sum.elim_inl] at hr
      obtain ⟨e2, f2, H2, h4, h5⟩ := (k p).ok E f1 H1 R' r hr
      exact ⟨e2, f2, H2, by simpa [exec_rg_nil] using h4, h5⟩⟩
def Sim.jn {q : Bool} {τ : Type} {Γj : τ → Cx} (p : τ) (h : Sub (Γj p) Γ) : Sim tb Γ (rg q []) [] (QJ tb Γj ks Q) :=
  ⟨some (.inl p), fun E f H ⟨rv, fp, I⟩ r hr => by
    cases hr
    exact ⟨.normal, f, H, by simp [exec_rg_nil, runk], rfl, rv, fp, I.sub h⟩⟩
def Sim.jRet {τ : Type} {Γj : τ → Cx} {ks' : List Kf} (s : Sim tb Γ .ret ks Q) : Sim tb Γ .ret ks' (QJ tb Γj ks Q) :=
  Sim.retK ⟨s.m.map fun r => .inr r, fun E f H R r hr => by
    obtain ⟨r', h1, rfl⟩ := Option.map_eq_some_iff.1 hr
    obtain ⟨e, f', H', h2, h3⟩ := s.ok E f H R r' h1
    refine ⟨.ret, f, H, by simp [exec, runk], by simp, e, f', H', ?_, h3⟩
    simpa [exec] using h2⟩
def Sim.jExit {τ : Type} {Γj : τ → Cx} {id : Nat} (s : Sim tb Γ (.exit id) ks Q) : Sim tb Γ (.exit id) [] (QJ tb Γj ks Q) :=
  ⟨s.m.map fun r => .inr r, fun E f H R r hr => by
    obtain ⟨r', h1, rfl⟩ := Option.map_eq_some_iff.1 hr
    obtain ⟨e, f', H', h2, h3⟩ := s.ok E f H R r' h1
    refine ⟨.exit id, f, H, by simp [exec, runk], by simp, e, f', H', ?_, h3⟩
    simpa [exec] using h2⟩
end
end Go.Proofs.YtobejhpigbllpaaGreatDoor.Am
