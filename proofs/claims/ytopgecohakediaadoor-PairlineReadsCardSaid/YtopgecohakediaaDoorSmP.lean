/-
  Regions whose order is drawn, where each operation that reads memory has one place.
-/
import Derived.Test.YtopgecohakediaaDoorSmN
namespace Go.Proofs.YtopgecohakediaaDoor.Am

/-- operations that do not look at the memory -/
def blindOp : AOp → Bool
  | .mv _ => true
  | .fa _ _ => true
  | .nilc _ => true
  | _ => false
def trivW (n : Nat) : Nat → List (Option (Nat × Nat)) → List AOper → Bool
  | _, [], [] => true
  | k, none :: w, _ :: l => trivW n (k + 1) w l
  | k, some (lo, hi) :: w, o :: l => ((Nat.beq lo k && Nat.beq hi k) || (blindOp o.o && Nat.ble hi n)) && trivW n k w l
  | _, _, _ => false
open Classical in
/-- one order of them -/
noncomputable def opsT (tb : Tab) (cl : Nat → List AV → Heap → Out) : List AOper → List (Option (Nat × Nat)) → Fr → Heap → Option (Fr × Heap)
  | [], [], f, h => some (f, h)
  | ⟨d, none, o⟩ :: l, none :: w, f, h => (aop tb cl (eval tb f) h o).bind fun p => opsT tb cl l w (put f d p.1) (p.2.getD h)
  | ⟨d, none, o⟩ :: l, some _ :: w, f, h => (aop tb cl (eval tb f) h o).bind fun p => if p.2.getD h = h then opsT tb cl l w (put f d p.1) h else none
  | _, _, _, _ => none

section
variable {tb : Tab} {cl : Nat → List AV → Heap → Out}
theorem blind_same {o : AOp} (ho : blindOp o = true) {rho : AO → AV} {h h' : Heap} {p : AV × Option Heap} (e : aop tb cl rho h o = some p) : aop tb cl rho h' o = some (p.1, none) := by
  cases o <;> simp only [blindOp, Bool.false_eq_true] at ho
  · simp only [aop, Option.some.injEq] at e ⊢; subst e; rfl
  · rename_i x
    simp only [aop] at e ⊢
    split at e <;> first
      | (cases e; rfl)
      | cases e
  · rename_i off x
    simp only [aop, val] at e ⊢
    obtain ⟨v, hv, rfl⟩ := Option.map_eq_some_iff.1 e
    rw [hv]; rfl
open Classical in
theorem opsT_spec : ∀ {l : List AOper} {w : List (Option (Nat × Nat))} {f : Fr} {h : Heap} {f' : Fr} {h' : Heap}, opsT tb cl l w f h = some (f', h') →
    ∃ tl, heaps tb cl l w f h = some (h :: tl) ∧ (h :: tl).getLast? = some h' ∧ ∀ (pre : List Heap) (n : Nat), n + 1 = (pre ++ h :: tl).length → trivW n pre.length w l = true → opsD tb cl (pre ++ h :: tl) l w pre.length f = some f'
  | [], w, f, h, f', h', e => by
    cases w with
    | nil =>
      simp only [opsT, Option.some.injEq, Prod.mk.injEq] at e
      obtain ⟨rfl, rfl⟩ := e
      exact ⟨[], by simp [heaps], rfl, fun pre n _ _ => by simp [opsD]⟩
    | cons => simp [opsT] at e
  | ⟨d, some g, o⟩ :: l, w, f, h, f', h', e => by
    cases w with
    | nil => simp [opsT] at e
    | cons x w => cases x <;> simp [opsT] at e
  | ⟨d, none, o⟩ :: l, [], f, h, f', h', e => by simp [opsT] at e
  | ⟨d, none, o⟩ :: l, none :: w, f, h, f', h', e => by
    simp only [opsT] at e
    obtain ⟨p, hp, e⟩ := Option.bind_eq_some_iff.1 e
    obtain ⟨tl, h1, h2, h3⟩ := opsT_spec e
    refine ⟨p.2.getD h :: tl, ?_, ?_, fun pre n hn ht => ?_⟩
    · simp [heaps, wanted, hp, h1]
    · simpa using h2
    · have h4 := h3 (pre ++ [h]) n (by simpa using hn) (by simpa [trivW] using ht)
      simp only [List.append_assoc, List.singleton_append, List.length_append, List.length_cons, List.length_nil, Nat.zero_add] at h4
      have g0 : (pre ++ h :: p.2.getD h :: tl)[pre.length]? = some h := by rw [List.getElem?_append_right (Nat.le_refl _), Nat.sub_self]; rfl
      have g1 : (pre ++ h :: p.2.getD h :: tl)[pre.length + 1]? = some (p.2.getD h) := by rw [List.getElem?_append_right (by omega), Nat.add_sub_cancel_left]; rfl
      simp only [opsD, wanted, Option.bind_some, if_true, g0, hp, g1]
      exact h4
  | ⟨d, none, o⟩ :: l, some (lo, hi) :: w, f, h, f', h', e => by
    simp only [opsT] at e
    obtain ⟨p, hp, e⟩ := Option.bind_eq_some_iff.1 e
    split at e
    · rename_i hu
      obtain ⟨tl, h1, h2, h3⟩ := opsT_spec e
      refine ⟨tl, ?_, h2, fun pre n hn ht => ?_⟩
      · simp [heaps, wanted, hp, hu, h1]
      · simp only [trivW, Bool.and_eq_true, Bool.or_eq_true] at ht
        obtain ⟨hw, ht⟩ := ht
        have h4 := h3 pre n hn ht
        have g0 : (pre ++ h :: tl)[pre.length]? = some h := by rw [List.getElem?_append_right (Nat.le_refl _), Nat.sub_self]; rfl
        have hk : ∀ j, lo ≤ j → j < lo + (hi + 1 - lo) → ∃ u, ((pre ++ h :: tl)[j]?).bind (fun h => aop tb cl (eval tb f) h o) = some (p.1, u) ∧ some (u.getD ((pre ++ h :: tl)[j]?.getD [])) = (pre ++ h :: tl)[j]? := by
          intro j hj1 hj2
          rcases hw with ⟨hlo, hhi⟩ | hb
          · have hlo := Nat.eq_of_beq_eq_true hlo
            have hhi := Nat.eq_of_beq_eq_true hhi
            obtain rfl : j = pre.length := by omega
            exact ⟨p.2, by rw [g0, Option.bind_some, hp], by rw [g0]; simp [hu]⟩
          · obtain ⟨hb, hle⟩ := hb
            have hle := Nat.le_of_ble_eq_true hle
            have hj : j < (pre ++ h :: tl).length := by omega
            rw [List.getElem?_eq_getElem hj]
            exact ⟨none, by rw [Option.bind_some]; exact blind_same hb hp, rfl⟩
        simp only [opsD, wanted, Option.bind_some, if_true, g0, hp]
        rw [if_pos (by
          rw [List.all_eq_true]
          intro j hj
          rw [List.mem_range'_1] at hj
          exact decide_eq_true (hk j hj.1 hj.2))]
        exact h4
    · cases e
theorem exec_regd {l : List AOper} {w : List (Option (Nat × Nat))} {f : Fr} {h : Heap} {n : Nat} {p : Fr × Heap} (hn : n = w.countP (fun x => x.isNone)) (hw : trivW n 0 w l = true) (e : opsT tb cl l w f h = some p) :
    exec tb cl (.regd l w) f h = some (.normal, p.1, p.2) := by
  obtain ⟨tl, h1, h2, h3⟩ := opsT_spec (f' := p.1) (h' := p.2) e
  have hl : n + 1 = ([] ++ h :: tl).length := by
    have key : ∀ {l : List AOper} {w : List (Option (Nat × Nat))} {f : Fr} {h : Heap} {hs : List Heap} {k m : Nat}, trivW m k w l = true → heaps tb cl l w f h = some hs → hs.length = w.countP (fun x => x.isNone) + 1 := by
      intro l
      induction l with
      | nil => intro w f h hs k m ht e; cases w with | nil => simp only [heaps, Option.some.injEq] at e; subst e; rfl | cons x w => cases x <;> simp [trivW] at ht
      | cons o l ih =>
        intro w f h hs k m ht e
        cases w with
        | nil => simp [trivW] at ht
        | cons x w =>
          simp only [heaps] at e
          obtain ⟨t, _, e⟩ := Option.bind_eq_some_iff.1 e
          cases x with
          | none =>
            simp only [trivW] at ht
            split at e
            · obtain ⟨p, _, e⟩ := Option.bind_eq_some_iff.1 e
              obtain ⟨hs', e', rfl⟩ := Option.map_eq_some_iff.1 e
              have := ih ht e'
              simp [this]
            · obtain ⟨hs', e', rfl⟩ := Option.map_eq_some_iff.1 e
              have := ih ht e'
              simp [this]
          | some y =>
            obtain ⟨lo, hi⟩ := y
            simp only [trivW, Bool.and_eq_true] at ht
            split at e
            · obtain ⟨p, _, e⟩ := Option.bind_eq_some_iff.1 e
              obtain ⟨hs', e', rfl⟩ := Option.map_eq_some_iff.1 e
              have := ih ht.2 e'
              simpa using this
            · obtain ⟨hs', e', rfl⟩ := Option.map_eq_some_iff.1 e
              have := ih ht.2 e'
              simpa using this
    have := key hw h1
    rw [hn, List.nil_append, this]
  have h4 := h3 [] n hl hw
  simp only [List.nil_append, List.length_nil] at h4
  simp only [exec, h1, Option.bind_some, List.tail_cons, h4, h2, Option.map_some]
end

structure SimD (tb : Tab) (Γ : Cx) (l : List AOper) (w : List (Option (Nat × Nat))) (ks : List Kf) {ρ : Type} (Q : Post ρ) where
  m : Option ρ
  ok : ∀ E f H, Rel E Γ f H → ∀ r, m = some r → ∃ p e f' H', opsT tb (den tb) l w f H = some p ∧ runk tb ks (.normal, p.1, p.2) = some (e, f', H') ∧ Q E r e f' H'

section
variable {tb : Tab} {Γ : Cx} {ks : List Kf} {ρ : Type} {Q : Post ρ} {w : List (Option (Nat × Nat))}
def Sim.regd {l : List AOper} (n : Nat) (hn : n = w.countP (fun x => x.isNone)) (hw : trivW n 0 w l = true) (s : SimD tb Γ l w ks Q) : Sim tb Γ (.regd l w) ks Q :=
  ⟨s.m, fun E f H R r hr => by
    obtain ⟨p, e, f', H', h1, h2, h3⟩ := s.ok E f H R r hr
    exact ⟨e, f', H', by rw [exec_regd hn hw h1]; exact h2, h3⟩⟩
def SimD.done (s : Sim tb Γ (rg false []) ks Q) : SimD tb Γ [] [] ks Q :=
  ⟨s.m, fun E f H R r hr => by
    obtain ⟨e, f', H', h1, h2⟩ := s.ok E f H R r hr
    rw [exec_rg_nil] at h1
    exact ⟨(f, H), e, f', H', rfl, h1, h2⟩⟩
def SimD.stop {l : List AOper} : SimD tb Γ l w ks Q := ⟨Option.none, fun _ _ _ _ _ h => (by cases h)⟩
def SimD.turn {l : List AOper} {Γ' : Cx} (h : ∀ E f H, Rel E Γ f H → Rel E Γ' f H) (s : SimD tb Γ' l w ks Q) : SimD tb Γ l w ks Q :=
  ⟨s.m, fun E f H R r hr => s.ok E f H (h E f H R) r hr⟩
def SimD.frzRow {l : List AOper} (j : Nat) {t : T} {g : GS t.α} (h : findS Γ.ss j = some (.row t g)) (hn : Nat.blt j parj = true) (s : SimD tb (Γ.turn j (rowF t g)) l w ks Q) : SimD tb Γ l w ks Q :=
  s.turn fun _ _ _ ⟨rv, fp, I⟩ => ⟨rv, fp, I.frzRow h hn⟩
variable {o : AOp} {l : List AOper} {y : Nat × Nat}
def SimD.op {d : Nat} {β : Type} {a : Option β} {φ : β → Fact} (h : OpH tb Γ o a φ) (k : (b : β) → SimD tb (Γ.push d (φ b)) l w ks Q) : SimD tb Γ (⟨some d, none, o⟩ :: l) (some y :: w) ks Q :=
  ⟨a.bind fun b => (k b).m, fun E f H ⟨rv, fp, I⟩ r hr => by
    obtain ⟨b, hb, hr⟩ := Option.bind_eq_some_iff.1 hr
    obtain ⟨v, u, h1, h2, h3⟩ := h E rv fp f H I b hb
    obtain ⟨p, e, f', H', h4, h5⟩ := (k b).ok E (put f (some d) v) H ⟨rv, fp, I.push h3⟩ r hr
    exact ⟨p, e, f', H', by simp only [opsT, h1, Option.bind_some, if_pos h2]; exact h4, h5⟩⟩
def SimD.op1 {d : Nat} {φ : Fact} (h : OpH tb Γ o (some ()) fun _ => φ) (k : SimD tb (Γ.push d φ) l w ks Q) : SimD tb Γ (⟨some d, none, o⟩ :: l) (some y :: w) ks Q :=
  ⟨k.m, (SimD.op h fun _ => k).ok⟩
def SimD.opn {d : Nat} {t : T} {x : t.α} (h : OpH tb Γ o (some ()) fun _ => .val t x) (k : (y : t.α) → SimD tb (Γ.push d (.val t y)) l w ks Q) : SimD tb Γ (⟨some d, none, o⟩ :: l) (some y :: w) ks Q :=
  SimD.op1 h (k x)
def SimD.opr {d : Nat} {t : T} {x : t.α} (h : OpH tb Γ o (some ()) fun _ => .rp t x) (k : (y : t.α) → SimD tb (Γ.push d (.rp t y)) l w ks Q) : SimD tb Γ (⟨some d, none, o⟩ :: l) (some y :: w) ks Q :=
  SimD.op1 h (k x)
def SimD.opM {d : Option Nat} {β : Type} {a : Option β} {Γ' : β → Cx} (h : OpM tb Γ d o a Γ') (k : (b : β) → SimD tb (Γ' b) l w ks Q) : SimD tb Γ (⟨d, none, o⟩ :: l) (none :: w) ks Q :=
  ⟨a.bind fun b => (k b).m, fun E f H ⟨rv, fp, I⟩ r hr => by
    obtain ⟨b, hb, hr⟩ := Option.bind_eq_some_iff.1 hr
    obtain ⟨v, u, h1, rv', fp', h3⟩ := h E rv fp f H I b hb
    obtain ⟨p, e, f', H', h4, h5⟩ := (k b).ok E _ _ ⟨rv', fp', h3⟩ r hr
    exact ⟨p, e, f', H', by simp only [opsT, h1, Option.bind_some]; exact h4, h5⟩⟩
/-! .. operations that might have written -/
def SimDW.op {d : Nat} {β : Type} {a : Option β} {φ : β → Fact} (h : OpH tb Γ o a φ) (k : (b : β) → SimD tb (Γ.push d (φ b)) l w ks Q) : SimD tb Γ (⟨some d, none, o⟩ :: l) (none :: w) ks Q :=
  ⟨a.bind fun b => (k b).m, fun E f H ⟨rv, fp, I⟩ r hr => by
    obtain ⟨b, hb, hr⟩ := Option.bind_eq_some_iff.1 hr
    obtain ⟨v, u, h1, h2, h3⟩ := h E rv fp f H I b hb
    obtain ⟨p, e, f', H', h4, h5⟩ := (k b).ok E (put f (some d) v) H ⟨rv, fp, I.push h3⟩ r hr
    exact ⟨p, e, f', H', by simp only [opsT, h1, Option.bind_some, h2]; exact h4, h5⟩⟩
def SimDW.op1 {d : Nat} {φ : Fact} (h : OpH tb Γ o (some ()) fun _ => φ) (k : SimD tb (Γ.push d φ) l w ks Q) : SimD tb Γ (⟨some d, none, o⟩ :: l) (none :: w) ks Q :=
  ⟨k.m, (SimDW.op h fun _ => k).ok⟩
def SimDW.opn {d : Nat} {t : T} {x : t.α} (h : OpH tb Γ o (some ()) fun _ => .val t x) (k : (y : t.α) → SimD tb (Γ.push d (.val t y)) l w ks Q) : SimD tb Γ (⟨some d, none, o⟩ :: l) (none :: w) ks Q :=
  SimDW.op1 h (k x)
end
end Go.Proofs.YtopgecohakediaaDoor.Am
