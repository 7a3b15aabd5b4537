/-
  The machine's code and the model's; what it runs is what the model runs.
-/
import Derived.Test.YtobejhpigbllpaaGreatDoorAmJ
import Derived.LoopN
import Derived.Scope
import Derived.Control
namespace Go.Proofs.YtobejhpigbllpaaGreatDoor.Am

/-- a region without changes -/
def quiets (l : List AOper) : List (Option (Nat × Nat)) := l.map fun _ => some (0, 0)

def okC (T : AOp → Oper → Bool) (nt : Nat) : AC → Code → Bool
  | .skip, .skip => true
  | .reg l, .region _ rs false => okOpers T nt rs l rs.toList
  | .regq l, .region _ rs true => okD T nt rs l (quiets l)
  | .regd l ws, .region _ rs true => okD T nt rs l ws
  | .seq x y, .seq c d => okC T nt x c && okC T nt y d
  | .cond x a b, .cond y c d => okAO x y && okC T nt a c && okC T nt b d
  | .blk id x, .block id' c => id == id' && okC T nt x c
  | .loop _ x, .loop c => okC T nt x c
  | .exit id, .exit id' => id == id'
  | .ret, .ret => true
  | .keep _ x, c => okC T nt x c
  | .scope x, .scope c => okC T nt x c
  | .skip, .label _ => true
  | .stop, _ => true
  | _, _ => false

def exOf : Ex → Exit
  | .normal => .normal
  | .exit id => .exit id
  | .ret => .ret

section
variable {T : AOp → Oper → Bool} {P : Program} {tb : Tab} {cl : Nat → List AV → Heap → Out} {nt : Nat}

theorem getD_self {α : Type} (o : Option α) (d : α) (h : o.getD d = d) : some (o.getD ((some d).getD d)) = some d := by simp [h]

/-- what leaves the memory alone, as a drawn region -/
theorem opsD_of_opsQ {h : Heap} : ∀ (l : List AOper) {f f' : Fr}, opsQ tb cl h l f = some f' → opsD tb cl [h] l (quiets l) 0 f = some f' := by
  intro l
  induction l with
  | nil => intro f f' e; simpa [opsQ, opsD, quiets] using e
  | cons o l ih =>
    intro f f' e
    simp only [opsQ] at e
    obtain ⟨w, hw, e⟩ := Option.bind_eq_some_iff.1 e
    simp only [quiets, List.map_cons, opsD, hw, Option.bind_some]
    cases w with
    | true =>
      simp only [if_true] at e ⊢
      obtain ⟨p, hp, e⟩ := Option.bind_eq_some_iff.1 e
      split at e
      · rename_i hsame
        simp only [List.getElem?_cons_zero, Option.bind_some, hp]
        rw [if_pos]
        · exact ih e
        · rw [List.all_eq_true]
          intro j hj
          rw [List.mem_range'_1] at hj
          have : j = 0 := by omega
          subst this
          simp only [decide_eq_true_eq, List.getElem?_cons_zero, Option.bind_some, Option.getD_some]
          exact ⟨p.2, by rw [hp], by rw [hsame]⟩
      · cases e
    | false =>
      simp only [Bool.false_eq_true, if_false] at e ⊢
      exact ih e

theorem rank_zero_st {rs : Array Oper} {l : List AOper} {ws : List (Option (Nat × Nat))} {hs : List Heap} {fr : Nat → Fr} {vl : Nat → AV} {H : Heap} (hh : hs[0]? = some H) :
    St rs l ws hs fr vl (Array.replicate rs.size false) H (fr 0) := by
  have hoff : ∀ i, ¬ On (Array.replicate rs.size false) i := by
    intro i h
    unfold On at h
    rw [Array.getD_eq_getD_getElem?, Array.getElem?_replicate] at h
    split at h <;> simp at h
  exact ⟨by simp, fun i h => absurd h (hoff i), ⟨0, hh, fun j _ _ => ⟨fun h => absurd h (hoff j), fun h => absurd h (Nat.not_lt_zero _)⟩⟩, fun i _ _ h => absurd h (hoff i), fun _ _ => rfl⟩

theorem regd_sound (hm : P.follows .mixedOrders = true) (hT : ∀ ao o, T ao o = true → OpOk P tb ao o) (hcl : CallsOk P tb fun g args h => calling tb cl h g args) {Q : Exit → Act → World → Prop} {l : List AOper}
    {ws : List (Option (Nat × Nat))} {rs : Array Oper} {id : Nat} (h : okD T nt rs l ws = true) {C : Ctx} {f : Fr} {a : Act} (I : Inv tb C) (F : FrRel C f a nt) {f' : Fr} {hs : List Heap} (hh : hs[0]? = some C.H)
    (e : opsD tb cl hs l ws 0 f = some f') (k : ∀ (D : Ctx) (a' : Act), Ext C D → Inv tb D → hs.getLast? = some D.H → FrRel D f' a' nt → Q .normal a' D.w) : (Code.region id rs true).wp P Q a C.w := by
  obtain ⟨fr, vl, h0, h1, h2, h3⟩ := opsD_spec l ws 0 f f' e
  obtain ⟨X, ID⟩ := drawn I (w := { C.w with drawn := C.w.drawn + 1 }) ⟨rfl, rfl, rfl⟩ rfl
  subst h0
  subst h1
  refine wp_region_any hm ?_
  refine any_sound (vl := vl) (C₀ := C) hT hcl h (by omega) (fun i ao hi => ?_) k rs.size _ ⟨C.φ, C.H, { C.w with drawn := C.w.drawn + 1 }⟩ (fr 0) a ?_ (rank_zero_st hh) X ID (F.ext X)
  · have := h3 i ao hi
    simpa only [Nat.zero_add] using this
  · exact Nat.le_trans List.count_le_length (by simp)

theorem keepL_get (live : List Nat) (f : Fr) (t : Nat) : get (keepL live f) t = get f t ∨ get (keepL live f) t = .junk := by
  induction live with
  | nil => exact .inr rfl
  | cons u live ih =>
    simp only [keepL, List.map_cons, get]
    by_cases h : u = t
    · subst h; left; rw [if_pos rfl]
    · rw [if_neg h]; exact ih
theorem FrRel.keep {C : Ctx} {f : Fr} {a : Act} (F : FrRel C f a nt) (live : List Nat) : FrRel C (keepL live f) a nt := by
  refine ⟨fun t => ?_, F.size, F.defers⟩
  rcases keepL_get live f t with h | h
  · rw [h]; exact F.rep t
  · rw [h]; trivial

theorem memH : ∀ (l : Heap) (o : AObj), o ∈ l → mentO o ≤ mentH l := by
  intro l
  induction l with
  | nil => intro o h; cases h
  | cons x l ih =>
    intro o h
    simp only [mentH]
    rcases List.mem_cons.1 h with e | h
    · subst e; omega
    · have := ih o h; omega

/-- a state that follows -/
structure Next (tb : Tab) (C : Ctx) (nt : Nat) (f : Fr) (h : Heap) (D : Ctx) (a : Act) : Prop where
  ext : Ext C D
  inv : Inv tb D
  heap : D.H = h
  fr : FrRel D f a nt

theorem exec_sound (hm : P.follows .mixedOrders = true) (hT : ∀ ao o, T ao o = true → OpOk P tb ao o) (hcl : CallsOk P tb fun g args h => calling tb cl h g args) (hg : ∀ g cs, tb.gl g = some cs → mentL cs = 0) :
    ∀ (ac : AC) (c : Code), okC T nt ac c = true → ∀ {C : Ctx} {f : Fr} {a : Act} {e : Ex} {f' : Fr} {h' : Heap}, exec tb cl ac f C.H = some (e, f', h') → Inv tb C → FrRel C f a nt →
      ∀ {Q : Exit → Act → World → Prop}, (∀ D a', Next tb C nt f' h' D a' → Q (exOf e) a' D.w) → c.wp P Q a C.w := by
  intro ac
  induction ac with
  | skip =>
    intro c hok C f a e f' h' he I F Q k
    simp only [exec, Option.some.injEq, Prod.mk.injEq] at he
    obtain ⟨rfl, rfl, rfl⟩ := he
    cases c <;> simp only [okC, Bool.false_eq_true] at hok
    · exact wp_skip (k C a ⟨Ext.refl C, I, rfl, F⟩)
    · exact wp_label (k C a ⟨Ext.refl C, I, rfl, F⟩)
  | ret =>
    intro c hok C f a e f' h' he I F Q k
    cases c <;> simp only [okC, Bool.false_eq_true] at hok
    simp only [exec, Option.some.injEq, Prod.mk.injEq] at he
    obtain ⟨rfl, rfl, rfl⟩ := he
    exact wp_ret (k C a ⟨Ext.refl C, I, rfl, F⟩)
  | exit id =>
    intro c hok C f a e f' h' he I F Q k
    cases c <;> simp only [okC, Bool.false_eq_true, beq_iff_eq] at hok
    subst hok
    simp only [exec, Option.some.injEq, Prod.mk.injEq] at he
    obtain ⟨rfl, rfl, rfl⟩ := he
    exact wp_exit (k C a ⟨Ext.refl C, I, rfl, F⟩)
  | reg l =>
    intro c hok C f a e f' h' he I F Q k
    cases c with
    | region id rs b =>
      cases b <;> simp only [okC, Bool.false_eq_true] at hok
      simp only [exec] at he
      obtain ⟨p, hp, he⟩ := Option.map_eq_some_iff.1 he
      obtain ⟨p1, p2⟩ := p
      simp only [Prod.mk.injEq] at he
      obtain ⟨rfl, rfl, rfl⟩ := he
      exact reg_sound hT hcl hok I F hp fun D a' X ID hH FD => k D a' ⟨X, ID, hH, FD⟩
    | _ => simp [okC] at hok
  | regq l =>
    intro c hok C f a e f' h' he I F Q k
    cases c with
    | region id rs b =>
      cases b <;> simp only [okC, Bool.false_eq_true] at hok
      simp only [exec] at he
      obtain ⟨p, hp, he⟩ := Option.map_eq_some_iff.1 he
      simp only [Prod.mk.injEq] at he
      obtain ⟨rfl, rfl, rfl⟩ := he
      refine regd_sound hm hT hcl hok I F rfl (opsD_of_opsQ l hp) fun D a' X ID hH FD => k D a' ⟨X, ID, ?_, FD⟩
      simpa using hH.symm
    | _ => simp [okC] at hok
  | regd l ws =>
    intro c hok C f a e f' h' he I F Q k
    cases c with
    | region id rs b =>
      cases b <;> simp only [okC, Bool.false_eq_true] at hok
      simp only [exec] at he
      obtain ⟨hs, _, he⟩ := Option.bind_eq_some_iff.1 he
      obtain ⟨f1, hd, he⟩ := Option.bind_eq_some_iff.1 he
      obtain ⟨h1, hl, he⟩ := Option.map_eq_some_iff.1 he
      simp only [Prod.mk.injEq] at he
      obtain ⟨rfl, rfl, rfl⟩ := he
      refine regd_sound hm hT hcl hok I F rfl hd fun D a' X ID hH FD => k D a' ⟨X, ID, ?_, FD⟩
      rw [hl] at hH
      exact (Option.some.inj hH).symm
    | _ => simp [okC] at hok
  | seq x y ihx ihy =>
    intro c hok C f a e f' h' he I F Q k
    cases c with
    | seq c d =>
      simp only [okC, Bool.and_eq_true] at hok
      simp only [exec] at he
      obtain ⟨p, hp, he⟩ := Option.bind_eq_some_iff.1 he
      obtain ⟨e1, f1, h1⟩ := p
      refine wp_seq (ihx c hok.1 hp I F fun D a' N => ?_)
      cases e1 with
      | normal =>
        obtain ⟨X, ID, hH, FD⟩ := N
        exact ihy d hok.2 (by rw [hH]; exact he) ID FD fun D' a'' N' => k D' a'' ⟨X.trans N'.ext, N'.inv, N'.heap, N'.fr⟩
      | exit id =>
        simp only [Option.some.injEq, Prod.mk.injEq] at he
        obtain ⟨rfl, rfl, rfl⟩ := he
        exact k D a' N
      | ret =>
        simp only [Option.some.injEq, Prod.mk.injEq] at he
        obtain ⟨rfl, rfl, rfl⟩ := he
        exact k D a' N
    | _ => simp [okC] at hok
  | cond x y z ihy ihz =>
    intro c hok C f a e f' h' he I F Q k
    cases c with
    | cond v c d =>
      simp only [okC, Bool.and_eq_true] at hok
      have r := rep_eval I F hok.1.1
      simp only [exec] at he
      split at he
      · rename_i t ht
        rw [ht] at r
        cases t with
        | true => exact wp_cond_true r (ihy c hok.1.2 (by simpa using he) I F k)
        | false => exact wp_cond_false r (ihz d hok.2 (by simpa using he) I F k)
      · cases he
    | _ => simp [okC] at hok
  | blk id x ih =>
    intro c hok C f a e f' h' he I F Q k
    cases c with
    | block id' c =>
      simp only [okC, Bool.and_eq_true, beq_iff_eq] at hok
      obtain ⟨rfl, hok⟩ := hok
      simp only [exec] at he
      obtain ⟨p, hp, he⟩ := Option.map_eq_some_iff.1 he
      obtain ⟨e1, f1, h1⟩ := p
      refine wp_block (ih c hok hp I F fun D a' N => ?_)
      cases e1 with
      | normal =>
        simp only [Prod.mk.injEq] at he
        obtain ⟨rfl, rfl, rfl⟩ := he
        exact k D a' N
      | ret =>
        simp only [Prod.mk.injEq] at he
        obtain ⟨rfl, rfl, rfl⟩ := he
        exact k D a' N
      | exit id' =>
        simp only at he
        simp only [exOf, Exit.inBlock]
        by_cases hid : id' = id
        · rw [if_pos hid] at he ⊢
          simp only [Prod.mk.injEq] at he
          obtain ⟨rfl, rfl, rfl⟩ := he
          exact k D a' N
        · rw [if_neg hid] at he ⊢
          simp only [Prod.mk.injEq] at he
          obtain ⟨rfl, rfl, rfl⟩ := he
          exact k D a' N
    | _ => simp [okC] at hok
  | scope x ih =>
    intro c hok C f a e f' h' he I F Q k
    cases c with
    | scope c =>
      simp only [okC] at hok
      refine wp_scope_straight (ih c hok he I F fun D a' N => ?_)
      have := k D a' N
      cases e <;> exact this
    | _ => simp [okC] at hok
  | stop =>
    intro c hok C f a e f' h' he I F Q k
    simp [exec] at he
  | keep live x ih =>
    intro c hok C f a e f' h' he I F Q k
    simp only [okC] at hok
    simp only [exec] at he
    obtain ⟨p, hp, he⟩ := Option.map_eq_some_iff.1 he
    obtain ⟨e1, f1, h1⟩ := p
    refine ih c hok hp I F fun D a' N => ?_
    cases e1 with
    | normal =>
      simp only [Prod.mk.injEq] at he
      obtain ⟨rfl, rfl, rfl⟩ := he
      exact k D a' ⟨N.ext, N.inv, N.heap, N.fr.keep live⟩
    | exit id =>
      simp only [Prod.mk.injEq] at he
      obtain ⟨rfl, rfl, rfl⟩ := he
      exact k D a' N
    | ret =>
      simp only [Prod.mk.injEq] at he
      obtain ⟨rfl, rfl, rfl⟩ := he
      exact k D a' N
  | loop live x ih =>
    intro c hok C f a e f' h' he I F Q k
    cases c with
    | loop c =>
      simp only [okC] at hok
      simp only [exec, lp] at he
      split at he
      · rename_i hex
        have key : ∀ (n : Nat) {D : Ctx} {f : Fr} {a : Act}, lpN (round live (exec tb cl x)) n f D.H = some (e, f', h') → Ext C D → Inv tb D → FrRel D f a nt → Code.rounds P c Q n a D.w := by
          intro n
          induction n with
          | zero => intro D f a h; simp [lpN] at h
          | succ n ihn =>
            intro D f a h X ID FD
            simp only [lpN] at h
            rw [rounds_succ]
            have rnd : ∀ {e1 f1 h1}, round live (exec tb cl x) f D.H = some (e1, f1, h1) → ∃ f2 h2, exec tb cl x (keepL live f) D.H = some (e1, f2, h2) ∧
                (e1 = .normal → (f1, h1) = (keepL live f2, h2)) ∧ (e1 ≠ .normal → f1 = f2 ∧ h1 = h2) := by
              intro e1 f1 h1 hr
              simp only [round] at hr
              obtain ⟨⟨e2, f2, h2⟩, hp, hr⟩ := Option.map_eq_some_iff.1 hr
              cases e2 <;> simp only [Prod.mk.injEq] at hr
              · obtain ⟨he1, hq⟩ := hr
                subst he1
                exact ⟨f2, h2, hp, fun _ => by rw [hq.1, hq.2], fun h => absurd rfl h⟩
              all_goals obtain ⟨rfl, rfl, rfl⟩ := hr
              · exact ⟨_, _, hp, fun h => (by cases h), fun _ => ⟨rfl, rfl⟩⟩
              · exact ⟨_, _, hp, fun h => (by cases h), fun _ => ⟨rfl, rfl⟩⟩
            cases hr : round live (exec tb cl x) f D.H with
            | none => rw [hr] at h; simp at h
            | some p =>
              obtain ⟨e1, f1, h1⟩ := p
              rw [hr] at h
              obtain ⟨f2, h2, hx, hn, ho⟩ := rnd hr
              refine ih c hok hx ID (FD.keep live) fun D' a' N => ?_
              by_cases hnorm : e1 = .normal
              · subst hnorm
                have hs := hn rfl
                simp only [] at h
                simp only [exOf, Exit.then]
                obtain ⟨X', ID', hH', FD'⟩ := N
                simp only [Prod.mk.injEq] at hs
                obtain ⟨rfl, rfl⟩ := hs
                exact ihn (D := D') (f := keepL live f2) (by rw [hH']; exact h) (X.trans X') ID' (FD'.keep live)
              · obtain ⟨rfl, rfl⟩ := ho hnorm
                have h' : some (e1, f1, h1) = some (e, f', h') := by
                  cases e1 with
                  | normal => exact absurd rfl hnorm
                  | exit id => simpa using h
                  | ret => simpa using h
                simp only [Option.some.injEq, Prod.mk.injEq] at h'
                obtain ⟨rfl, rfl, rfl⟩ := h'
                have := k D' a' ⟨X.trans N.ext, N.inv, N.heap, N.fr⟩
                cases e1 with
                | normal => exact absurd rfl hnorm
                | exit id => exact this
                | ret => exact this
        exact wp_loop_rounds _ (key _ he (Ext.refl C) I F)
      · cases he
    | _ => simp [okC] at hok

end
end Go.Proofs.YtobejhpigbllpaaGreatDoor.Am
