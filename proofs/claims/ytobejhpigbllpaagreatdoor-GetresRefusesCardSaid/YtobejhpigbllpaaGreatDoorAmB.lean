/-
  The machine's equations: a loop is its body and the loop again; a call is its body, in which calls are calls again.
-/
import Derived.Test.YtobejhpigbllpaaGreatDoorAmA
namespace Go.Proofs.YtobejhpigbllpaaGreatDoor.Am

theorem lpN_mono (F : Fr → Heap → Option (Ex × Fr × Heap)) : ∀ (n : Nat) (f : Fr) (h : Heap) (r : Ex × Fr × Heap), lpN F n f h = some r → ∀ m, n ≤ m → lpN F m f h = some r := by
  intro n
  induction n with
  | zero => intro f h r e; simp [lpN] at e
  | succ n ih =>
    intro f h r e m hm
    obtain ⟨m, rfl⟩ : ∃ k, m = k + 1 := ⟨m - 1, by omega⟩
    simp only [lpN] at e ⊢
    split at e
    · exact ih _ _ _ e m (by omega)
    · exact e

theorem lp_of (F : Fr → Heap → Option (Ex × Fr × Heap)) {n : Nat} {f : Fr} {h : Heap} {r : Ex × Fr × Heap} (e : lpN F n f h = some r) : lp F f h = some r := by
  unfold lp
  have x : ∃ n, (lpN F n f h).isSome = true := ⟨n, by rw [e]; rfl⟩
  rw [dif_pos x]
  have hc := Classical.choose_spec x
  cases hr : lpN F (Classical.choose x) f h with
  | none => rw [hr] at hc; simp at hc
  | some r' =>
    have h1 := lpN_mono F _ _ _ _ e (max n (Classical.choose x)) (by omega)
    have h2 := lpN_mono F _ _ _ _ hr (max n (Classical.choose x)) (by omega)
    rw [h1] at h2
    exact h2.symm

theorem lp_ex {F : Fr → Heap → Option (Ex × Fr × Heap)} {f : Fr} {h : Heap} {r : Ex × Fr × Heap} (e : lp F f h = some r) : ∃ n, lpN F n f h = some r := by
  unfold lp at e
  split at e
  · exact ⟨_, e⟩
  · simp at e

theorem lp_eq (F : Fr → Heap → Option (Ex × Fr × Heap)) (f : Fr) (h : Heap) :
    lp F f h = match F f h with
      | some (.normal, f', h') => lp F f' h'
      | r => r := by
  cases hF : F f h with
  | none =>
    simp only
    cases hl : lp F f h with
    | none => rfl
    | some r =>
      obtain ⟨n, hn⟩ := lp_ex hl
      cases n with
      | zero => simp [lpN] at hn
      | succ n => simp [lpN, hF] at hn
  | some r =>
    obtain ⟨e, f', h'⟩ := r
    cases e with
    | normal =>
      simp only
      cases hl : lp F f' h' with
      | some r =>
        obtain ⟨n, hn⟩ := lp_ex hl
        exact lp_of F (n := n + 1) (by simp [lpN, hF, hn])
      | none =>
        cases hl' : lp F f h with
        | none => rfl
        | some r =>
          obtain ⟨n, hn⟩ := lp_ex hl'
          cases n with
          | zero => simp [lpN] at hn
          | succ n =>
            simp [lpN, hF] at hn
            rw [lp_of F hn] at hl
            simp at hl
    | exit id => exact lp_of F (n := 1) (by simp [lpN, hF])
    | ret => exact lp_of F (n := 1) (by simp [lpN, hF])

/-- what one calling knows, the other one knows -/
def Below (c d : Nat → List AV → Heap → Out) : Prop := ∀ f a h r, c f a h = some r → d f a h = some r

theorem calling_mono {tb : Tab} {c d : Nat → List AV → Heap → Out} (b : Below c d) {h : Heap} {f : Nat} {a : List AV} {r : AV × Option Heap}
    (e : calling tb c h f a = some r) : calling tb d h f a = some r := by
  unfold calling at *
  split
  · rename_i p hp; rw [hp] at e; exact e
  · rename_i hp; rw [hp] at e; exact b _ _ _ _ e

theorem aop_mono {tb : Tab} {c d : Nat → List AV → Heap → Out} (b : Below c d) {rho : AO → AV} {h : Heap} {o : AOp} {r : AV × Option Heap}
    (e : aop tb c rho h o = some r) : aop tb d rho h o = some r := by
  cases o <;> first
    | exact e
    | (simp only [aop] at e ⊢; exact calling_mono b e)
    | skip
  case callv x xs =>
    simp only [aop] at e ⊢
    split at e
    · exact calling_mono b e
    · simp at e

theorem ops_mono {tb : Tab} {c d : Nat → List AV → Heap → Out} (b : Below c d) : ∀ (l : List AOper) (f : Fr) (h : Heap) (r : Fr × Heap), ops tb c l f h = some r → ops tb d l f h = some r := by
  intro l
  induction l with
  | nil => intro f h r e; exact e
  | cons o l ih =>
    intro f h r e
    simp only [ops] at e ⊢
    cases hw : wanted f o.g with
    | none => rw [hw] at e; simp at e
    | some t =>
      rw [hw] at e
      simp only [Option.bind_some] at e ⊢
      cases t with
      | false => exact ih _ _ _ e
      | true =>
        simp only [if_true] at e ⊢
        cases ha : aop tb c (eval tb f) h o.o with
        | none => rw [ha] at e; simp at e
        | some p =>
          rw [ha] at e
          rw [aop_mono b ha]
          exact ih _ _ _ e

theorem opsQ_mono {tb : Tab} {c d : Nat → List AV → Heap → Out} (b : Below c d) (h : Heap) : ∀ (l : List AOper) (f : Fr) (r : Fr), opsQ tb c h l f = some r → opsQ tb d h l f = some r := by
  intro l
  induction l with
  | nil => intro f r e; exact e
  | cons o l ih =>
    intro f r e
    simp only [opsQ] at e ⊢
    cases hw : wanted f o.g with
    | none => rw [hw] at e; simp at e
    | some t =>
      rw [hw] at e
      simp only [Option.bind_some] at e ⊢
      cases t with
      | false => exact ih _ _ e
      | true =>
        simp only [if_true] at e ⊢
        cases ha : aop tb c (eval tb f) h o.o with
        | none => rw [ha] at e; simp at e
        | some p =>
          rw [ha] at e
          rw [aop_mono b ha]
          simp only [Option.bind_some] at e ⊢
          split at e
          · rename_i hq; rw [if_pos hq]; exact ih _ _ e
          · simp at e

theorem heaps_mono {tb : Tab} {c d : Nat → List AV → Heap → Out} (b : Below c d) : ∀ (l : List AOper) (w : List (Option (Nat × Nat))) (f : Fr) (h : Heap) (r : List Heap),
    heaps tb c l w f h = some r → heaps tb d l w f h = some r := by
  intro l
  induction l with
  | nil => intro w f h r e; exact e
  | cons o l ih =>
    intro w f h r e
    simp only [heaps] at e ⊢
    cases hw : wanted f o.g with
    | none => rw [hw] at e; simp at e
    | some t =>
      rw [hw] at e
      simp only [Option.bind_some] at e ⊢
      cases t with
      | false =>
        simp only [Bool.false_eq_true, if_false] at e ⊢
        cases hh : heaps tb c l w.tail (put f o.d (.tup [])) h with
        | none => rw [hh] at e; simp at e
        | some r' => rw [hh] at e; rw [ih _ _ _ _ hh]; exact e
      | true =>
        simp only [if_true] at e ⊢
        cases ha : aop tb c (eval tb f) h o.o with
        | none => rw [ha] at e; simp at e
        | some p =>
          rw [ha] at e
          rw [aop_mono b ha]
          simp only [Option.bind_some] at e ⊢
          cases hh : heaps tb c l w.tail (put f o.d p.1) (p.2.getD h) with
          | none => rw [hh] at e; simp at e
          | some r' => rw [hh] at e; rw [ih _ _ _ _ hh]; exact e

theorem opsD_mono {tb : Tab} {c d : Nat → List AV → Heap → Out} (b : Below c d) (hs : List Heap) : ∀ (l : List AOper) (w : List (Option (Nat × Nat))) (k : Nat) (f : Fr) (r : Fr),
    opsD tb c hs l w k f = some r → opsD tb d hs l w k f = some r := by
  intro l
  induction l with
  | nil => intro w k f r e; exact e
  | cons o l ih =>
    intro w k f r e
    simp only [opsD] at e ⊢
    cases hw : wanted f o.g with
    | none => rw [hw] at e; simp at e
    | some t =>
      rw [hw] at e
      simp only [Option.bind_some] at e ⊢
      cases t with
      | false =>
        simp only [Bool.false_eq_true, if_false] at e ⊢
        cases w with
        | nil => simp at e
        | cons x w =>
          cases x with
          | none =>
            simp only at e ⊢
            split at e
            · rename_i hq; rw [if_pos hq]; exact ih _ _ _ _ e
            · simp at e
          | some y => exact ih _ _ _ _ e
      | true =>
        simp only [if_true] at e ⊢
        cases hk : hs[k]? with
        | none => rw [hk] at e; simp at e
        | some h =>
          rw [hk] at e
          simp only [Option.bind_some] at e ⊢
          cases ha : aop tb c (eval tb f) h o.o with
          | none => rw [ha] at e; simp at e
          | some p =>
            rw [ha] at e
            rw [aop_mono b ha]
            simp only [Option.bind_some] at e ⊢
            cases w with
            | nil => simp at e
            | cons x w =>
              cases x with
              | none =>
                simp only at e ⊢
                split at e
                · rename_i hq; rw [if_pos hq]; exact ih _ _ _ _ e
                · simp at e
              | some y =>
                obtain ⟨lo, hi⟩ := y
                simp only at e ⊢
                split at e
                · rename_i hq
                  rw [if_pos]
                  · exact ih _ _ _ _ e
                  · simp only [List.all_eq_true, decide_eq_true_eq] at hq ⊢
                    intro j hj
                    obtain ⟨u, hu, hu'⟩ := hq j hj
                    refine ⟨u, ?_, hu'⟩
                    cases hj' : hs[j]? with
                    | none => rw [hj'] at hu; simp at hu
                    | some h' => rw [hj'] at hu; exact aop_mono b hu
                · simp at e

theorem lpN_le {F G : Fr → Heap → Option (Ex × Fr × Heap)} (b : ∀ f h r, F f h = some r → G f h = some r) : ∀ (n : Nat) (f : Fr) (h : Heap) (r : Ex × Fr × Heap), lpN F n f h = some r → lpN G n f h = some r := by
  intro n
  induction n with
  | zero => intro f h r e; simp [lpN] at e
  | succ n ih =>
    intro f h r e
    simp only [lpN] at e ⊢
    cases hF : F f h with
    | none => rw [hF] at e; simp at e
    | some r' =>
      rw [hF] at e
      rw [b _ _ _ hF]
      obtain ⟨x, f', h'⟩ := r'
      cases x with
      | normal => exact ih _ _ _ e
      | exit id => exact e
      | ret => exact e

theorem exec_mono {tb : Tab} {c d : Nat → List AV → Heap → Out} (b : Below c d) : ∀ (x : AC) (f : Fr) (h : Heap) (r : Ex × Fr × Heap), exec tb c x f h = some r → exec tb d x f h = some r := by
  intro x
  induction x with
  | skip => intro f h r e; exact e
  | reg l =>
    intro f h r e
    simp only [exec] at e ⊢
    cases ho : ops tb c l f h with
    | none => rw [ho] at e; simp at e
    | some p => rw [ho] at e; rw [ops_mono b _ _ _ _ ho]; exact e
  | regq l =>
    intro f h r e
    simp only [exec] at e ⊢
    cases ho : opsQ tb c h l f with
    | none => rw [ho] at e; simp at e
    | some p => rw [ho] at e; rw [opsQ_mono b h _ _ _ ho]; exact e
  | regd l w =>
    intro f h r e
    simp only [exec] at e ⊢
    cases ho : heaps tb c l w f h with
    | none => rw [ho] at e; simp at e
    | some hs =>
      rw [ho] at e
      rw [heaps_mono b _ _ _ _ _ ho]
      simp only [Option.bind_some] at e ⊢
      cases hd : opsD tb c (h :: hs.tail) l w 0 f with
      | none => rw [hd] at e; simp at e
      | some f' => rw [hd] at e; rw [opsD_mono b _ _ _ _ _ _ hd]; exact e
  | seq x y ihx ihy =>
    intro f h r e
    simp only [exec] at e ⊢
    cases hx : exec tb c x f h with
    | none => rw [hx] at e; simp at e
    | some p =>
      rw [hx] at e
      rw [ihx _ _ _ hx]
      obtain ⟨q, f', h'⟩ := p
      cases q with
      | normal => exact ihy _ _ _ e
      | exit id => exact e
      | ret => exact e
  | cond o x y ihx ihy =>
    intro f h r e
    simp only [exec] at e ⊢
    split at e
    · rename_i t ht
      split at e
      · rename_i hh; simp only [hh, if_true] ; exact ihx _ _ _ e
      · rename_i hh; simp only [hh]; exact ihy _ _ _ e
    · simp at e
  | blk id x ih =>
    intro f h r e
    simp only [exec] at e ⊢
    cases hx : exec tb c x f h with
    | none => rw [hx] at e; simp at e
    | some p => rw [hx] at e; rw [ih _ _ _ hx]; exact e
  | loop live x ih =>
    intro f h r e
    simp only [exec] at e ⊢
    obtain ⟨n, hn⟩ := lp_ex e
    refine lp_of _ (n := n) (lpN_le ?_ n f h r hn)
    intro f h r e
    simp only [round] at e ⊢
    cases hx : exec tb c x (keepL live f) h with
    | none => rw [hx] at e; simp at e
    | some p => rw [hx] at e; rw [ih _ _ _ hx]; exact e
  | exit id => intro f h r e; exact e
  | ret => intro f h r e; exact e
  | scope x ih => intro f h r e; exact ih f h r e
  | stop => intro f h r e; simp [exec] at e
  | keep live x ih =>
    intro f h r e
    simp only [exec] at e ⊢
    cases hx : exec tb c x f h with
    | none => rw [hx] at e; simp at e
    | some p => rw [hx] at e; rw [ih _ _ _ hx]; exact e

theorem body_mono {tb : Tab} {c d : Nat → List AV → Heap → Out} (b : Below c d) {fn : AFn} {a : List AV} {h : Heap} {r : AV × Option Heap}
    (e : body tb c fn a h = some r) : body tb d fn a h = some r := by
  simp only [body] at e ⊢
  split at e
  · rename_i hn
    rw [if_pos hn]
    cases hx : exec tb c fn.body (a.zipIdx.map fun p => (p.2, p.1)) h with
    | none => rw [hx] at e; simp at e
    | some p => rw [hx] at e; rw [exec_mono b _ _ _ _ hx]; exact e
  · simp at e

theorem run_succ (tb : Tab) : ∀ n, Below (run tb n) (run tb (n + 1)) := by
  intro n
  induction n with
  | zero => intro f a h r e; simp [run] at e
  | succ n ih =>
    intro f a h r e
    rw [run] at e ⊢
    cases hf : tb.fns f with
    | none => rw [hf] at e; simp at e
    | some fn => rw [hf] at e; exact body_mono ih e

theorem run_mono (tb : Tab) {n m : Nat} (h : n ≤ m) : Below (run tb n) (run tb m) := by
  induction m with
  | zero => obtain rfl : n = 0 := (by omega); exact fun _ _ _ _ e => e
  | succ m ih =>
    by_cases hn : n = m + 1
    · subst hn; exact fun _ _ _ _ e => e
    · exact fun f a x r e => run_succ tb m _ _ _ _ (ih (by omega) f a x r e)

theorem den_of {tb : Tab} {n f : Nat} {a : List AV} {h : Heap} {r : AV × Option Heap} (e : run tb n f a h = some r) : den tb f a h = some r := by
  unfold den
  have x : ∃ n, (run tb n f a h).isSome = true := ⟨n, by rw [e]; rfl⟩
  rw [dif_pos x]
  have hc := Classical.choose_spec x
  cases hr : run tb (Classical.choose x) f a h with
  | none => rw [hr] at hc; simp at hc
  | some r' =>
    have h1 := run_mono tb (Nat.le_max_left n (Classical.choose x)) _ _ _ _ e
    have h2 := run_mono tb (Nat.le_max_right n (Classical.choose x)) _ _ _ _ hr
    rw [h1] at h2
    exact h2.symm

theorem den_ex {tb : Tab} {f : Nat} {a : List AV} {h : Heap} {r : AV × Option Heap} (e : den tb f a h = some r) : ∃ n, run tb n f a h = some r := by
  unfold den at e
  split at e
  · exact ⟨_, e⟩
  · simp at e

theorem run_below (tb : Tab) (n : Nat) : Below (run tb n) (den tb) := fun _ _ _ _ e => den_of e

/-! What is known of all calls is known of those of some depth. -/
theorem aop_den {tb : Tab} {rho : AO → AV} {h : Heap} {o : AOp} {r : AV × Option Heap} (e : aop tb (den tb) rho h o = some r) : ∃ n, aop tb (run tb n) rho h o = some r := by
  have hc : ∀ f a, calling tb (den tb) h f a = some r → ∃ n, calling tb (run tb n) h f a = some r := by
    intro f a e
    unfold calling at *
    cases hp : tb.prim f with
    | some p => rw [hp] at e; exact ⟨0, e⟩
    | none => rw [hp] at e; exact den_ex e
  cases o <;> first
    | exact ⟨0, e⟩
    | (simp only [aop] at e ⊢; exact hc _ _ e)
    | skip
  case callv x xs =>
    simp only [aop] at e ⊢
    split at e
    · exact hc _ _ e
    · simp at e

theorem ops_den {tb : Tab} : ∀ (l : List AOper) (f : Fr) (h : Heap) (r : Fr × Heap), ops tb (den tb) l f h = some r → ∃ n, ops tb (run tb n) l f h = some r := by
  intro l
  induction l with
  | nil => intro f h r e; exact ⟨0, e⟩
  | cons o l ih =>
    intro f h r e
    simp only [ops] at e ⊢
    cases hw : wanted f o.g with
    | none => rw [hw] at e; simp at e
    | some t =>
      rw [hw] at e
      simp only [Option.bind_some] at e ⊢
      cases t with
      | false => exact ih _ _ _ e
      | true =>
        simp only [if_true] at e ⊢
        cases ha : aop tb (den tb) (eval tb f) h o.o with
        | none => rw [ha] at e; simp at e
        | some p =>
          rw [ha] at e
          obtain ⟨n, hn⟩ := aop_den ha
          obtain ⟨m, hm⟩ := ih _ _ _ e
          refine ⟨max n m, ?_⟩
          rw [aop_mono (run_mono tb (Nat.le_max_left n m)) hn]
          exact ops_mono (run_mono tb (Nat.le_max_right n m)) _ _ _ _ hm

theorem opsQ_den {tb : Tab} (h : Heap) : ∀ (l : List AOper) (f : Fr) (r : Fr), opsQ tb (den tb) h l f = some r → ∃ n, opsQ tb (run tb n) h l f = some r := by
  intro l
  induction l with
  | nil => intro f r e; exact ⟨0, e⟩
  | cons o l ih =>
    intro f r e
    simp only [opsQ] at e ⊢
    cases hw : wanted f o.g with
    | none => rw [hw] at e; simp at e
    | some t =>
      rw [hw] at e
      simp only [Option.bind_some] at e ⊢
      cases t with
      | false => exact ih _ _ e
      | true =>
        simp only [if_true] at e ⊢
        cases ha : aop tb (den tb) (eval tb f) h o.o with
        | none => rw [ha] at e; simp at e
        | some p =>
          rw [ha] at e
          obtain ⟨n, hn⟩ := aop_den ha
          simp only [Option.bind_some] at e
          split at e
          · rename_i hq
            obtain ⟨m, hm⟩ := ih _ _ e
            refine ⟨max n m, ?_⟩
            rw [aop_mono (run_mono tb (Nat.le_max_left n m)) hn]
            simp only [Option.bind_some]
            rw [if_pos hq]
            exact opsQ_mono (run_mono tb (Nat.le_max_right n m)) h _ _ _ hm
          · simp at e

theorem heaps_den {tb : Tab} : ∀ (l : List AOper) (w : List (Option (Nat × Nat))) (f : Fr) (h : Heap) (r : List Heap), heaps tb (den tb) l w f h = some r → ∃ n, heaps tb (run tb n) l w f h = some r := by
  intro l
  induction l with
  | nil => intro w f h r e; exact ⟨0, e⟩
  | cons o l ih =>
    intro w f h r e
    simp only [heaps] at e ⊢
    cases hw : wanted f o.g with
    | none => rw [hw] at e; simp at e
    | some t =>
      rw [hw] at e
      simp only [Option.bind_some] at e ⊢
      cases t with
      | false =>
        simp only [Bool.false_eq_true, if_false] at e ⊢
        cases hh : heaps tb (den tb) l w.tail (put f o.d (.tup [])) h with
        | none => rw [hh] at e; simp at e
        | some r' =>
          rw [hh] at e
          obtain ⟨n, hn⟩ := ih _ _ _ _ hh
          exact ⟨n, by rw [hn]; exact e⟩
      | true =>
        simp only [if_true] at e ⊢
        cases ha : aop tb (den tb) (eval tb f) h o.o with
        | none => rw [ha] at e; simp at e
        | some p =>
          rw [ha] at e
          obtain ⟨n, hn⟩ := aop_den ha
          simp only [Option.bind_some] at e
          cases hh : heaps tb (den tb) l w.tail (put f o.d p.1) (p.2.getD h) with
          | none => rw [hh] at e; simp at e
          | some r' =>
            rw [hh] at e
            obtain ⟨m, hm⟩ := ih _ _ _ _ hh
            refine ⟨max n m, ?_⟩
            rw [aop_mono (run_mono tb (Nat.le_max_left n m)) hn]
            simp only [Option.bind_some]
            rw [heaps_mono (run_mono tb (Nat.le_max_right n m)) _ _ _ _ _ hm]
            exact e

theorem all_den {tb : Tab} {f : Fr} {o : AOp} {v : AV} (hs : List Heap) : ∀ (l : List Nat),
    (∀ j ∈ l, ∃ u, (hs[j]?).bind (fun h => aop tb (den tb) (eval tb f) h o) = some (v, u) ∧ some (u.getD (hs[j]?.getD [])) = hs[j]?) →
    ∃ n, ∀ j ∈ l, ∃ u, (hs[j]?).bind (fun h => aop tb (run tb n) (eval tb f) h o) = some (v, u) ∧ some (u.getD (hs[j]?.getD [])) = hs[j]? := by
  intro l
  induction l with
  | nil => intro _; exact ⟨0, fun j hj => by cases hj⟩
  | cons j l ih =>
    intro H
    obtain ⟨n, hn⟩ := ih fun j hj => H j (List.mem_cons_of_mem _ hj)
    obtain ⟨u, hu, hu'⟩ := H j List.mem_cons_self
    cases hj : hs[j]? with
    | none => rw [hj] at hu; simp at hu
    | some h =>
      rw [hj] at hu
      obtain ⟨m, hm⟩ := aop_den hu
      refine ⟨max n m, ?_⟩
      intro i hi
      rcases List.mem_cons.1 hi with e | hi
      · subst e
        refine ⟨u, ?_, hu'⟩
        rw [hj]
        exact aop_mono (run_mono tb (Nat.le_max_right n m)) hm
      · obtain ⟨u', h1, h2⟩ := hn i hi
        refine ⟨u', ?_, h2⟩
        cases hi' : hs[i]? with
        | none => rw [hi'] at h1; simp at h1
        | some h' => rw [hi'] at h1; exact aop_mono (run_mono tb (Nat.le_max_left n m)) h1

theorem opsD_den {tb : Tab} (hs : List Heap) : ∀ (l : List AOper) (w : List (Option (Nat × Nat))) (k : Nat) (f : Fr) (r : Fr), opsD tb (den tb) hs l w k f = some r → ∃ n, opsD tb (run tb n) hs l w k f = some r := by
  intro l
  induction l with
  | nil => intro w k f r e; exact ⟨0, e⟩
  | cons o l ih =>
    intro w k f r e
    simp only [opsD] at e ⊢
    cases hw : wanted f o.g with
    | none => rw [hw] at e; simp at e
    | some t =>
      rw [hw] at e
      simp only [Option.bind_some] at e ⊢
      cases t with
      | false =>
        simp only [Bool.false_eq_true, if_false] at e ⊢
        cases w with
        | nil => simp at e
        | cons x w =>
          cases x with
          | none =>
            simp only at e ⊢
            split at e
            · rename_i hq; simp only [if_pos hq]; exact ih _ _ _ _ e
            · simp at e
          | some y => exact ih _ _ _ _ e
      | true =>
        simp only [if_true] at e ⊢
        cases hk : hs[k]? with
        | none => rw [hk] at e; simp at e
        | some h =>
          rw [hk] at e
          simp only [Option.bind_some] at e ⊢
          cases ha : aop tb (den tb) (eval tb f) h o.o with
          | none => rw [ha] at e; simp at e
          | some p =>
            rw [ha] at e
            obtain ⟨n, hn⟩ := aop_den ha
            simp only [Option.bind_some] at e ⊢
            cases w with
            | nil => simp at e
            | cons x w =>
              cases x with
              | none =>
                simp only at e ⊢
                split at e
                · rename_i hq
                  obtain ⟨m, hm⟩ := ih _ _ _ _ e
                  refine ⟨max n m, ?_⟩
                  rw [aop_mono (run_mono tb (Nat.le_max_left n m)) hn]
                  simp only [Option.bind_some]
                  rw [if_pos hq]
                  exact opsD_mono (run_mono tb (Nat.le_max_right n m)) hs _ _ _ _ _ hm
                · simp at e
              | some y =>
                obtain ⟨lo, hi⟩ := y
                simp only at e ⊢
                split at e
                · rename_i hq
                  obtain ⟨m, hm⟩ := ih _ _ _ _ e
                  simp only [List.all_eq_true, decide_eq_true_eq] at hq
                  obtain ⟨q, hq⟩ := all_den hs _ hq
                  refine ⟨max n (max m q), ?_⟩
                  rw [aop_mono (run_mono tb (Nat.le_max_left n (max m q))) hn]
                  simp only [Option.bind_some]
                  rw [if_pos]
                  · exact opsD_mono (run_mono tb (Nat.le_trans (Nat.le_max_left m q) (Nat.le_max_right n _))) hs _ _ _ _ _ hm
                  · simp only [List.all_eq_true, decide_eq_true_eq]
                    intro j hj
                    obtain ⟨u, hu, hu'⟩ := hq j hj
                    refine ⟨u, ?_, hu'⟩
                    cases hj' : hs[j]? with
                    | none => rw [hj'] at hu; simp at hu
                    | some h' => rw [hj'] at hu; exact aop_mono (run_mono tb (Nat.le_trans (Nat.le_max_right m q) (Nat.le_max_right n _))) hu
                · simp at e

theorem lpN_den {F : Nat → Fr → Heap → Option (Ex × Fr × Heap)} {G : Fr → Heap → Option (Ex × Fr × Heap)} (hm : ∀ n m, n ≤ m → ∀ f h r, F n f h = some r → F m f h = some r)
    (hG : ∀ f h r, G f h = some r → ∃ n, F n f h = some r) : ∀ (k : Nat) (f : Fr) (h : Heap) (r : Ex × Fr × Heap), lpN G k f h = some r → ∃ n, lpN (F n) k f h = some r := by
  intro k
  induction k with
  | zero => intro f h r e; simp [lpN] at e
  | succ k ih =>
    intro f h r e
    simp only [lpN] at e ⊢
    cases hx : G f h with
    | none => rw [hx] at e; simp at e
    | some p =>
      rw [hx] at e
      obtain ⟨n, hn⟩ := hG _ _ _ hx
      obtain ⟨q, f', h'⟩ := p
      cases q with
      | normal =>
        obtain ⟨m, hm'⟩ := ih _ _ _ e
        refine ⟨max n m, ?_⟩
        rw [hm n _ (Nat.le_max_left n m) _ _ _ hn]
        exact lpN_le (hm m _ (Nat.le_max_right n m)) _ _ _ _ hm'
      | exit id => exact ⟨n, by rw [hn]; exact e⟩
      | ret => exact ⟨n, by rw [hn]; exact e⟩

theorem exec_den {tb : Tab} : ∀ (x : AC) (f : Fr) (h : Heap) (r : Ex × Fr × Heap), exec tb (den tb) x f h = some r → ∃ n, exec tb (run tb n) x f h = some r := by
  intro x
  induction x with
  | skip => intro f h r e; exact ⟨0, e⟩
  | reg l =>
    intro f h r e
    simp only [exec] at e ⊢
    cases ho : ops tb (den tb) l f h with
    | none => rw [ho] at e; simp at e
    | some p =>
      rw [ho] at e
      obtain ⟨n, hn⟩ := ops_den _ _ _ _ ho
      exact ⟨n, by rw [hn]; exact e⟩
  | regq l =>
    intro f h r e
    simp only [exec] at e ⊢
    cases ho : opsQ tb (den tb) h l f with
    | none => rw [ho] at e; simp at e
    | some p =>
      rw [ho] at e
      obtain ⟨n, hn⟩ := opsQ_den h _ _ _ ho
      exact ⟨n, by rw [hn]; exact e⟩
  | regd l w =>
    intro f h r e
    simp only [exec] at e ⊢
    cases ho : heaps tb (den tb) l w f h with
    | none => rw [ho] at e; simp at e
    | some hs =>
      rw [ho] at e
      simp only [Option.bind_some] at e
      obtain ⟨n, hn⟩ := heaps_den _ _ _ _ _ ho
      cases hd : opsD tb (den tb) (h :: hs.tail) l w 0 f with
      | none => rw [hd] at e; simp at e
      | some f' =>
        rw [hd] at e
        obtain ⟨m, hm⟩ := opsD_den _ _ _ _ _ _ hd
        refine ⟨max n m, ?_⟩
        rw [heaps_mono (run_mono tb (Nat.le_max_left n m)) _ _ _ _ _ hn]
        simp only [Option.bind_some]
        rw [opsD_mono (run_mono tb (Nat.le_max_right n m)) _ _ _ _ _ _ hm]
        exact e
  | seq x y ihx ihy =>
    intro f h r e
    simp only [exec] at e ⊢
    cases hx : exec tb (den tb) x f h with
    | none => rw [hx] at e; simp at e
    | some p =>
      rw [hx] at e
      obtain ⟨n, hn⟩ := ihx _ _ _ hx
      obtain ⟨q, f', h'⟩ := p
      cases q with
      | normal =>
        obtain ⟨m, hm⟩ := ihy _ _ _ e
        refine ⟨max n m, ?_⟩
        rw [exec_mono (run_mono tb (Nat.le_max_left n m)) _ _ _ _ hn]
        exact exec_mono (run_mono tb (Nat.le_max_right n m)) _ _ _ _ hm
      | exit id => exact ⟨n, by rw [hn]; exact e⟩
      | ret => exact ⟨n, by rw [hn]; exact e⟩
  | cond o x y ihx ihy =>
    intro f h r e
    simp only [exec] at e ⊢
    split at e
    · rename_i t ht
      split at e
      · rename_i hh; simp only [hh, if_true] ; exact ihx _ _ _ e
      · rename_i hh; simp only [hh]; exact ihy _ _ _ e
    · simp at e
  | blk id x ih =>
    intro f h r e
    simp only [exec] at e ⊢
    cases hx : exec tb (den tb) x f h with
    | none => rw [hx] at e; simp at e
    | some p =>
      rw [hx] at e
      obtain ⟨n, hn⟩ := ih _ _ _ hx
      exact ⟨n, by rw [hn]; exact e⟩
  | loop live x ih =>
    intro f h r e
    simp only [exec] at e ⊢
    obtain ⟨k, hk⟩ := lp_ex e
    have hm : ∀ n m, n ≤ m → ∀ f h r, round live (exec tb (run tb n) x) f h = some r → round live (exec tb (run tb m) x) f h = some r := by
      intro n m hnm f h r e
      simp only [round] at e ⊢
      cases hx : exec tb (run tb n) x (keepL live f) h with
      | none => rw [hx] at e; simp at e
      | some p => rw [hx] at e; rw [exec_mono (run_mono tb hnm) _ _ _ _ hx]; exact e
    have hg : ∀ f h r, round live (exec tb (den tb) x) f h = some r → ∃ n, round live (exec tb (run tb n) x) f h = some r := by
      intro f h r e
      simp only [round] at e ⊢
      cases hx : exec tb (den tb) x (keepL live f) h with
      | none => rw [hx] at e; simp at e
      | some p =>
        rw [hx] at e
        obtain ⟨n, hn⟩ := ih _ _ _ hx
        exact ⟨n, by rw [hn]; exact e⟩
    obtain ⟨n, hn⟩ := lpN_den (F := fun n => round live (exec tb (run tb n) x)) hm hg _ _ _ _ hk
    exact ⟨n, lp_of _ hn⟩
  | exit id => intro f h r e; exact ⟨0, e⟩
  | ret => intro f h r e; exact ⟨0, e⟩
  | scope x ih => intro f h r e; exact ih f h r e
  | stop => intro f h r e; simp [exec] at e
  | keep live x ih =>
    intro f h r e
    simp only [exec] at e ⊢
    cases hx : exec tb (den tb) x f h with
    | none => rw [hx] at e; simp at e
    | some p =>
      rw [hx] at e
      obtain ⟨n, hn⟩ := ih _ _ _ hx
      exact ⟨n, by rw [hn]; exact e⟩

theorem den_eq (tb : Tab) (f : Nat) (a : List AV) (h : Heap) : den tb f a h = (tb.fns f).bind fun fn => body tb (den tb) fn a h := by
  cases hf : tb.fns f with
  | none =>
    cases hd : den tb f a h with
    | none => rfl
    | some r =>
      obtain ⟨n, hn⟩ := den_ex hd
      cases n with
      | zero => simp [run] at hn
      | succ n => rw [run, hf] at hn; simp at hn
  | some fn =>
    simp only [Option.bind_some]
    cases hb : body tb (den tb) fn a h with
    | some r =>
      have : ∃ n, body tb (run tb n) fn a h = some r := by
        simp only [body] at hb ⊢
        split at hb
        · rename_i hn
          simp only [if_pos hn]
          cases hx : exec tb (den tb) fn.body (a.zipIdx.map fun p => (p.2, p.1)) h with
          | none => rw [hx] at hb; simp at hb
          | some p =>
            rw [hx] at hb
            obtain ⟨n, hn⟩ := exec_den _ _ _ _ hx
            exact ⟨n, by rw [hn]; exact hb⟩
        · simp at hb
      obtain ⟨n, hn⟩ := this
      exact den_of (n := n + 1) (by rw [run, hf]; exact hn)
    | none =>
      cases hd : den tb f a h with
      | none => rfl
      | some r =>
        obtain ⟨n, hn⟩ := den_ex hd
        cases n with
        | zero => simp [run] at hn
        | succ n =>
          rw [run, hf] at hn
          have := body_mono (run_below tb n) hn
          rw [hb] at this
          simp at this

end Go.Proofs.YtobejhpigbllpaaGreatDoor.Am
