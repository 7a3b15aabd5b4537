/-
  Regions whose order is drawn, where each operation that reads memory has one place.
-/
import Derived.Test.YtobejhpigbllpaaGreatDoorSmN
namespace Go.Proofs.YtobejhpigbllpaaGreatDoor.Am

/-- operations that do not look at the memory -/
def blindOp : AOp → Bool
  | .mv _ => true
  | .pick _ _ _ => true
  | .bld _ _ => true
  | .bll _ _ _ => true
  | .fa _ _ => true
  | .nilc _ => true
  | .bin _ _ _ => true
  | .eq _ _ _ _ => true
  | .un _ _ => true
  | .cvi _ _ => true
  | .cvid _ => true
  | .cvc _ => true
  | .mkf _ _ _ => true
  | .sls _ _ _ => true
  | .fld _ _ _ _ => true
  | .iaa _ _ _ _ => true
  | .ixa _ _ _ _ _ => true
  | .ixs _ _ => true
  | .ext _ _ => true
  | .mkif _ _ => true
  | .len _ => true
  | .lens _ => true
  | .mnx _ _ _ => true
  | .isni _ _ => true
  | _ => false
/-- a load that may come later: from which temporary, what it came to, over how many writes -/
structure Mob where
  ag : Bool
  n : Nat
  t : Nat
  v : AV
  c : Nat
def freshM (d : Option Nat) : List Mob → Bool
  | [] => true
  | m :: r => (match d with | some d => !Nat.beq d m.t | none => true) && freshM d r
def decM : List Mob → List Mob
  | [] => []
  | m :: r => match m.c with
    | 0 => decM r
    | 1 => decM r
    | c + 2 => { m with c := c + 1 } :: decM r
def plainO (N k lo hi : Nat) (o : AOp) : Bool := (Nat.beq lo k && Nat.beq hi k) || (blindOp o && Nat.ble hi N)
def addM (N k lo hi : Nat) (o : AOp) (v : AV) (ms : List Mob) : List Mob :=
  bif plainO N k lo hi o then ms else match o with
    | .ld ag n (.t t) => ⟨ag, n, t, v, hi - k⟩ :: ms
    | _ => ms
def lateO (N k lo hi : Nat) (d : Option Nat) : AOp → Bool
  | .ld _ _ (.t t) => Nat.beq lo k && Nat.ble hi N && (match d with | some d => !Nat.beq d t | none => true)
  | _ => false
/-- a load that may have come earlier: from where, what it comes to, since when -/
structure Eob where
  ag : Bool
  n : Nat
  a : AV
  v : AV
  lo : Nat
/-- one order of them: N writes in all, k of them done -/
def opsT (tb : Tab) (cl : Nat → List AV → Heap → Out) (N : Nat) : Nat → List Mob → List Eob → List AOper → List (Option (Nat × Nat)) → Fr → Heap → Fr × Heap → Prop
  | k, _, _, [], [], f, h, p => k = N ∧ p = (f, h)
  | k, ms, es, ⟨d, g, o⟩ :: l, none :: w, f, h, p => (wanted f g = some true ∧ ∃ q es', aop tb cl (eval tb f) h o = some q ∧ freshM d ms = true ∧
      (∀ m ∈ ms, 0 < m.c → aop tb cl (eval tb (put f d q.1)) (q.2.getD h) (.ld m.ag m.n (.t m.t)) = some (m.v, none)) ∧
      (∀ e ∈ es', (e ∈ es ∨ e.lo = k) ∧ load h e.ag e.n e.a = some e.v) ∧ opsT tb cl N (k + 1) (decM ms) es' l w (put f d q.1) (q.2.getD h) p) ∨
      (wanted f g = some false ∧ ms = [] ∧ opsT tb cl N (k + 1) [] [] l w (put f d (.tup [])) h p)
  | k, ms, es, ⟨d, g, o⟩ :: l, some (lo, hi) :: w, f, h, p => (wanted f g = some true ∧ ∃ q, aop tb cl (eval tb f) h o = some q ∧ q.2.getD h = h ∧ freshM d ms = true ∧
      (((plainO N k lo hi o || lateO N k lo hi d o) = true ∧ opsT tb cl N k (addM N k lo hi o q.1 ms) es l w (put f d q.1) h p) ∨
       (hi = k ∧ (∃ e ∈ es, ∃ t, o = .ld e.ag e.n (.t t) ∧ get f t = e.a ∧ q.1 = e.v ∧ e.lo ≤ lo) ∧ opsT tb cl N k ms es l w (put f d q.1) h p))) ∨
      (wanted f g = some false ∧ freshM d ms = true ∧ opsT tb cl N k ms es l w (put f d (.tup [])) h p)
  | _, _, _, _, _, _, _, _ => False

section
variable {tb : Tab} {cl : Nat → List AV → Heap → Out}
theorem aop_blind {o : AOp} (ho : blindOp o = true) {rho : AO → AV} {h h' : Heap} : aop tb cl rho h o = aop tb cl rho h' o := by
  cases o <;> first | (simp only [blindOp, Bool.false_eq_true] at ho; done) | rfl
theorem val_none {x : Option AV} {p : AV × Option Heap} (e : val x = some p) : p.2 = none := by
  obtain ⟨v, _, rfl⟩ := Option.map_eq_some_iff.1 e; rfl
theorem map_none {α : Type} {x : Option α} {f : α → AV} {p : AV × Option Heap} (e : x.map (fun a => (f a, (none : Option Heap))) = some p) : p.2 = none := by
  obtain ⟨v, _, rfl⟩ := Option.map_eq_some_iff.1 e; rfl
theorem bind_none {α : Type} {x : Option α} {f : α → Out} {p : AV × Option Heap} (h : ∀ a, f a = some p → p.2 = none) (e : x.bind f = some p) : p.2 = none := by
  obtain ⟨v, _, e⟩ := Option.bind_eq_some_iff.1 e; exact h v e
theorem aop_none {o : AOp} (ho : blindOp o = true) {rho : AO → AV} {h : Heap} {p : AV × Option Heap} (e : aop tb cl rho h o = some p) : p.2 = none := by
  cases o <;> first | (simp only [blindOp, Bool.false_eq_true] at ho; done) | skip
  case mv => simp only [aop, Option.some.injEq] at e; subst e; rfl
  case pick => simp only [aop] at e; split at e <;> first | (cases e; rfl) | cases e
  case bld => exact val_none e
  case bll => exact val_none e
  case nilc => simp only [aop] at e; split at e <;> first | (cases e; rfl) | cases e
  case bin => exact val_none e
  case eq => exact val_none e
  case un => exact val_none e
  case cvi => simp only [aop] at e; split at e <;> first | (cases e; rfl) | cases e
  case cvid => simp only [aop] at e; split at e <;> first | (cases e; rfl) | cases e
  case cvc => simp only [aop] at e; split at e <;> first | (cases e; rfl) | cases e
  case mkf => simp only [aop, Option.some.injEq] at e; subst e; rfl
  case sls => simp only [aop] at e; split at e <;> first | exact map_none e | cases e
  case fa => exact val_none e
  case fld => simp only [aop] at e; split at e <;> first | cases e | (split at e <;> first | exact val_none e | cases e)
  case iaa => exact bind_none (fun a e => by split at e <;> first | exact val_none e | cases e) e
  case ixa => exact bind_none (fun a e => by split at e <;> first | cases e | (split at e <;> first | exact val_none e | cases e)) e
  case ixs => exact bind_none (fun a e => by split at e <;> first | cases e | (split at e <;> first | exact map_none e | cases e)) e
  case ext => simp only [aop] at e; split at e <;> first | exact val_none e | cases e
  case mkif => simp only [aop, Option.some.injEq] at e; subst e; rfl
  case len => exact map_none e
  case lens => simp only [aop] at e; split at e <;> first | (cases e; rfl) | cases e
  case isni => simp only [aop] at e; split at e <;> first | (cases e; rfl) | cases e
  case mnx => simp only [aop] at e; split at e <;> first | cases e | (split at e <;> first | (cases e; rfl) | cases e)
theorem blind_same {o : AOp} (ho : blindOp o = true) {rho : AO → AV} {h h' : Heap} {p : AV × Option Heap} (e : aop tb cl rho h o = some p) : aop tb cl rho h' o = some (p.1, none) := by
  rw [aop_blind ho (h' := h), e]
  have := aop_none ho e
  obtain ⟨a, b⟩ := p
  simp only at this
  rw [this]
theorem freshM_eval {d : Option Nat} {f : Fr} {v : AV} : ∀ {ms : List Mob}, freshM d ms = true → ∀ m ∈ ms, eval tb (put f d v) (.t m.t) = eval tb f (.t m.t)
  | [], _, m, hm => by cases hm
  | q :: r, h, m, hm => by
    simp only [freshM, Bool.and_eq_true] at h
    rcases List.mem_cons.1 hm with rfl | hm
    · cases d with
      | none => rfl
      | some d =>
        have := h.1
        simp only [Bool.not_eq_true'] at this
        simp only [eval, put, get]
        rw [if_neg fun e => by rw [e, Nat.beq_refl] at this; cases this]
    · exact freshM_eval h.2 m hm
theorem ld_eval {f g : Fr} {h : Heap} {ag : Bool} {n t : Nat} (e : eval tb f (.t t) = eval tb g (.t t)) : aop tb cl (eval tb f) h (.ld ag n (.t t)) = aop tb cl (eval tb g) h (.ld ag n (.t t)) := by
  simp only [aop, e]
/-- the loads that may come later come to the same -/
def Keeps (tb : Tab) (cl : Nat → List AV → Heap → Out) (f : Fr) (tl : List Heap) (m : Mob) : Prop := ∀ i h', i < m.c → tl[i]? = some h' → aop tb cl (eval tb f) h' (.ld m.ag m.n (.t m.t)) = some (m.v, none)
theorem decM_mem : ∀ {ms : List Mob} {m : Mob}, m ∈ ms → 1 < m.c → { m with c := m.c - 1 } ∈ decM ms
  | q :: r, m, hm, hc => by
    rcases List.mem_cons.1 hm with rfl | hm
    · obtain ⟨ag, n, t, v, c⟩ := m
      match c, hc with
      | c + 2, _ => simp [decM]
    · have := decM_mem hm hc
      simp only [decM]
      split
      · exact this
      · exact this
      · exact List.mem_cons_of_mem _ this
theorem addM_mem {N k lo hi : Nat} {o : AOp} {v : AV} {ms : List Mob} {m : Mob} (h : m ∈ ms) : m ∈ addM N k lo hi o v ms := by
  simp only [addM]
  cases plainO N k lo hi o with
  | true => exact h
  | false => simp only [cond_false]; split <;> simp [h]
theorem lateO_spec {N k lo hi : Nat} {d : Option Nat} {o : AOp} (h : lateO N k lo hi d o = true) : ∃ ag n t, o = .ld ag n (.t t) ∧ lo = k ∧ hi ≤ N ∧ d ≠ some t := by
  match o, h with
  | .ld ag n (.t t), h =>
    simp only [lateO, Bool.and_eq_true] at h
    refine ⟨ag, n, t, rfl, Nat.eq_of_beq_eq_true h.1.1, Nat.le_of_ble_eq_true h.1.2, ?_⟩
    rintro rfl
    have := h.2
    simp only [Nat.beq_refl, Bool.not_true, Bool.false_eq_true] at this
open Classical in
theorem opsT_spec {N : Nat} : ∀ {l : List AOper} {k : Nat} {ms : List Mob} {es : List Eob} {w : List (Option (Nat × Nat))} {f : Fr} {h : Heap} {f' : Fr} {h' : Heap}, opsT tb cl N k ms es l w f h (f', h') →
    ∃ tl, heaps tb cl l w f h = some (h :: tl) ∧ (h :: tl).getLast? = some h' ∧ k + tl.length = N ∧ (∀ m ∈ ms, Keeps tb cl f tl m) ∧ ∀ (pre : List Heap), pre.length = k → (∀ e ∈ es, ∀ j g, e.lo ≤ j → pre[j]? = some g → load g e.ag e.n e.a = some e.v) → opsD tb cl (pre ++ h :: tl) l w k f = some f'
  | [], k, ms, es, w, f, h, f', h', e => by
    cases w with
    | nil =>
      simp only [opsT, Prod.mk.injEq] at e
      obtain ⟨hk, rfl, rfl⟩ := e
      exact ⟨[], by simp [heaps], rfl, by simpa using hk, fun m _ i h' _ hi => by simp at hi, fun pre hp _ => by simp [opsD, hp]⟩
    | cons => simp [opsT] at e
  | ⟨d, g, o⟩ :: l, k, ms, es, [], f, h, f', h', e => by simp [opsT] at e
  | ⟨d, gd, o⟩ :: l, k, ms, es, none :: w, f, h, f', h', e => by
    simp only [opsT] at e
    rcases e with ⟨hwt, p, es', hp, hc1, hc2, hc3, e⟩ | ⟨hwt, rfl, e⟩
    rotate_left
    · obtain ⟨tl, h1, h2, h3, h4, h5⟩ := opsT_spec e
      refine ⟨h :: tl, ?_, ?_, by simp; omega, (fun m hm => absurd hm (by simp)), fun pre hpre hes => ?_⟩
      · simp [heaps, hwt, h1]
      · simpa using h2
      · have h6 := h5 (pre ++ [h]) (by simp [hpre]) (fun x hx => absurd hx (by simp))
        simp only [List.append_assoc, List.singleton_append] at h6
        have g0 : (pre ++ h :: h :: tl)[k]? = some h := by rw [← hpre, List.getElem?_append_right (Nat.le_refl _), Nat.sub_self]; rfl
        have g1 : (pre ++ h :: h :: tl)[k + 1]? = some h := by rw [← hpre, List.getElem?_append_right (by omega), Nat.add_sub_cancel_left]; rfl
        simp only [opsD, hwt, Option.bind_some, Bool.false_eq_true, if_false, g0, g1, if_true]
        exact h6
    obtain ⟨tl, h1, h2, h3, h4, h5⟩ := opsT_spec e
    refine ⟨p.2.getD h :: tl, ?_, ?_, by simp; omega, ?_, fun pre hpre hes => ?_⟩
    · simp [heaps, hwt, hp, h1]
    · simpa using h2
    · intro m hm i h' hi hg
      have he := freshM_eval (tb := tb) (f := f) (v := p.1) hc1 m hm
      rw [ld_eval he.symm]
      cases i with
      | zero =>
        simp only [List.getElem?_cons_zero, Option.some.injEq] at hg
        subst hg
        exact hc2 m hm (by omega)
      | succ i =>
        simp only [List.getElem?_cons_succ] at hg
        exact h4 _ (decM_mem hm (by omega)) i h' (by simp only; omega) hg
    · have h6 := h5 (pre ++ [h]) (by simp [hpre]) (fun x hx j g hj hg => by
        rcases Nat.lt_or_ge j pre.length with hlt | hge
        · rw [List.getElem?_append_left hlt] at hg
          rcases (hc3 x hx).1 with hx' | hx'
          · exact hes x hx' j g hj hg
          · omega
        · rw [List.getElem?_append_right hge] at hg
          have : j - pre.length = 0 := by
            rcases Nat.eq_zero_or_pos (j - pre.length) with h | h
            · exact h
            · rw [List.getElem?_eq_none (by simp; omega)] at hg; cases hg
          rw [this] at hg
          simp only [List.getElem?_cons_zero, Option.some.injEq] at hg
          subst hg
          exact (hc3 x hx).2)
      simp only [List.append_assoc, List.singleton_append] at h6
      have g0 : (pre ++ h :: p.2.getD h :: tl)[k]? = some h := by rw [← hpre, List.getElem?_append_right (Nat.le_refl _), Nat.sub_self]; rfl
      have g1 : (pre ++ h :: p.2.getD h :: tl)[k + 1]? = some (p.2.getD h) := by rw [← hpre, List.getElem?_append_right (by omega), Nat.add_sub_cancel_left]; rfl
      simp only [opsD, hwt, Option.bind_some, if_true, g0, hp, g1]
      exact h6
  | ⟨d, gd, o⟩ :: l, k, ms, es, some (lo, hi) :: w, f, h, f', h', e => by
    simp only [opsT] at e
    rcases e with ⟨hwt, p, hp, hu, hfr, e⟩ | ⟨hwt, hfr, e⟩
    rotate_left
    · obtain ⟨tl, h1, h2, h3, h4, h5⟩ := opsT_spec e
      refine ⟨tl, ?_, h2, h3, fun m hm i h' hi hg => ?_, fun pre hpre hes => ?_⟩
      · simp [heaps, hwt, h1]
      · have he := freshM_eval (tb := tb) (f := f) (v := .tup []) hfr m hm
        rw [ld_eval he.symm]
        exact h4 m hm i h' hi hg
      · have h6 := h5 pre hpre hes
        simp only [opsD, hwt, Option.bind_some, Bool.false_eq_true, if_false]
        exact h6
    rcases e with ⟨hpl, e⟩ | ⟨hhi0, ⟨x, hx, t0, hxo, hxa, hxv, hxl⟩, e⟩
    · obtain ⟨tl, h1, h2, h3, h4, h5⟩ := opsT_spec e
      have hms : ∀ m ∈ ms, Keeps tb cl f tl m := fun m hm i h' hi hg => by
        have he := freshM_eval (tb := tb) (f := f) (v := p.1) hfr m hm
        rw [ld_eval he.symm]
        exact h4 m (addM_mem hm) i h' hi hg
      refine ⟨tl, ?_, h2, h3, hms, fun pre hpre hes => ?_⟩
      · simp [heaps, hwt, hp, hu, h1]
      · have h6 := h5 pre hpre hes
        have g0 : (pre ++ h :: tl)[k]? = some h := by rw [← hpre, List.getElem?_append_right (Nat.le_refl _), Nat.sub_self]; rfl
        have hlen : (pre ++ h :: tl).length = N + 1 := by simp [hpre]; omega
        have hk : ∀ j, lo ≤ j → j < lo + (hi + 1 - lo) → ∃ u, ((pre ++ h :: tl)[j]?).bind (fun h => aop tb cl (eval tb f) h o) = some (p.1, u) ∧ some (u.getD ((pre ++ h :: tl)[j]?.getD [])) = (pre ++ h :: tl)[j]? := by
          intro j hj1 hj2
          simp only [Bool.or_eq_true] at hpl
          cases hP : plainO N k lo hi o with
          | true =>
            have hP' := hP
            simp only [plainO, Bool.or_eq_true, Bool.and_eq_true] at hP'
            rcases hP' with ⟨hlo, hhi⟩ | ⟨hb, hle⟩
            · have hlo := Nat.eq_of_beq_eq_true hlo
              have hhi := Nat.eq_of_beq_eq_true hhi
              obtain rfl : j = k := by omega
              exact ⟨p.2, by rw [g0, Option.bind_some, hp], by rw [g0]; simp [hu]⟩
            · have hle := Nat.le_of_ble_eq_true hle
              have hj : j < (pre ++ h :: tl).length := by omega
              rw [List.getElem?_eq_getElem hj]
              exact ⟨none, by rw [Option.bind_some]; exact blind_same hb hp, rfl⟩
          | false =>
            have hL : lateO N k lo hi d o = true := hpl.resolve_left (by rw [hP]; simp)
            obtain ⟨ag, n, t, rfl, hlo, hhi, hd⟩ := lateO_spec hL
            have hp2 : p.2 = none := val_none hp
            rcases Nat.lt_or_ge k j with hkj | hkj
            · have hm : (⟨ag, n, t, p.1, hi - k⟩ : Mob) ∈ addM N k lo hi (.ld ag n (.t t)) p.1 ms := by
                simp only [addM, hP, cond_false]; simp
              have hj : j < (pre ++ h :: tl).length := by omega
              have hjt : (pre ++ h :: tl)[j]? = tl[j - k - 1]? := by
                rw [List.getElem?_append_right (by omega), hpre, show j - k = (j - k - 1) + 1 by omega, List.getElem?_cons_succ]; rfl
              have hjl : j - k - 1 < tl.length := by simp [hpre] at hlen; omega
              rw [hjt, List.getElem?_eq_getElem hjl]
              have := h4 _ hm (j - k - 1) _ (by simp only; omega) (List.getElem?_eq_getElem hjl)
              have he : eval tb (put f d p.1) (.t t) = eval tb f (.t t) := by
                cases d with
                | none => rfl
                | some d =>
                  simp only [eval, put, get]
                  rw [if_neg fun e => hd (by rw [e])]
              rw [ld_eval he] at this
              exact ⟨none, by rw [Option.bind_some]; exact this, rfl⟩
            · obtain rfl : j = k := by omega
              exact ⟨p.2, by rw [g0, Option.bind_some, hp], by rw [g0]; simp [hu]⟩
        simp only [opsD, hwt, Option.bind_some, if_true, g0, hp]
        rw [if_pos (by
          rw [List.all_eq_true]
          intro j hj
          rw [List.mem_range'_1] at hj
          exact decide_eq_true (hk j hj.1 hj.2))]
        exact h6
    · obtain ⟨tl, h1, h2, h3, h4, h5⟩ := opsT_spec e
      have hms : ∀ m ∈ ms, Keeps tb cl f tl m := fun m hm i h' hi hg => by
        have he := freshM_eval (tb := tb) (f := f) (v := p.1) hfr m hm
        rw [ld_eval he.symm]
        exact h4 m hm i h' hi hg
      refine ⟨tl, ?_, h2, h3, hms, fun pre hpre hes => ?_⟩
      · simp [heaps, hwt, hp, hu, h1]
      · have h6 := h5 pre hpre hes
        have g0 : (pre ++ h :: tl)[k]? = some h := by rw [← hpre, List.getElem?_append_right (Nat.le_refl _), Nat.sub_self]; rfl
        have hk : ∀ j, lo ≤ j → j < lo + (hi + 1 - lo) → ∃ u, ((pre ++ h :: tl)[j]?).bind (fun h => aop tb cl (eval tb f) h o) = some (p.1, u) ∧ some (u.getD ((pre ++ h :: tl)[j]?.getD [])) = (pre ++ h :: tl)[j]? := by
          intro j hj1 hj2
          rcases Nat.lt_or_ge j k with hjk | hjk
          · have hjp : j < pre.length := by omega
            rw [List.getElem?_append_left hjp, List.getElem?_eq_getElem hjp]
            have := hes x hx j pre[j] (by omega) (List.getElem?_eq_getElem hjp)
            refine ⟨none, ?_, rfl⟩
            rw [Option.bind_some, hxo, hxv]
            simp only [aop, eval, hxa, this, val, Option.map_some]
          · obtain rfl : j = k := by omega
            exact ⟨p.2, by rw [g0, Option.bind_some, hp], by rw [g0]; simp [hu]⟩
        simp only [opsD, hwt, Option.bind_some, if_true, g0, hp]
        rw [if_pos (by
          rw [List.all_eq_true]
          intro j hj
          rw [List.mem_range'_1] at hj
          exact decide_eq_true (hk j hj.1 hj.2))]
        exact h6
theorem exec_regd {l : List AOper} {w : List (Option (Nat × Nat))} {f : Fr} {h : Heap} {n : Nat} {p : Fr × Heap} (e : opsT tb cl n 0 [] [] l w f h p) :
    exec tb cl (.regd l w) f h = some (.normal, p.1, p.2) := by
  obtain ⟨tl, h1, h2, h3, h4, h5⟩ := opsT_spec (f' := p.1) (h' := p.2) e
  have h6 := h5 [] rfl (fun e he => by cases he)
  simp only [List.nil_append] at h6
  simp only [exec, h1, Option.bind_some, List.tail_cons, h6, h2, Option.map_some]
end

/-- a load that may come later: what is known of it, which temporary holds it -/
structure Ob where
  ag : Bool
  n : Nat
  t : Nat
  d : Nat
  φ : Fact
  c : Nat
def decB : List Ob → List Ob
  | [] => []
  | m :: r => match m.c with
    | 0 => decB r
    | 1 => decB r
    | c + 2 => { m with c := c + 1 } :: decB r
def freshB (d : Option Nat) : List Ob → Bool
  | [] => true
  | m :: r => (match d with | some d => !Nat.beq d m.t && !Nat.beq d m.d | none => true) && freshB d r
/-- a type whose cells are known -/
def T.Uni (t : T) : Prop := ∀ {P Q : Nat → Prop} {H G : Heap} {cs ds : List AV} {x : t.α}, t.R P H cs x → t.R Q G ds x → cs = ds
theorem T.sc_Uni {α : Type} {c : α → AV} {z : α} {hs hm} : (T.sc α c z hs hm).Uni := fun h g => h.trans g.symm
theorem uni_b : T.b.Uni := T.sc_Uni
theorem uni_int {k : IntKind} : (T.int k).Uni := T.sc_Uni
theorem uni_u8 : T.u8.Uni := T.sc_Uni
theorem uni_u16 : T.u16.Uni := T.sc_Uni
theorem uni_u32 : T.u32.Uni := T.sc_Uni
theorem uni_u64 : T.u64.Uni := T.sc_Uni
theorem uni_str : T.str.Uni := T.sc_Uni
theorem T.Uni.prod {a b : T} (h : a.Uni) (g : b.Uni) : (T.prod a b).Uni := by
  rintro P Q H G cs ds x ⟨c, d, e, h1, h2⟩ ⟨c', d', e', h1', h2'⟩
  rw [e, e', h h1 h1', g h2 h2']
theorem T.Uni.iso {t : T} {β : Type} {f : β → t.α} {g : t.α → β} {hfg : ∀ y, f (g y) = y} (h : t.Uni) : (T.iso t β f g hfg).Uni := fun r r' => h r r'
theorem AllR.uni {t : T} (h : t.Uni) {P Q : Nat → Prop} {H G : Heap} : ∀ {c d : List (List AV)} {x : List t.α}, AllR t P H c x → AllR t Q G d x → c = d
  | [], [], [], _, _ => rfl
  | _ :: _, _ :: _, _ :: _, h1, h2 => by rw [h h1.1 h2.1, AllR.uni h h1.2 h2.2]
  | [], _ :: _, [], _, h2 => h2.elim
  | _ :: _, _, [], h1, _ => h1.elim
  | [], _, _ :: _, h1, _ => h1.elim
  | _ :: _, [], _ :: _, _, h2 => h2.elim
theorem T.Uni.arr {n : Nat} {t : T} (h : t.Uni) : (T.arr n t).Uni := by
  rintro P Q H G cs ds x ⟨c, e, h1⟩ ⟨c', e', h1'⟩
  rw [e, e', h1.uni h h1']
theorem T.Uni.V {t : T} (h : t.Uni) {P Q : Nat → Prop} {H G : Heap} {v w : AV} {x : t.α} (r : t.V P H v x) (r' : t.V Q G w x) : v = w := by
  rcases r with ⟨ha, cs, rfl, r⟩ | ⟨ha, r⟩
  · rcases r' with ⟨_, ds, rfl, r'⟩ | ⟨hb, _⟩
    · rw [h r r']
    · rw [ha] at hb; cases hb
  · rcases r' with ⟨hb, _⟩ | ⟨_, r'⟩
    · rw [ha] at hb; cases hb
    · have := h r r'
      simpa using this
/-- what is known tells which value it is -/
def Fact.Uni : Fact → Prop
  | .val t _ => t.Uni
  | .own _ => True
  | .cp _ _ => True
  | .ep _ _ _ => True
  | .oc _ _ _ _ => True
  | .con _ => True
  | .kv _ => True
  | .fnv _ _ _ => True
  | _ => False
theorem Fact.Uni.eq {φ : Fact} (h : φ.Uni) {rv : Nat → AV} {ss : Ss} {P Q : Nat → Prop} {H G : Heap} {v w : AV} (r : FR rv ss P H φ v) (r' : FR rv ss Q G φ w) : v = w := by
  cases φ <;> simp only [Fact.Uni] at h
  case val t x => exact T.Uni.V h r r'
  case own j => exact r.2.trans r'.2.symm
  case cp j o =>
    obtain ⟨_, id, e, rfl⟩ := r
    obtain ⟨_, id', e', rfl⟩ := r'
    rw [e] at e'; cases e'; rfl
  case ep j i o =>
    obtain ⟨_, id, n, e, _, rfl⟩ := r
    obtain ⟨_, id', n', e', _, rfl⟩ := r'
    rw [e] at e'; cases e'; rfl
  case oc j o s n =>
    obtain ⟨_, id, e, rfl⟩ := r
    obtain ⟨_, id', e', rfl⟩ := r'
    rw [e] at e'; cases e'; rfl
  case con c => exact r.1.trans r'.1.symm
  case kv j => exact r.2.trans r'.2.symm
  case fnv f js ks => exact r.2.trans r'.2.symm
/-- they come to the same still -/
inductive ObOk (tb : Tab) (Γ : Cx) : List Ob → Prop where
  | nil : ObOk tb Γ []
  | cons {ag : Bool} {n t d c : Nat} {φ : Fact} {l : List Ob} (h : OpH tb Γ (.ld ag n (.t t)) (some ()) fun _ => φ) (hd : OpF tb Γ (.t d) φ) (hu : φ.Uni) (r : ObOk tb Γ l) : ObOk tb Γ (⟨ag, n, t, d, φ, c⟩ :: l)
inductive ObR (f : Fr) : List Ob → List Mob → Prop where
  | nil : ObR f [] []
  | cons {ag : Bool} {n t d c : Nat} {φ : Fact} {v : AV} {l : List Ob} {ms : List Mob} (h : get f d = v) (r : ObR f l ms) : ObR f (⟨ag, n, t, d, φ, c⟩ :: l) (⟨ag, n, t, v, c⟩ :: ms)
theorem ObR.dec {f : Fr} : ∀ {l : List Ob} {ms : List Mob}, ObR f l ms → ObR f (decB l) (decM ms)
  | _, _, .nil => .nil
  | _, _, .cons (c := c) h r => by
    match c with
    | 0 => exact r.dec
    | 1 => exact r.dec
    | c + 2 => exact .cons h r.dec
theorem ObR.fresh {d : Option Nat} {f : Fr} : ∀ {l : List Ob} {ms : List Mob}, ObR f l ms → freshB d l = true → freshM d ms = true
  | _, _, .nil, _ => rfl
  | _, _, .cons h r, e => by
    simp only [freshB, Bool.and_eq_true] at e
    simp only [freshM, Bool.and_eq_true]
    refine ⟨?_, r.fresh e.2⟩
    cases d with
    | none => rfl
    | some d => have := e.1; simp only [Bool.and_eq_true] at this; exact this.1
theorem ObR.put {d : Option Nat} {f : Fr} {w : AV} : ∀ {l : List Ob} {ms : List Mob}, ObR f l ms → freshB d l = true → ObR (put f d w) l ms
  | _, _, .nil, _ => .nil
  | _, _, .cons h r, e => by
    simp only [freshB, Bool.and_eq_true] at e
    refine .cons ?_ (r.put e.2)
    cases d with
    | none => exact h
    | some d =>
      have := e.1
      simp only [Bool.and_eq_true, Bool.not_eq_true'] at this
      simp only [Am.put, get]
      rw [if_neg fun e => by rw [e, Nat.beq_refl] at this; cases this.2]
      exact h
theorem ObOk.spec {tb : Tab} {Γ : Cx} {E : Env} {rv : Nat → AV} {fp : Fp} {f : Fr} {H : Heap} (I : RelI E Γ rv fp f H) : ∀ {l : List Ob} {ms : List Mob}, ObOk tb Γ l → ObR f l ms → ∀ m ∈ ms, 0 < m.c → aop tb (den tb) (eval tb f) H (.ld m.ag m.n (.t m.t)) = some (m.v, none)
  | _, _, .nil, .nil, m, hm, _ => by cases hm
  | _, _, .cons h hd hu r, .cons h' r', m, hm, hc => by
    rcases List.mem_cons.1 hm with rfl | hm
    · obtain ⟨v, u, h1, h2, h3⟩ := h E rv fp f H I () rfl
      have := hu.eq h3 (hd E rv fp f H I)
      subst this
      rw [h1]
      have : u = none := val_none (p := (_, u)) h1
      rw [this, ← h']; rfl
    · exact ObOk.spec I r r' m hm hc

/-- a load that may have come earlier: from the variable that a temporary leads to -/
structure Cb where
  ag : Bool
  n : Nat
  t : Nat
  off : Nat
  lo : Nat
  u : T
  x : u.α
def freshC (d : Option Nat) : List Cb → Bool
  | [] => true
  | m :: r => (match d with | some d => !Nat.beq d m.t | none => true) && freshC d r
inductive CR (f : Fr) : List Cb → List Eob → Prop where
  | nil : CR f [] []
  | cons {ag : Bool} {n t off lo id o : Nat} {u : T} {x : u.α} {v a : AV} {l : List Cb} {es : List Eob} {P : Nat → Prop} {H : Heap} (h0 : get f t = .ptr id o) (ha : a = .ptr id (o + off)) (h : u.V P H v x) (r : CR f l es) :
      CR f (⟨ag, n, t, off, lo, u, x⟩ :: l) (⟨ag, n, a, v, lo⟩ :: es)
theorem CR.put {d : Option Nat} {f : Fr} {w : AV} : ∀ {l : List Cb} {es : List Eob}, CR f l es → freshC d l = true → CR (put f d w) l es
  | _, _, .nil, _ => .nil
  | _, _, .cons h0 ha h r, e => by
    simp only [freshC, Bool.and_eq_true] at e
    refine .cons ?_ ha h (r.put e.2)
    cases d with
    | none => exact h0
    | some d =>
      have := e.1
      simp only [Bool.not_eq_true'] at this
      simp only [Am.put, get]
      rw [if_neg fun e => by rw [e, Nat.beq_refl] at this; cases this]
      exact h0
theorem CR.find {f : Fr} : ∀ {l : List Cb} {es : List Eob} {i : Nat} {c : Cb}, CR f l es → l[i]? = some c → ∃ e ∈ es, e.ag = c.ag ∧ e.n = c.n ∧ e.lo = c.lo ∧ (∃ id o, get f c.t = .ptr id o ∧ e.a = .ptr id (o + c.off)) ∧ ∃ P H, c.u.V P H e.v c.x
  | _, _, i, c, .nil, h => by simp at h
  | _, _, 0, c, .cons h0 ha h r, hc => by
    simp only [List.getElem?_cons_zero, Option.some.injEq] at hc
    subst hc
    exact ⟨_, List.mem_cons_self, rfl, rfl, rfl, ⟨_, _, h0, ha⟩, _, _, h⟩
  | _, _, i + 1, c, .cons h0 ha h r, hc => by
    simp only [List.getElem?_cons_succ] at hc
    obtain ⟨e, he, g⟩ := r.find hc
    exact ⟨e, List.mem_cons_of_mem _ he, g⟩
/-- what such a load comes to now -/
def LdAt (Γ : Cx) (c : Cb) : Prop := ∃ j o ps N s y o', findT Γ.ts c.t = some (.cp j o) ∧ findS Γ.ss j = some (.cells ps) ∧ findP ps (o + c.off) = some (N, .val s y, o') ∧ ∃ F : Fld s c.u o', F.get y = c.x ∧ c.ag = c.u.agg ∧ c.n = c.u.sz
theorem LdAt.mk' {Γ : Cx} {ag : Bool} {n t off lo j o N o' : Nat} {ps : List (Nat × Fact)} {s u : T} {y : s.α} (F : Fld s u o') (h1 : findT Γ.ts t = some (.cp j o)) (h2 : findS Γ.ss j = some (.cells ps)) (h3 : findP ps (o + off) = some (N, .val s y, o')) (h4 : ag = u.agg) (h5 : n = u.sz) : LdAt Γ ⟨ag, n, t, off, lo, u, F.get y⟩ :=
  ⟨j, o, ps, N, s, y, o', h1, h2, h3, F, rfl, h4, h5⟩
theorem LdAt.spec {Γ : Cx} {c : Cb} {E : Env} {rv : Nat → AV} {fp : Fp} {f : Fr} {H : Heap} (h : LdAt Γ c) (R : RelI E Γ rv fp f H) : ∃ id o v, get f c.t = .ptr id o ∧ load H c.ag c.n (.ptr id (o + c.off)) = some v ∧ c.u.V (Pf E Γ.ss fp H) H v c.x := by
  obtain ⟨j, o, ps, N, s, y, o', h1, hj, hp, F, hx, hag, hn⟩ := h
  obtain ⟨l, id, e, hv⟩ := R.temps _ _ h1
  obtain ⟨cs, h0, h2, h3⟩ := cells_of R hj e
  obtain ⟨b', c', e0, e1, e2, e3, e4, e5, _⟩ := findP_spec h3 hp
  have hle := F.le
  have hl := s.len e4
  have hr := F.getR e4
  rw [← e5 o' c.u.sz (by omega), ← e1] at hr
  obtain ⟨v, g1, g2⟩ := T.V.of hr
  refine ⟨id, o, v, hv, ?_, by rw [← hx]; exact g2⟩
  rw [hag, hn]
  simp only [Am.load, place, h2, Option.map_some, Option.bind_some, if_pos (show o + c.off + c.u.sz ≤ cs.length by omega), g1]
/-- those that are promised over a write -/
inductive CbNext (Γ : Cx) (k : Nat) (C : List Cb) : List Cb → Prop where
  | nil : CbNext Γ k C []
  | new {c : Cb} {l : List Cb} (hk : c.lo = k) (h : LdAt Γ c) (r : CbNext Γ k C l) : CbNext Γ k C (c :: l)
  | old {c : Cb} {l : List Cb} (i : Nat) (hi : C[i]? = some c) (hu : c.u.Uni) (h : LdAt Γ c) (r : CbNext Γ k C l) : CbNext Γ k C (c :: l)
theorem CbNext.spec {Γ : Cx} {k : Nat} {C : List Cb} {es : List Eob} {E : Env} {rv : Nat → AV} {fp : Fp} {f : Fr} {H : Heap} (R : RelI E Γ rv fp f H) (hC : CR f C es) : ∀ {l : List Cb}, CbNext Γ k C l → ∃ es', CR f l es' ∧ ∀ e ∈ es', (e ∈ es ∨ e.lo = k) ∧ load H e.ag e.n e.a = some e.v
  | _, .nil => ⟨[], .nil, fun _ h => by cases h⟩
  | _, .new (c := c) hk h r => by
    obtain ⟨es', h1, h2⟩ := r.spec R hC
    obtain ⟨id, o, v, g1, g2, g3⟩ := h.spec R
    refine ⟨⟨c.ag, c.n, .ptr id (o + c.off), v, c.lo⟩ :: es', .cons g1 rfl g3 h1, fun e he => ?_⟩
    rcases List.mem_cons.1 he with rfl | he
    · exact ⟨.inr hk, g2⟩
    · exact h2 e he
  | _, .old (c := c) i hi hu h r => by
    obtain ⟨es', h1, h2⟩ := r.spec R hC
    obtain ⟨id, o, v, g1, g2, g3⟩ := h.spec R
    obtain ⟨e, he, e1, e2, e3, ⟨id', o', e4, e5⟩, P, H', e6⟩ := hC.find hi
    have hv : v = e.v := hu.V g3 e6
    rw [g1] at e4
    cases e4
    refine ⟨⟨c.ag, c.n, .ptr id (o + c.off), v, c.lo⟩ :: es', .cons g1 rfl g3 h1, fun x hx => ?_⟩
    rcases List.mem_cons.1 hx with rfl | hx
    · refine ⟨.inl ?_, g2⟩
      obtain ⟨ag, n, a, v', lo⟩ := e
      simp only at e1 e2 e3 e5 hv
      subst e1 e2 e3 e5 hv
      exact he
    · exact h2 x hx

structure SimD (tb : Tab) (Γ : Cx) (N k : Nat) (B : List Ob) (C : List Cb) (l : List AOper) (w : List (Option (Nat × Nat))) (ks : List Kf) {ρ : Type} (Q : Post ρ) where
  m : Option ρ
  ok : ∀ E f H, Rel E Γ f H → ∀ ms, ObR f B ms → ∀ es, CR f C es → ∀ r, m = some r → ∃ p e f' H', opsT tb (den tb) N k ms es l w f H p ∧ runk tb ks (.normal, p.1, p.2) = some (e, f', H') ∧ Q E r e f' H'

section
variable {tb : Tab} {Γ : Cx} {ks : List Kf} {ρ : Type} {Q : Post ρ} {w : List (Option (Nat × Nat))} {N k : Nat} {B : List Ob} {C C' : List Cb}
def Sim.regd {l : List AOper} (n : Nat) (s : SimD tb Γ n 0 [] [] l w ks Q) : Sim tb Γ (.regd l w) ks Q :=
  ⟨s.m, fun E f H R r hr => by
    obtain ⟨p, e, f', H', h1, h2, h3⟩ := s.ok E f H R [] .nil [] .nil r hr
    exact ⟨e, f', H', by rw [exec_regd h1]; exact h2, h3⟩⟩
def SimD.done (s : Sim tb Γ (rg false []) ks Q) : SimD tb Γ N N B C [] [] ks Q :=
  ⟨s.m, fun E f H R ms _ es _ r hr => by
    obtain ⟨e, f', H', h1, h2⟩ := s.ok E f H R r hr
    rw [exec_rg_nil] at h1
    exact ⟨(f, H), e, f', H', ⟨rfl, rfl⟩, h1, h2⟩⟩
def SimD.stop {l : List AOper} : SimD tb Γ N k B C l w ks Q := ⟨Option.none, fun _ _ _ _ _ _ _ _ _ h => (by cases h)⟩
def SimD.turn {l : List AOper} {Γ' : Cx} (h : ∀ E f H, Rel E Γ f H → Rel E Γ' f H) (s : SimD tb Γ' N k B C l w ks Q) : SimD tb Γ N k B C l w ks Q :=
  ⟨s.m, fun E f H R ms hms es hes r hr => s.ok E f H (h E f H R) ms hms es hes r hr⟩
def SimD.frzRow {l : List AOper} (j : Nat) {t : T} {g : GS t.α} (h : findS Γ.ss j = some (.row t g)) (hn : Nat.blt j parj = true) (s : SimD tb (Γ.turn j (rowF t g)) N k B C l w ks Q) : SimD tb Γ N k B C l w ks Q :=
  s.turn fun _ _ _ ⟨rv, fp, I⟩ => ⟨rv, fp, I.frzRow h hn⟩
variable {o : AOp} {l : List AOper} {y : Nat × Nat}
def chkD (N k : Nat) (B : List Ob) (C : List Cb) (y : Nat × Nat) (d : Option Nat) (o : AOp) : Bool := plainO N k y.1 y.2 o && (freshB d B && freshC d C)
theorem stepD {cl : Nat → List AV → Heap → Out} {d : Option Nat} {ms : List Mob} {es : List Eob} {f : Fr} {H : Heap} {v : AV} {u : Option Heap} {p : Fr × Heap} (hq : chkD N k B C y d o = true) (hms : ObR f B ms) (h1 : aop tb cl (eval tb f) H o = some (v, u)) (h2 : u.getD H = H)
    (g : opsT tb cl N k ms es l w (put f d v) H p) : opsT tb cl N k ms es (⟨d, none, o⟩ :: l) (some y :: w) f H p := by
  obtain ⟨lo, hi⟩ := y
  simp only [chkD, Bool.and_eq_true] at hq
  refine .inl ⟨rfl, (v, u), h1, h2, hms.fresh hq.2.1, .inl ⟨by rw [hq.1]; rfl, ?_⟩⟩
  simp only [addM, hq.1, cond_true]
  exact g
theorem chkD_fresh {d : Option Nat} (hq : chkD N k B C y d o = true) : freshB d B = true ∧ freshC d C = true := by
  simp only [chkD, Bool.and_eq_true] at hq; exact hq.2
def chkW (B : List Ob) (C' : List Cb) (d : Option Nat) : Bool := freshB d B && freshC d C'
theorem stepW {Γ' : Cx} {E : Env} {rv rv' : Nat → AV} {fp fp' : Fp} {d : Option Nat} {ms : List Mob} {es : List Eob} {f : Fr} {H : Heap} {v : AV} {u : Option Heap} (hq : chkW B C' d = true) (hb : ObOk tb Γ' B) (hc : CbNext Γ k C C') (hms : ObR f B ms) (hes : CR f C es) (I0 : RelI E Γ rv fp f H) (h1 : aop tb (den tb) (eval tb f) H o = some (v, u)) (I : RelI E Γ' rv' fp' (put f d v) (u.getD H)) :
    ∃ es', CR (put f d v) C' es' ∧ ∀ p, opsT tb (den tb) N (k + 1) (decM ms) es' l w (put f d v) (u.getD H) p → opsT tb (den tb) N k ms es (⟨d, none, o⟩ :: l) (none :: w) f H p := by
  simp only [chkW, Bool.and_eq_true] at hq
  obtain ⟨es', g1, g2⟩ := hc.spec I0 hes
  exact ⟨es', g1.put hq.2, fun p g => .inl ⟨rfl, (v, u), es', h1, hms.fresh hq.1, hb.spec I (hms.put hq.1), g2, g⟩⟩
def SimD.op {d : Nat} {β : Type} {a : Option β} {φ : β → Fact} (hq : chkD N k B C y (some d) o = true) (h : OpH tb Γ o a φ) (s : (b : β) → SimD tb (Γ.push d (φ b)) N k B C l w ks Q) : SimD tb Γ N k B C (⟨some d, none, o⟩ :: l) (some y :: w) ks Q :=
  ⟨a.bind fun b => (s b).m, fun E f H ⟨rv, fp, I⟩ ms hms es hes r hr => by
    obtain ⟨b, hb, hr⟩ := Option.bind_eq_some_iff.1 hr
    obtain ⟨v, u, h1, h2, h3⟩ := h E rv fp f H I b hb
    obtain ⟨p, e, f', H', g, g'⟩ := (s b).ok E (put f (some d) v) H ⟨rv, fp, I.push h3⟩ ms (hms.put (chkD_fresh hq).1) es (hes.put (chkD_fresh hq).2) r hr
    exact ⟨p, e, f', H', stepD hq hms h1 h2 g, g'⟩⟩
def SimD.op1 {d : Nat} {φ : Fact} (hq : chkD N k B C y (some d) o = true) (h : OpH tb Γ o (some ()) fun _ => φ) (s : SimD tb (Γ.push d φ) N k B C l w ks Q) : SimD tb Γ N k B C (⟨some d, none, o⟩ :: l) (some y :: w) ks Q :=
  ⟨s.m, (SimD.op hq h fun _ => s).ok⟩
def SimD.opn {d : Nat} {t : T} {x : t.α} (hq : chkD N k B C y (some d) o = true) (h : OpH tb Γ o (some ()) fun _ => .val t x) (s : (y : t.α) → SimD tb (Γ.push d (.val t y)) N k B C l w ks Q) : SimD tb Γ N k B C (⟨some d, none, o⟩ :: l) (some y :: w) ks Q :=
  SimD.op1 hq h (s x)
def SimD.opr {d : Nat} {t : T} {x : t.α} (hq : chkD N k B C y (some d) o = true) (h : OpH tb Γ o (some ()) fun _ => .rp t x) (s : (y : t.α) → SimD tb (Γ.push d (.rp t y)) N k B C l w ks Q) : SimD tb Γ N k B C (⟨some d, none, o⟩ :: l) (some y :: w) ks Q :=
  SimD.op1 hq h (s x)
/-- a load that may come later -/
def SimD.late {d n t lo hi : Nat} {ag : Bool} {φ : Fact} (hq : (!plainO N k lo hi (.ld ag n (.t t)) && (lateO N k lo hi (some d) (.ld ag n (.t t)) && (freshB (some d) B && freshC (some d) C))) = true) (h : OpH tb Γ (.ld ag n (.t t)) (some ()) fun _ => φ)
    (s : SimD tb (Γ.push d φ) N k (⟨ag, n, t, d, φ, hi - k⟩ :: B) C l w ks Q) : SimD tb Γ N k B C (⟨some d, none, .ld ag n (.t t)⟩ :: l) (some (lo, hi) :: w) ks Q :=
  ⟨s.m, fun E f H ⟨rv, fp, I⟩ ms hms es hes r hr => by
    obtain ⟨v, u', h1, h2, h3⟩ := h E rv fp f H I () rfl
    simp only [Bool.and_eq_true, Bool.not_eq_true'] at hq
    obtain ⟨p, e, f', H', h4, h5⟩ := s.ok E (put f (some d) v) H ⟨rv, fp, I.push h3⟩ (⟨ag, n, t, v, hi - k⟩ :: ms) (.cons (by simp [put, get]) (hms.put hq.2.2.1)) es (hes.put hq.2.2.2) r hr
    refine ⟨p, e, f', H', .inl ⟨rfl, (v, u'), h1, h2, hms.fresh hq.2.2.1, .inl ⟨by rw [hq.2.1]; simp, ?_⟩⟩, h5⟩
    simp only [addM, hq.1, cond_false]
    exact h4⟩
/-- a load that may have come earlier -/
def SimD.early {d n t lo hi t0 off lo0 : Nat} {ag : Bool} {u : T} {x : u.α} (i : Nat) {j o o0 : Nat} (hi0 : C[i]? = some ⟨ag, n, t0, off, lo0, u, x⟩) (ht : findT Γ.ts t = some (.cp j o)) (ht0 : findT Γ.ts t0 = some (.cp j o0)) (ho : o = o0 + off)
    (hq : (Nat.beq hi k && (Nat.ble lo0 lo && (freshB (some d) B && freshC (some d) C))) = true) (hu : u.Uni) (h : OpH tb Γ (.ld ag n (.t t)) (some ()) fun _ => .val u x)
    (s : SimD tb (Γ.push d (.val u x)) N k B C l w ks Q) : SimD tb Γ N k B C (⟨some d, none, .ld ag n (.t t)⟩ :: l) (some (lo, hi) :: w) ks Q :=
  ⟨s.m, fun E f H ⟨rv, fp, I⟩ ms hms es hes r hr => by
    obtain ⟨v, u', h1, h2, h3⟩ := h E rv fp f H I () rfl
    simp only [Bool.and_eq_true] at hq
    obtain ⟨p, e, f', H', h4, h5⟩ := s.ok E (put f (some d) v) H ⟨rv, fp, I.push h3⟩ ms (hms.put hq.2.2.1) es (hes.put hq.2.2.2) r hr
    obtain ⟨x', hx, e1, e2, e3, ⟨id, o', e4, e5⟩, P, H0, e6⟩ := hes.find hi0
    have hv : v = x'.v := hu.V h3 e6
    obtain ⟨_, id1, g1, g2⟩ := I.temps _ _ ht
    obtain ⟨_, id2, g3, g4⟩ := I.temps _ _ ht0
    rw [g1] at g3; cases g3
    have e4' : get f t0 = .ptr id o' := e4
    rw [g4] at e4'; cases e4'
    refine ⟨p, e, f', H', .inl ⟨rfl, (v, u'), h1, h2, hms.fresh hq.2.2.1, .inr ⟨Nat.eq_of_beq_eq_true hq.1, ⟨x', hx, t, ?_, ?_, hv, ?_⟩, h4⟩⟩, h5⟩
    · rw [e1, e2]
    · rw [g2, e5, ho]
    · have e3' : x'.lo = lo0 := e3
      rw [e3']; exact Nat.le_of_ble_eq_true hq.2.1⟩
def SimD.opM {d : Option Nat} {β : Type} {a : Option β} {Γ' : β → Cx} (hq : chkW B C' d = true) (hb : ∀ b, ObOk tb (Γ' b) B) (hc : CbNext Γ k C C') (h : OpM tb Γ d o a Γ') (s : (b : β) → SimD tb (Γ' b) N (k + 1) (decB B) C' l w ks Q) : SimD tb Γ N k B C (⟨d, none, o⟩ :: l) (none :: w) ks Q :=
  ⟨a.bind fun b => (s b).m, fun E f H ⟨rv, fp, I⟩ ms hms es hes r hr => by
    obtain ⟨b, hb', hr⟩ := Option.bind_eq_some_iff.1 hr
    obtain ⟨v, u, h1, rv', fp', h3⟩ := h E rv fp f H I b hb'
    obtain ⟨es', g1, g2⟩ := stepW (l := l) (w := w) (N := N) hq (hb b) hc hms hes I h1 h3
    have hq' := hq; simp only [chkW, Bool.and_eq_true] at hq'
    obtain ⟨p, e, f', H', g, g'⟩ := (s b).ok E _ _ ⟨rv', fp', h3⟩ _ (hms.put hq'.1).dec _ g1 r hr
    exact ⟨p, e, f', H', g2 p g, g'⟩⟩
/-! .. operations that might have written -/
def SimDW.op {d : Nat} {β : Type} {a : Option β} {φ : β → Fact} (hq : chkW B C' (some d) = true) (hb : ∀ b, ObOk tb (Γ.push d (φ b)) B) (hc : CbNext Γ k C C') (h : OpH tb Γ o a φ) (s : (b : β) → SimD tb (Γ.push d (φ b)) N (k + 1) (decB B) C' l w ks Q) : SimD tb Γ N k B C (⟨some d, none, o⟩ :: l) (none :: w) ks Q :=
  SimD.opM hq hb hc (a := a) (Γ' := fun b => Γ.push d (φ b)) (fun E rv fp f H I b hb' => by
    obtain ⟨v, u, h1, h2, h3⟩ := h E rv fp f H I b hb'
    exact ⟨v, u, h1, rv, fp, by rw [h2]; exact I.push h3⟩) s
def SimDW.op1 {d : Nat} {φ : Fact} (hq : chkW B C' (some d) = true) (hb : ObOk tb (Γ.push d φ) B) (hc : CbNext Γ k C C') (h : OpH tb Γ o (some ()) fun _ => φ) (s : SimD tb (Γ.push d φ) N (k + 1) (decB B) C' l w ks Q) : SimD tb Γ N k B C (⟨some d, none, o⟩ :: l) (none :: w) ks Q :=
  ⟨s.m, (SimDW.op hq (fun _ => hb) hc h fun _ => s).ok⟩
def SimDW.opn {d : Nat} {t : T} {x : t.α} (hq : chkW B C' (some d) = true) (hb : ObOk tb (Γ.push d (.val t x)) B) (hc : CbNext Γ k C C') (h : OpH tb Γ o (some ()) fun _ => .val t x) (s : (y : t.α) → SimD tb (Γ.push d (.val t y)) N (k + 1) (decB B) C' l w ks Q) : SimD tb Γ N k B C (⟨some d, none, o⟩ :: l) (none :: w) ks Q :=
  SimDW.op1 hq hb hc h (s x)
end
end Go.Proofs.YtobejhpigbllpaaGreatDoor.Am
