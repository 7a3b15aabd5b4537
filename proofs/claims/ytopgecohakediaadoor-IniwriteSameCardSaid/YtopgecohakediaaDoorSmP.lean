/-
  Regions whose order is drawn, where each operation that reads memory has one place.
-/
import Derived.Test.YtopgecohakediaaDoorSmN
namespace Go.Proofs.YtopgecohakediaaDoor.Am

/-- operations that do not look at the memory -/
def blindOp : AOp → Bool
  | .mv _ => true
  | .pick _ _ _ => true
  | .bld _ _ => true
  | .bll _ _ _ => true
  | .fa _ _ => true
  | .nilc _ => true
  | .bin _ _ _ => true
  | .eq _ _ _ _ => true
  | .un _ _ => true
  | .cvi _ _ => true
  | .cvid _ => true
  | .cvc _ => true
  | .mkf _ _ _ => true
  | .sls _ _ _ => true
  | .fld _ _ _ _ => true
  | .iaa _ _ _ _ => true
  | .ixa _ _ _ _ _ => true
  | .ixs _ _ => true
  | .ext _ _ => true
  | .mkif _ _ => true
  | .len _ => true
  | .lens _ => true
  | .mnx _ _ _ => true
  | _ => false
/-- a load that may come later: from which temporary, what it came to, over how many writes -/
structure Mob where
  ag : Bool
  n : Nat
  t : Nat
  v : AV
  c : Nat
def freshM (d : Option Nat) : List Mob → Bool
  | [] => true
  | m :: r => (match d with | some d => !Nat.beq d m.t | none => true) && freshM d r
def decM : List Mob → List Mob
  | [] => []
  | m :: r => match m.c with
    | 0 => decM r
    | 1 => decM r
    | c + 2 => { m with c := c + 1 } :: decM r
def plainO (N k lo hi : Nat) (o : AOp) : Bool := (Nat.beq lo k && Nat.beq hi k) || (blindOp o && Nat.ble hi N)
def addM (N k lo hi : Nat) (o : AOp) (v : AV) (ms : List Mob) : List Mob :=
  bif plainO N k lo hi o then ms else match o with
    | .ld ag n (.t t) => ⟨ag, n, t, v, hi - k⟩ :: ms
    | _ => ms
def lateO (N k lo hi : Nat) (d : Option Nat) : AOp → Bool
  | .ld _ _ (.t t) => Nat.beq lo k && Nat.ble hi N && (match d with | some d => !Nat.beq d t | none => true)
  | _ => false
open Classical in
/-- one order of them: N writes in all, k of them done -/
noncomputable def opsT (tb : Tab) (cl : Nat → List AV → Heap → Out) (N : Nat) : Nat → List Mob → List AOper → List (Option (Nat × Nat)) → Fr → Heap → Option (Fr × Heap)
  | k, _, [], [], f, h => if k = N then some (f, h) else none
  | k, ms, ⟨d, none, o⟩ :: l, none :: w, f, h => (aop tb cl (eval tb f) h o).bind fun p =>
    if freshM d ms = true ∧ (∀ m ∈ ms, 0 < m.c → aop tb cl (eval tb (put f d p.1)) (p.2.getD h) (.ld m.ag m.n (.t m.t)) = some (m.v, none)) then opsT tb cl N (k + 1) (decM ms) l w (put f d p.1) (p.2.getD h) else none
  | k, ms, ⟨d, none, o⟩ :: l, some (lo, hi) :: w, f, h => (aop tb cl (eval tb f) h o).bind fun p =>
    if p.2.getD h = h ∧ freshM d ms = true ∧ (plainO N k lo hi o || lateO N k lo hi d o) = true then opsT tb cl N k (addM N k lo hi o p.1 ms) l w (put f d p.1) h else none
  | _, _, _, _, _, _ => none

section
variable {tb : Tab} {cl : Nat → List AV → Heap → Out}
theorem aop_blind {o : AOp} (ho : blindOp o = true) {rho : AO → AV} {h h' : Heap} : aop tb cl rho h o = aop tb cl rho h' o := by
  cases o <;> first | (simp only [blindOp, Bool.false_eq_true] at ho; done) | rfl
theorem val_none {x : Option AV} {p : AV × Option Heap} (e : val x = some p) : p.2 = none := by
  obtain ⟨v, _, rfl⟩ := Option.map_eq_some_iff.1 e; rfl
theorem map_none {α : Type} {x : Option α} {f : α → AV} {p : AV × Option Heap} (e : x.map (fun a => (f a, (none : Option Heap))) = some p) : p.2 = none := by
  obtain ⟨v, _, rfl⟩ := Option.map_eq_some_iff.1 e; rfl
theorem bind_none {α : Type} {x : Option α} {f : α → Out} {p : AV × Option Heap} (h : ∀ a, f a = some p → p.2 = none) (e : x.bind f = some p) : p.2 = none := by
  obtain ⟨v, _, e⟩ := Option.bind_eq_some_iff.1 e; exact h v e
theorem aop_none {o : AOp} (ho : blindOp o = true) {rho : AO → AV} {h : Heap} {p : AV × Option Heap} (e : aop tb cl rho h o = some p) : p.2 = none := by
  cases o <;> first | (simp only [blindOp, Bool.false_eq_true] at ho; done) | skip
  case mv => simp only [aop, Option.some.injEq] at e; subst e; rfl
  case pick => simp only [aop] at e; split at e <;> first | (cases e; rfl) | cases e
  case bld => exact val_none e
  case bll => exact val_none e
  case nilc => simp only [aop] at e; split at e <;> first | (cases e; rfl) | cases e
  case bin => exact val_none e
  case eq => exact val_none e
  case un => exact val_none e
  case cvi => simp only [aop] at e; split at e <;> first | (cases e; rfl) | cases e
  case cvid => simp only [aop] at e; split at e <;> first | (cases e; rfl) | cases e
  case cvc => simp only [aop] at e; split at e <;> first | (cases e; rfl) | cases e
  case mkf => simp only [aop, Option.some.injEq] at e; subst e; rfl
  case sls => simp only [aop] at e; split at e <;> first | exact map_none e | cases e
  case fa => exact val_none e
  case fld => simp only [aop] at e; split at e <;> first | cases e | (split at e <;> first | exact val_none e | cases e)
  case iaa => exact bind_none (fun a e => by split at e <;> first | exact val_none e | cases e) e
  case ixa => exact bind_none (fun a e => by split at e <;> first | cases e | (split at e <;> first | exact val_none e | cases e)) e
  case ixs => exact bind_none (fun a e => by split at e <;> first | cases e | (split at e <;> first | exact map_none e | cases e)) e
  case ext => simp only [aop] at e; split at e <;> first | exact val_none e | cases e
  case mkif => simp only [aop, Option.some.injEq] at e; subst e; rfl
  case len => exact map_none e
  case lens => simp only [aop] at e; split at e <;> first | (cases e; rfl) | cases e
  case mnx => simp only [aop] at e; split at e <;> first | cases e | (split at e <;> first | (cases e; rfl) | cases e)
theorem blind_same {o : AOp} (ho : blindOp o = true) {rho : AO → AV} {h h' : Heap} {p : AV × Option Heap} (e : aop tb cl rho h o = some p) : aop tb cl rho h' o = some (p.1, none) := by
  rw [aop_blind ho (h' := h), e]
  have := aop_none ho e
  obtain ⟨a, b⟩ := p
  simp only at this
  rw [this]
theorem freshM_eval {d : Option Nat} {f : Fr} {v : AV} : ∀ {ms : List Mob}, freshM d ms = true → ∀ m ∈ ms, eval tb (put f d v) (.t m.t) = eval tb f (.t m.t)
  | [], _, m, hm => by cases hm
  | q :: r, h, m, hm => by
    simp only [freshM, Bool.and_eq_true] at h
    rcases List.mem_cons.1 hm with rfl | hm
    · cases d with
      | none => rfl
      | some d =>
        have := h.1
        simp only [Bool.not_eq_true'] at this
        simp only [eval, put, get]
        rw [if_neg fun e => by rw [e, Nat.beq_refl] at this; cases this]
    · exact freshM_eval h.2 m hm
theorem ld_eval {f g : Fr} {h : Heap} {ag : Bool} {n t : Nat} (e : eval tb f (.t t) = eval tb g (.t t)) : aop tb cl (eval tb f) h (.ld ag n (.t t)) = aop tb cl (eval tb g) h (.ld ag n (.t t)) := by
  simp only [aop, e]
/-- the loads that may come later come to the same -/
def Keeps (tb : Tab) (cl : Nat → List AV → Heap → Out) (f : Fr) (tl : List Heap) (m : Mob) : Prop := ∀ i h', i < m.c → tl[i]? = some h' → aop tb cl (eval tb f) h' (.ld m.ag m.n (.t m.t)) = some (m.v, none)
theorem decM_mem : ∀ {ms : List Mob} {m : Mob}, m ∈ ms → 1 < m.c → { m with c := m.c - 1 } ∈ decM ms
  | q :: r, m, hm, hc => by
    rcases List.mem_cons.1 hm with rfl | hm
    · obtain ⟨ag, n, t, v, c⟩ := m
      match c, hc with
      | c + 2, _ => simp [decM]
    · have := decM_mem hm hc
      simp only [decM]
      split
      · exact this
      · exact this
      · exact List.mem_cons_of_mem _ this
theorem addM_mem {N k lo hi : Nat} {o : AOp} {v : AV} {ms : List Mob} {m : Mob} (h : m ∈ ms) : m ∈ addM N k lo hi o v ms := by
  simp only [addM]
  cases plainO N k lo hi o with
  | true => exact h
  | false => simp only [cond_false]; split <;> simp [h]
theorem lateO_spec {N k lo hi : Nat} {d : Option Nat} {o : AOp} (h : lateO N k lo hi d o = true) : ∃ ag n t, o = .ld ag n (.t t) ∧ lo = k ∧ hi ≤ N ∧ d ≠ some t := by
  match o, h with
  | .ld ag n (.t t), h =>
    simp only [lateO, Bool.and_eq_true] at h
    refine ⟨ag, n, t, rfl, Nat.eq_of_beq_eq_true h.1.1, Nat.le_of_ble_eq_true h.1.2, ?_⟩
    rintro rfl
    have := h.2
    simp only [Nat.beq_refl, Bool.not_true, Bool.false_eq_true] at this
open Classical in
theorem opsT_spec {N : Nat} : ∀ {l : List AOper} {k : Nat} {ms : List Mob} {w : List (Option (Nat × Nat))} {f : Fr} {h : Heap} {f' : Fr} {h' : Heap}, opsT tb cl N k ms l w f h = some (f', h') →
    ∃ tl, heaps tb cl l w f h = some (h :: tl) ∧ (h :: tl).getLast? = some h' ∧ k + tl.length = N ∧ (∀ m ∈ ms, Keeps tb cl f tl m) ∧ ∀ (pre : List Heap), pre.length = k → opsD tb cl (pre ++ h :: tl) l w k f = some f'
  | [], k, ms, w, f, h, f', h', e => by
    cases w with
    | nil =>
      simp only [opsT] at e
      split at e
      · rename_i hk
        simp only [Option.some.injEq, Prod.mk.injEq] at e
        obtain ⟨rfl, rfl⟩ := e
        exact ⟨[], by simp [heaps], rfl, by simpa using hk, fun m _ i h' _ hi => by simp at hi, fun pre hp => by simp [opsD, hp]⟩
      · cases e
    | cons => simp [opsT] at e
  | ⟨d, some g, o⟩ :: l, k, ms, w, f, h, f', h', e => by
    cases w with
    | nil => simp [opsT] at e
    | cons x w => cases x <;> simp [opsT] at e
  | ⟨d, none, o⟩ :: l, k, ms, [], f, h, f', h', e => by simp [opsT] at e
  | ⟨d, none, o⟩ :: l, k, ms, none :: w, f, h, f', h', e => by
    simp only [opsT] at e
    obtain ⟨p, hp, e⟩ := Option.bind_eq_some_iff.1 e
    split at e
    · rename_i hc
      obtain ⟨tl, h1, h2, h3, h4, h5⟩ := opsT_spec e
      refine ⟨p.2.getD h :: tl, ?_, ?_, by simp; omega, ?_, fun pre hpre => ?_⟩
      · simp [heaps, wanted, hp, h1]
      · simpa using h2
      · intro m hm i h' hi hg
        have he := freshM_eval (tb := tb) (f := f) (v := p.1) hc.1 m hm
        rw [ld_eval he.symm]
        cases i with
        | zero =>
          simp only [List.getElem?_cons_zero, Option.some.injEq] at hg
          subst hg
          exact hc.2 m hm (by omega)
        | succ i =>
          simp only [List.getElem?_cons_succ] at hg
          exact h4 _ (decM_mem hm (by omega)) i h' (by simp only; omega) hg
      · have h6 := h5 (pre ++ [h]) (by simp [hpre])
        simp only [List.append_assoc, List.singleton_append] at h6
        have g0 : (pre ++ h :: p.2.getD h :: tl)[k]? = some h := by rw [← hpre, List.getElem?_append_right (Nat.le_refl _), Nat.sub_self]; rfl
        have g1 : (pre ++ h :: p.2.getD h :: tl)[k + 1]? = some (p.2.getD h) := by rw [← hpre, List.getElem?_append_right (by omega), Nat.add_sub_cancel_left]; rfl
        simp only [opsD, wanted, Option.bind_some, if_true, g0, hp, g1]
        exact h6
    · cases e
  | ⟨d, none, o⟩ :: l, k, ms, some (lo, hi) :: w, f, h, f', h', e => by
    simp only [opsT] at e
    obtain ⟨p, hp, e⟩ := Option.bind_eq_some_iff.1 e
    split at e
    · rename_i hu
      obtain ⟨hu, hfr, hpl⟩ := hu
      obtain ⟨tl, h1, h2, h3, h4, h5⟩ := opsT_spec e
      have hms : ∀ m ∈ ms, Keeps tb cl f tl m := fun m hm i h' hi hg => by
        have he := freshM_eval (tb := tb) (f := f) (v := p.1) hfr m hm
        rw [ld_eval he.symm]
        exact h4 m (addM_mem hm) i h' hi hg
      refine ⟨tl, ?_, h2, h3, hms, fun pre hpre => ?_⟩
      · simp [heaps, wanted, hp, hu, h1]
      · have h6 := h5 pre hpre
        have g0 : (pre ++ h :: tl)[k]? = some h := by rw [← hpre, List.getElem?_append_right (Nat.le_refl _), Nat.sub_self]; rfl
        have hlen : (pre ++ h :: tl).length = N + 1 := by simp [hpre]; omega
        have hk : ∀ j, lo ≤ j → j < lo + (hi + 1 - lo) → ∃ u, ((pre ++ h :: tl)[j]?).bind (fun h => aop tb cl (eval tb f) h o) = some (p.1, u) ∧ some (u.getD ((pre ++ h :: tl)[j]?.getD [])) = (pre ++ h :: tl)[j]? := by
          intro j hj1 hj2
          simp only [Bool.or_eq_true] at hpl
          cases hP : plainO N k lo hi o with
          | true =>
            have hP' := hP
            simp only [plainO, Bool.or_eq_true, Bool.and_eq_true] at hP'
            rcases hP' with ⟨hlo, hhi⟩ | ⟨hb, hle⟩
            · have hlo := Nat.eq_of_beq_eq_true hlo
              have hhi := Nat.eq_of_beq_eq_true hhi
              obtain rfl : j = k := by omega
              exact ⟨p.2, by rw [g0, Option.bind_some, hp], by rw [g0]; simp [hu]⟩
            · have hle := Nat.le_of_ble_eq_true hle
              have hj : j < (pre ++ h :: tl).length := by omega
              rw [List.getElem?_eq_getElem hj]
              exact ⟨none, by rw [Option.bind_some]; exact blind_same hb hp, rfl⟩
          | false =>
            have hL : lateO N k lo hi d o = true := hpl.resolve_left (by rw [hP]; simp)
            obtain ⟨ag, n, t, rfl, hlo, hhi, hd⟩ := lateO_spec hL
            have hp2 : p.2 = none := val_none hp
            rcases Nat.lt_or_ge k j with hkj | hkj
            · have hm : (⟨ag, n, t, p.1, hi - k⟩ : Mob) ∈ addM N k lo hi (.ld ag n (.t t)) p.1 ms := by
                simp only [addM, hP, cond_false]; simp
              have hj : j < (pre ++ h :: tl).length := by omega
              have hjt : (pre ++ h :: tl)[j]? = tl[j - k - 1]? := by
                rw [List.getElem?_append_right (by omega), hpre, show j - k = (j - k - 1) + 1 by omega, List.getElem?_cons_succ]; rfl
              have hjl : j - k - 1 < tl.length := by simp [hpre] at hlen; omega
              rw [hjt, List.getElem?_eq_getElem hjl]
              have := h4 _ hm (j - k - 1) _ (by simp only; omega) (List.getElem?_eq_getElem hjl)
              have he : eval tb (put f d p.1) (.t t) = eval tb f (.t t) := by
                cases d with
                | none => rfl
                | some d =>
                  simp only [eval, put, get]
                  rw [if_neg fun e => hd (by rw [e])]
              rw [ld_eval he] at this
              exact ⟨none, by rw [Option.bind_some]; exact this, rfl⟩
            · obtain rfl : j = k := by omega
              exact ⟨p.2, by rw [g0, Option.bind_some, hp], by rw [g0]; simp [hu]⟩
        simp only [opsD, wanted, Option.bind_some, if_true, g0, hp]
        rw [if_pos (by
          rw [List.all_eq_true]
          intro j hj
          rw [List.mem_range'_1] at hj
          exact decide_eq_true (hk j hj.1 hj.2))]
        exact h6
    · cases e
theorem exec_regd {l : List AOper} {w : List (Option (Nat × Nat))} {f : Fr} {h : Heap} {n : Nat} {p : Fr × Heap} (e : opsT tb cl n 0 [] l w f h = some p) :
    exec tb cl (.regd l w) f h = some (.normal, p.1, p.2) := by
  obtain ⟨tl, h1, h2, h3, h4, h5⟩ := opsT_spec (f' := p.1) (h' := p.2) e
  have h6 := h5 [] rfl
  simp only [List.nil_append] at h6
  simp only [exec, h1, Option.bind_some, List.tail_cons, h6, h2, Option.map_some]
end

/-- a load that may come later: what is known of it, which temporary holds it -/
structure Ob where
  ag : Bool
  n : Nat
  t : Nat
  d : Nat
  φ : Fact
  c : Nat
def decB : List Ob → List Ob
  | [] => []
  | m :: r => match m.c with
    | 0 => decB r
    | 1 => decB r
    | c + 2 => { m with c := c + 1 } :: decB r
def freshB (d : Option Nat) : List Ob → Bool
  | [] => true
  | m :: r => (match d with | some d => !Nat.beq d m.t && !Nat.beq d m.d | none => true) && freshB d r
/-- a type whose cells are known -/
def T.Uni (t : T) : Prop := ∀ {P Q : Nat → Prop} {H G : Heap} {cs ds : List AV} {x : t.α}, t.R P H cs x → t.R Q G ds x → cs = ds
theorem T.sc_Uni {α : Type} {c : α → AV} {z : α} {hs hm} : (T.sc α c z hs hm).Uni := fun h g => h.trans g.symm
theorem uni_b : T.b.Uni := T.sc_Uni
theorem uni_int {k : IntKind} : (T.int k).Uni := T.sc_Uni
theorem uni_u8 : T.u8.Uni := T.sc_Uni
theorem uni_u16 : T.u16.Uni := T.sc_Uni
theorem uni_u32 : T.u32.Uni := T.sc_Uni
theorem uni_u64 : T.u64.Uni := T.sc_Uni
theorem uni_str : T.str.Uni := T.sc_Uni
theorem T.Uni.prod {a b : T} (h : a.Uni) (g : b.Uni) : (T.prod a b).Uni := by
  rintro P Q H G cs ds x ⟨c, d, e, h1, h2⟩ ⟨c', d', e', h1', h2'⟩
  rw [e, e', h h1 h1', g h2 h2']
theorem T.Uni.iso {t : T} {β : Type} {f : β → t.α} {g : t.α → β} {hfg : ∀ y, f (g y) = y} (h : t.Uni) : (T.iso t β f g hfg).Uni := fun r r' => h r r'
theorem AllR.uni {t : T} (h : t.Uni) {P Q : Nat → Prop} {H G : Heap} : ∀ {c d : List (List AV)} {x : List t.α}, AllR t P H c x → AllR t Q G d x → c = d
  | [], [], [], _, _ => rfl
  | _ :: _, _ :: _, _ :: _, h1, h2 => by rw [h h1.1 h2.1, AllR.uni h h1.2 h2.2]
  | [], _ :: _, [], _, h2 => h2.elim
  | _ :: _, _, [], h1, _ => h1.elim
  | [], _, _ :: _, h1, _ => h1.elim
  | _ :: _, [], _ :: _, _, h2 => h2.elim
theorem T.Uni.arr {n : Nat} {t : T} (h : t.Uni) : (T.arr n t).Uni := by
  rintro P Q H G cs ds x ⟨c, e, h1⟩ ⟨c', e', h1'⟩
  rw [e, e', h1.uni h h1']
theorem T.Uni.V {t : T} (h : t.Uni) {P Q : Nat → Prop} {H G : Heap} {v w : AV} {x : t.α} (r : t.V P H v x) (r' : t.V Q G w x) : v = w := by
  rcases r with ⟨ha, cs, rfl, r⟩ | ⟨ha, r⟩
  · rcases r' with ⟨_, ds, rfl, r'⟩ | ⟨hb, _⟩
    · rw [h r r']
    · rw [ha] at hb; cases hb
  · rcases r' with ⟨hb, _⟩ | ⟨_, r'⟩
    · rw [ha] at hb; cases hb
    · have := h r r'
      simpa using this
/-- what is known tells which value it is -/
def Fact.Uni : Fact → Prop
  | .val t _ => t.Uni
  | .own _ => True
  | .cp _ _ => True
  | .ep _ _ _ => True
  | .oc _ _ _ _ => True
  | .con _ => True
  | .kv _ => True
  | .fnv _ _ _ => True
  | _ => False
theorem Fact.Uni.eq {φ : Fact} (h : φ.Uni) {rv : Nat → AV} {ss : Ss} {P Q : Nat → Prop} {H G : Heap} {v w : AV} (r : FR rv ss P H φ v) (r' : FR rv ss Q G φ w) : v = w := by
  cases φ <;> simp only [Fact.Uni] at h
  case val t x => exact T.Uni.V h r r'
  case own j => exact r.2.trans r'.2.symm
  case cp j o =>
    obtain ⟨_, id, e, rfl⟩ := r
    obtain ⟨_, id', e', rfl⟩ := r'
    rw [e] at e'; cases e'; rfl
  case ep j i o =>
    obtain ⟨_, id, n, e, _, rfl⟩ := r
    obtain ⟨_, id', n', e', _, rfl⟩ := r'
    rw [e] at e'; cases e'; rfl
  case oc j o s n =>
    obtain ⟨_, id, e, rfl⟩ := r
    obtain ⟨_, id', e', rfl⟩ := r'
    rw [e] at e'; cases e'; rfl
  case con c => exact r.1.trans r'.1.symm
  case kv j => exact r.2.trans r'.2.symm
  case fnv f js ks => exact r.2.trans r'.2.symm
/-- they come to the same still -/
inductive ObOk (tb : Tab) (Γ : Cx) : List Ob → Prop where
  | nil : ObOk tb Γ []
  | cons {ag : Bool} {n t d c : Nat} {φ : Fact} {l : List Ob} (h : OpH tb Γ (.ld ag n (.t t)) (some ()) fun _ => φ) (hd : OpF tb Γ (.t d) φ) (hu : φ.Uni) (r : ObOk tb Γ l) : ObOk tb Γ (⟨ag, n, t, d, φ, c⟩ :: l)
inductive ObR (f : Fr) : List Ob → List Mob → Prop where
  | nil : ObR f [] []
  | cons {ag : Bool} {n t d c : Nat} {φ : Fact} {v : AV} {l : List Ob} {ms : List Mob} (h : get f d = v) (r : ObR f l ms) : ObR f (⟨ag, n, t, d, φ, c⟩ :: l) (⟨ag, n, t, v, c⟩ :: ms)
theorem ObR.dec {f : Fr} : ∀ {l : List Ob} {ms : List Mob}, ObR f l ms → ObR f (decB l) (decM ms)
  | _, _, .nil => .nil
  | _, _, .cons (c := c) h r => by
    match c with
    | 0 => exact r.dec
    | 1 => exact r.dec
    | c + 2 => exact .cons h r.dec
theorem ObR.fresh {d : Option Nat} {f : Fr} : ∀ {l : List Ob} {ms : List Mob}, ObR f l ms → freshB d l = true → freshM d ms = true
  | _, _, .nil, _ => rfl
  | _, _, .cons h r, e => by
    simp only [freshB, Bool.and_eq_true] at e
    simp only [freshM, Bool.and_eq_true]
    refine ⟨?_, r.fresh e.2⟩
    cases d with
    | none => rfl
    | some d => have := e.1; simp only [Bool.and_eq_true] at this; exact this.1
theorem ObR.put {d : Option Nat} {f : Fr} {w : AV} : ∀ {l : List Ob} {ms : List Mob}, ObR f l ms → freshB d l = true → ObR (put f d w) l ms
  | _, _, .nil, _ => .nil
  | _, _, .cons h r, e => by
    simp only [freshB, Bool.and_eq_true] at e
    refine .cons ?_ (r.put e.2)
    cases d with
    | none => exact h
    | some d =>
      have := e.1
      simp only [Bool.and_eq_true, Bool.not_eq_true'] at this
      simp only [Am.put, get]
      rw [if_neg fun e => by rw [e, Nat.beq_refl] at this; cases this.2]
      exact h
theorem ObOk.spec {tb : Tab} {Γ : Cx} {E : Env} {rv : Nat → AV} {fp : Fp} {f : Fr} {H : Heap} (I : RelI E Γ rv fp f H) : ∀ {l : List Ob} {ms : List Mob}, ObOk tb Γ l → ObR f l ms → ∀ m ∈ ms, 0 < m.c → aop tb (den tb) (eval tb f) H (.ld m.ag m.n (.t m.t)) = some (m.v, none)
  | _, _, .nil, .nil, m, hm, _ => by cases hm
  | _, _, .cons h hd hu r, .cons h' r', m, hm, hc => by
    rcases List.mem_cons.1 hm with rfl | hm
    · obtain ⟨v, u, h1, h2, h3⟩ := h E rv fp f H I () rfl
      have := hu.eq h3 (hd E rv fp f H I)
      subst this
      rw [h1]
      have : u = none := val_none (p := (_, u)) h1
      rw [this, ← h']; rfl
    · exact ObOk.spec I r r' m hm hc

structure SimD (tb : Tab) (Γ : Cx) (N k : Nat) (B : List Ob) (l : List AOper) (w : List (Option (Nat × Nat))) (ks : List Kf) {ρ : Type} (Q : Post ρ) where
  m : Option ρ
  ok : ∀ E f H, Rel E Γ f H → ∀ ms, ObR f B ms → ∀ r, m = some r → ∃ p e f' H', opsT tb (den tb) N k ms l w f H = some p ∧ runk tb ks (.normal, p.1, p.2) = some (e, f', H') ∧ Q E r e f' H'

section
variable {tb : Tab} {Γ : Cx} {ks : List Kf} {ρ : Type} {Q : Post ρ} {w : List (Option (Nat × Nat))} {N k : Nat} {B : List Ob}
def Sim.regd {l : List AOper} (n : Nat) (s : SimD tb Γ n 0 [] l w ks Q) : Sim tb Γ (.regd l w) ks Q :=
  ⟨s.m, fun E f H R r hr => by
    obtain ⟨p, e, f', H', h1, h2, h3⟩ := s.ok E f H R [] .nil r hr
    exact ⟨e, f', H', by rw [exec_regd h1]; exact h2, h3⟩⟩
def SimD.done (s : Sim tb Γ (rg false []) ks Q) : SimD tb Γ N N B [] [] ks Q :=
  ⟨s.m, fun E f H R ms _ r hr => by
    obtain ⟨e, f', H', h1, h2⟩ := s.ok E f H R r hr
    rw [exec_rg_nil] at h1
    exact ⟨(f, H), e, f', H', by simp [opsT], h1, h2⟩⟩
def SimD.stop {l : List AOper} : SimD tb Γ N k B l w ks Q := ⟨Option.none, fun _ _ _ _ _ _ _ h => (by cases h)⟩
def SimD.turn {l : List AOper} {Γ' : Cx} (h : ∀ E f H, Rel E Γ f H → Rel E Γ' f H) (s : SimD tb Γ' N k B l w ks Q) : SimD tb Γ N k B l w ks Q :=
  ⟨s.m, fun E f H R ms hms r hr => s.ok E f H (h E f H R) ms hms r hr⟩
def SimD.frzRow {l : List AOper} (j : Nat) {t : T} {g : GS t.α} (h : findS Γ.ss j = some (.row t g)) (hn : Nat.blt j parj = true) (s : SimD tb (Γ.turn j (rowF t g)) N k B l w ks Q) : SimD tb Γ N k B l w ks Q :=
  s.turn fun _ _ _ ⟨rv, fp, I⟩ => ⟨rv, fp, I.frzRow h hn⟩
variable {o : AOp} {l : List AOper} {y : Nat × Nat}
def chkD (N k : Nat) (B : List Ob) (y : Nat × Nat) (d : Option Nat) (o : AOp) : Bool := plainO N k y.1 y.2 o && freshB d B
theorem stepD {cl : Nat → List AV → Heap → Out} {d : Option Nat} {ms : List Mob} {f : Fr} {H : Heap} {v : AV} {u : Option Heap} (hq : chkD N k B y d o = true) (hms : ObR f B ms) (h1 : aop tb cl (eval tb f) H o = some (v, u)) (h2 : u.getD H = H) :
    opsT tb cl N k ms (⟨d, none, o⟩ :: l) (some y :: w) f H = opsT tb cl N k ms l w (put f d v) H := by
  obtain ⟨lo, hi⟩ := y
  simp only [chkD, Bool.and_eq_true] at hq
  simp only [opsT, h1, Option.bind_some]
  rw [if_pos ⟨h2, hms.fresh hq.2, by rw [hq.1]; rfl⟩]
  simp only [addM, hq.1, cond_true]
theorem chkD_fresh {d : Option Nat} (hq : chkD N k B y d o = true) : freshB d B = true := by
  simp only [chkD, Bool.and_eq_true] at hq; exact hq.2
theorem stepW {Γ' : Cx} {E : Env} {rv : Nat → AV} {fp : Fp} {d : Option Nat} {ms : List Mob} {f : Fr} {H : Heap} {v : AV} {u : Option Heap} (hq : freshB d B = true) (hb : ObOk tb Γ' B) (hms : ObR f B ms) (h1 : aop tb (den tb) (eval tb f) H o = some (v, u)) (I : RelI E Γ' rv fp (put f d v) (u.getD H)) :
    opsT tb (den tb) N k ms (⟨d, none, o⟩ :: l) (none :: w) f H = opsT tb (den tb) N (k + 1) (decM ms) l w (put f d v) (u.getD H) := by
  simp only [opsT, h1, Option.bind_some]
  rw [if_pos ⟨hms.fresh hq, hb.spec I (hms.put hq)⟩]
def SimD.op {d : Nat} {β : Type} {a : Option β} {φ : β → Fact} (hq : chkD N k B y (some d) o = true) (h : OpH tb Γ o a φ) (s : (b : β) → SimD tb (Γ.push d (φ b)) N k B l w ks Q) : SimD tb Γ N k B (⟨some d, none, o⟩ :: l) (some y :: w) ks Q :=
  ⟨a.bind fun b => (s b).m, fun E f H ⟨rv, fp, I⟩ ms hms r hr => by
    obtain ⟨b, hb, hr⟩ := Option.bind_eq_some_iff.1 hr
    obtain ⟨v, u, h1, h2, h3⟩ := h E rv fp f H I b hb
    rw [stepD hq hms h1 h2]
    exact (s b).ok E (put f (some d) v) H ⟨rv, fp, I.push h3⟩ ms (hms.put (chkD_fresh hq)) r hr⟩
def SimD.op1 {d : Nat} {φ : Fact} (hq : chkD N k B y (some d) o = true) (h : OpH tb Γ o (some ()) fun _ => φ) (s : SimD tb (Γ.push d φ) N k B l w ks Q) : SimD tb Γ N k B (⟨some d, none, o⟩ :: l) (some y :: w) ks Q :=
  ⟨s.m, (SimD.op hq h fun _ => s).ok⟩
def SimD.opn {d : Nat} {t : T} {x : t.α} (hq : chkD N k B y (some d) o = true) (h : OpH tb Γ o (some ()) fun _ => .val t x) (s : (y : t.α) → SimD tb (Γ.push d (.val t y)) N k B l w ks Q) : SimD tb Γ N k B (⟨some d, none, o⟩ :: l) (some y :: w) ks Q :=
  SimD.op1 hq h (s x)
def SimD.opr {d : Nat} {t : T} {x : t.α} (hq : chkD N k B y (some d) o = true) (h : OpH tb Γ o (some ()) fun _ => .rp t x) (s : (y : t.α) → SimD tb (Γ.push d (.rp t y)) N k B l w ks Q) : SimD tb Γ N k B (⟨some d, none, o⟩ :: l) (some y :: w) ks Q :=
  SimD.op1 hq h (s x)
/-- a load that may come later -/
def SimD.late {d n t lo hi : Nat} {ag : Bool} {φ : Fact} (hq : (!plainO N k lo hi (.ld ag n (.t t)) && (lateO N k lo hi (some d) (.ld ag n (.t t)) && freshB (some d) B)) = true) (h : OpH tb Γ (.ld ag n (.t t)) (some ()) fun _ => φ)
    (s : SimD tb (Γ.push d φ) N k (⟨ag, n, t, d, φ, hi - k⟩ :: B) l w ks Q) : SimD tb Γ N k B (⟨some d, none, .ld ag n (.t t)⟩ :: l) (some (lo, hi) :: w) ks Q :=
  ⟨s.m, fun E f H ⟨rv, fp, I⟩ ms hms r hr => by
    obtain ⟨v, u', h1, h2, h3⟩ := h E rv fp f H I () rfl
    simp only [Bool.and_eq_true, Bool.not_eq_true'] at hq
    obtain ⟨p, e, f', H', h4, h5⟩ := s.ok E (put f (some d) v) H ⟨rv, fp, I.push h3⟩ (⟨ag, n, t, v, hi - k⟩ :: ms) (.cons (by simp [put, get]) (hms.put hq.2.2)) r hr
    refine ⟨p, e, f', H', ?_, h5⟩
    simp only [opsT, h1, Option.bind_some]
    rw [if_pos ⟨h2, hms.fresh hq.2.2, by rw [hq.2.1]; simp⟩]
    simp only [addM, hq.1, cond_false]
    exact h4⟩
def SimD.opM {d : Option Nat} {β : Type} {a : Option β} {Γ' : β → Cx} (hq : freshB d B = true) (hb : ∀ b, ObOk tb (Γ' b) B) (h : OpM tb Γ d o a Γ') (s : (b : β) → SimD tb (Γ' b) N (k + 1) (decB B) l w ks Q) : SimD tb Γ N k B (⟨d, none, o⟩ :: l) (none :: w) ks Q :=
  ⟨a.bind fun b => (s b).m, fun E f H ⟨rv, fp, I⟩ ms hms r hr => by
    obtain ⟨b, hb', hr⟩ := Option.bind_eq_some_iff.1 hr
    obtain ⟨v, u, h1, rv', fp', h3⟩ := h E rv fp f H I b hb'
    rw [stepW hq (hb b) hms h1 h3]
    exact (s b).ok E _ _ ⟨rv', fp', h3⟩ _ (hms.put hq).dec r hr⟩
/-! .. operations that might have written -/
def SimDW.op {d : Nat} {β : Type} {a : Option β} {φ : β → Fact} (hq : freshB (some d) B = true) (hb : ∀ b, ObOk tb (Γ.push d (φ b)) B) (h : OpH tb Γ o a φ) (s : (b : β) → SimD tb (Γ.push d (φ b)) N (k + 1) (decB B) l w ks Q) : SimD tb Γ N k B (⟨some d, none, o⟩ :: l) (none :: w) ks Q :=
  ⟨a.bind fun b => (s b).m, fun E f H ⟨rv, fp, I⟩ ms hms r hr => by
    obtain ⟨b, hb', hr⟩ := Option.bind_eq_some_iff.1 hr
    obtain ⟨v, u, h1, h2, h3⟩ := h E rv fp f H I b hb'
    have I' : RelI E (Γ.push d (φ b)) rv fp (put f (some d) v) (u.getD H) := by rw [h2]; exact I.push h3
    rw [stepW hq (hb b) hms h1 I']
    exact (s b).ok E _ _ ⟨rv, fp, I'⟩ _ (hms.put hq).dec r hr⟩
def SimDW.op1 {d : Nat} {φ : Fact} (hq : freshB (some d) B = true) (hb : ObOk tb (Γ.push d φ) B) (h : OpH tb Γ o (some ()) fun _ => φ) (s : SimD tb (Γ.push d φ) N (k + 1) (decB B) l w ks Q) : SimD tb Γ N k B (⟨some d, none, o⟩ :: l) (none :: w) ks Q :=
  ⟨s.m, (SimDW.op hq (fun _ => hb) h fun _ => s).ok⟩
def SimDW.opn {d : Nat} {t : T} {x : t.α} (hq : freshB (some d) B = true) (hb : ObOk tb (Γ.push d (.val t x)) B) (h : OpH tb Γ o (some ()) fun _ => .val t x) (s : (y : t.α) → SimD tb (Γ.push d (.val t y)) N (k + 1) (decB B) l w ks Q) : SimD tb Γ N k B (⟨some d, none, o⟩ :: l) (none :: w) ks Q :=
  SimDW.op1 hq hb h (s x)
end
end Go.Proofs.YtopgecohakediaaDoor.Am
