/-
  Tests that wait inside regions whose order is drawn; tables; maps.
-/
import Derived.Test.YtobejhpigbllpaaGreatDoorSmW
namespace Go.Proofs.YtobejhpigbllpaaGreatDoor.Am

section
variable {tb : Tab} {cl : Nat → List AV → Heap → Out} {N : Nat}
theorem opsT_like {d : Option Nat} {g g' : Option (Nat × Bool)} {o : AOp} {l l' : List AOper} {p : Fr × Heap} : ∀ {k : Nat} {ms : List Mob} {es : List Eob} {w : List (Option (Nat × Nat))} {f : Fr} {h : Heap}, wanted f g' = wanted f g →
    (∀ k ms es w v h, opsT tb cl N k ms es l w (put f d v) h p → opsT tb cl N k ms es l' w (put f d v) h p) → opsT tb cl N k ms es (⟨d, g, o⟩ :: l) w f h p → opsT tb cl N k ms es (⟨d, g', o⟩ :: l') w f h p
  | k, ms, es, [], f, h, hw, ih, e => by simp [opsT] at e
  | k, ms, es, none :: w, f, h, hw, ih, e => by
    simp only [opsT] at e ⊢
    rw [hw]
    rcases e with ⟨h0, q, es', h1, h2, h3, h4, e⟩ | ⟨h0, h1, e⟩
    · exact .inl ⟨h0, q, es', h1, h2, h3, h4, ih _ _ _ _ _ _ e⟩
    · exact .inr ⟨h0, h1, ih _ _ _ _ _ _ e⟩
  | k, ms, es, some (lo, hi) :: w, f, h, hw, ih, e => by
    simp only [opsT] at e ⊢
    rw [hw]
    rcases e with ⟨h0, q, h1, h2, h3, ⟨h4, e⟩ | ⟨h4, h5, e⟩⟩ | ⟨h0, h1, e⟩
    · exact .inl ⟨h0, q, h1, h2, h3, .inl ⟨h4, ih _ _ _ _ _ _ e⟩⟩
    · exact .inl ⟨h0, q, h1, h2, h3, .inr ⟨h4, h5, ih _ _ _ _ _ _ e⟩⟩
    · exact .inr ⟨h0, h1, ih _ _ _ _ _ _ e⟩
theorem opsT_es {p : Fr × Heap} : ∀ {l : List AOper} {k : Nat} {ms : List Mob} {es es2 : List Eob} {w : List (Option (Nat × Nat))} {f : Fr} {h : Heap}, (∀ e ∈ es, e ∈ es2) → opsT tb cl N k ms es l w f h p → opsT tb cl N k ms es2 l w f h p
  | [], k, ms, es, es2, w, f, h, hs, e => by cases w <;> exact e
  | ⟨d, g, o⟩ :: l, k, ms, es, es2, [], f, h, hs, e => by simp [opsT] at e
  | ⟨d, g, o⟩ :: l, k, ms, es, es2, none :: w, f, h, hs, e => by
    simp only [opsT] at e ⊢
    rcases e with ⟨h0, q, es', h1, h2, h3, h4, e⟩ | ⟨h0, h1, e⟩
    · exact .inl ⟨h0, q, es', h1, h2, h3, fun x hx => ⟨(h4 x hx).1.imp (hs x) id, (h4 x hx).2⟩, e⟩
    · exact .inr ⟨h0, h1, e⟩
  | ⟨d, g, o⟩ :: l, k, ms, es, es2, some (lo, hi) :: w, f, h, hs, e => by
    simp only [opsT] at e ⊢
    rcases e with ⟨h0, q, h1, h2, h3, ⟨h4, e⟩ | ⟨h4, ⟨x, hx, h5⟩, e⟩⟩ | ⟨h0, h1, e⟩
    · exact .inl ⟨h0, q, h1, h2, h3, .inl ⟨h4, opsT_es hs e⟩⟩
    · exact .inl ⟨h0, q, h1, h2, h3, .inr ⟨h4, ⟨x, hs x hx, h5⟩, opsT_es hs e⟩⟩
    · exact .inr ⟨h0, h1, opsT_es hs e⟩
theorem gd_opsT {g : Nat} {b : Bool} {R : List AOper} {p : Fr × Heap} : ∀ {l : List AOper} {k : Nat} {ms : List Mob} {es : List Eob} {w : List (Option (Nat × Nat))} {f : Fr} {h : Heap}, get f g = .b b → g ∉ dsts l →
    opsT tb cl N k ms es (l ++ R) w f h p → opsT tb cl N k ms es (l.map (gd g b) ++ R) w f h p
  | [], _, _, _, _, _, _, _, _, e => e
  | o :: l, k, ms, es, w, f, h, hg, hn, e => by
    have hd : o.d ≠ some g := fun e => hn (by simp [dsts, e])
    have hn' : g ∉ dsts l := fun e => hn (by
      simp only [dsts, List.filterMap_cons] at e ⊢
      cases o.d <;> simp [e])
    have hwt : wanted f (gd g b o).g = wanted f o.g := by
      cases ho : o.g with
      | none => simp [gd, ho, wanted, hg]
      | some p => simp [gd, ho]
    have hoo : gd g b o = ⟨o.d, (gd g b o).g, o.o⟩ := by
      obtain ⟨d, og, oo⟩ := o
      cases og <;> rfl
    rw [List.map_cons, List.cons_append, hoo]
    rw [List.cons_append] at e
    exact opsT_like hwt (fun k ms es w v h e => gd_opsT (by rw [wanted_put (w := b) hd]; exact hg) hn' e) e

def splitW : Nat → List (Option (Nat × Nat)) → Option (Nat × List (Option (Nat × Nat)))
  | 0, w => some (0, w)
  | n + 1, none :: w => (splitW n w).map fun p => (p.1 + 1, p.2)
  | n + 1, some _ :: w => splitW n w
  | _ + 1, [] => none
theorem skip_opsT {g : Nat} {b : Bool} {R : List AOper} : ∀ {l : List AOper} {seen : List Nat} {k m : Nat} {w w2 : List (Option (Nat × Nat))} {f : Fr} {H : Heap}, get f g = .b (!b) → g ∉ dsts l → skips seen l = true → (∀ t ∈ seen, get f t = .tup []) →
    splitW l.length w = some (m, w2) → ∃ f', (∀ u, u ∉ dsts l → get f' u = get f u) ∧ ∀ p, opsT tb cl N (k + m) [] [] R w2 f' H p → opsT tb cl N k [] [] (l.map (gd g b) ++ R) w f H p
  | [], seen, k, m, w, w2, f, H, _, _, _, _, e => by
    simp only [List.length_nil, splitW, Option.some.injEq, Prod.mk.injEq] at e
    obtain ⟨rfl, rfl⟩ := e
    exact ⟨f, fun _ _ => rfl, fun p h => h⟩
  | o :: l, seen, k, m, w, w2, f, H, h, hn, hs, hseen, e => by
    have hd : o.d ≠ some g := fun e => hn (by simp [dsts, e])
    have hn' : g ∉ dsts l := fun e => hn (by
      simp only [dsts, List.filterMap_cons] at e ⊢
      cases o.d <;> simp [e])
    simp only [skips, Bool.and_eq_true] at hs
    have hwt : wanted f (gd g b o).g = some false := by
      cases ho : o.g with
      | none => simp [gd, ho, wanted, h]
      | some p =>
        obtain ⟨t, b⟩ := p
        simp only [gd, ho, wanted]
        have := hs.1
        rw [ho] at this
        obtain ⟨x, hx, hb⟩ := List.any_eq_true.1 this
        have hb := Nat.eq_of_beq_eq_true hb
        subst hb
        rw [hseen _ hx]
    have hoo : gd g b o = ⟨o.d, (gd g b o).g, o.o⟩ := by
      obtain ⟨d, og, oo⟩ := o
      cases og <;> rfl
    have h1 : get (put f o.d (.tup [])) g = .b (!b) := by rw [wanted_put (w := b) hd]; exact h
    have h2 : ∀ t ∈ (match o.d with | some d => d :: seen | none => seen), get (put f o.d (.tup [])) t = .tup [] := fun t ht => by
      cases hdd : o.d with
      | none => rw [hdd] at ht; exact hseen t ht
      | some d =>
        rw [hdd] at ht
        simp only [put, get]
        by_cases e : d = t
        · rw [if_pos e]
        · rw [if_neg e]
          rcases List.mem_cons.1 ht with e' | ht
          · exact absurd e'.symm e
          · exact hseen t ht
    have hu : ∀ f' : Fr, (∀ u, u ∉ dsts l → get f' u = get (put f o.d (.tup [])) u) → ∀ u, u ∉ dsts (o :: l) → get f' u = get f u := fun f' h3 u hu => by
      have hu' : u ∉ dsts l := fun e => hu (by
        simp only [dsts, List.filterMap_cons] at e ⊢
        cases o.d <;> simp [e])
      rw [h3 u hu']
      exact wanted_put (w := b) fun e => hu (by simp [dsts, e])
    cases w with
    | nil => simp [splitW] at e
    | cons x w =>
      cases x with
      | none =>
        simp only [List.length_cons, splitW] at e
        obtain ⟨q, hq, e⟩ := Option.map_eq_some_iff.1 e
        obtain ⟨f', h3, h4⟩ := skip_opsT (k := k + 1) (m := q.1) (w2 := q.2) (H := H) (R := R) h1 hn' hs.2 h2 hq
        simp only [Prod.mk.injEq] at e
        obtain ⟨rfl, rfl⟩ := e
        refine ⟨f', hu f' h3, fun p hp => ?_⟩
        rw [List.map_cons, List.cons_append, hoo]
        exact .inr ⟨hwt, rfl, h4 p (by rw [Nat.add_assoc, Nat.add_comm 1]; exact hp)⟩
      | some y =>
        simp only [List.length_cons, splitW] at e
        obtain ⟨f', h3, h4⟩ := skip_opsT (k := k) (H := H) (R := R) h1 hn' hs.2 h2 e
        refine ⟨f', hu f' h3, fun p hp => ?_⟩
        rw [List.map_cons, List.cons_append, hoo]
        exact .inr ⟨hwt, rfl, h4 p hp⟩
end

section
variable {tb : Tab} {Γ : Cx} {a b : AO} {ks : List Kf} {ρ : Type} {Q : Post ρ}
theorem RelI.sure {E : Env} {rv : Nat → AV} {fp : Fp} {f : Fr} {H : Heap} (I : RelI E Γ rv fp f H) {g : Nat} {b : Bool} (hg : get f g = .b b) : RelI E (Γ.push g (.val T.b b)) rv fp f H :=
  ⟨I.le, I.base, I.wf, I.fplt, I.rvlt, I.scal, I.inj, I.slots, fun u φ e => by
    simp only [Cx.push, findT] at e
    split at e
    · rename_i hu; cases e; subst hu; exact T.b_V.2 hg
    · exact I.temps u φ e, I.gh⟩
def SimD.andI {L l rest : List AOper} {g t d : Nat} {b : Bool} {w w2 : List (Option (Nat × Nat))} {y : Nat × Nat} {N k m : Nat} (Γk : Cx) (n : Nat) (og : findT Γ.ts g = some (.val T.b b)) (h : splitG g true n L = some (l, ⟨some d, none, .pick (.t g) (.t t) (.k (.b false))⟩ :: rest)) (hc : chkG g l Γ.ts = true) (hs : ∀ z, Sub (Γk.push d (.val T.b z)) (Γ.push d (.val T.b z)))
    (hw : splitW l.length w = some (m, some y :: w2)) (hq : chkD N (k + m) [] [] y (some d) (.pick (.t g) (.t t) (.k (.b false))) = true)
    (kk : (z : Bool) → SimD tb (Γk.push d (.val T.b z)) N (k + m) [] [] rest w2 ks Q)
    (main : ((z : Bool) → SimD tb (Γk.push d (.val T.b z)) N (k + m) [] [] rest w2 ks Q) → SimD tb (Γ.push g (.val T.b true)) N k [] [] (l ++ ⟨some d, none, .pick (.t g) (.t t) (.k (.b false))⟩ :: rest) w ks Q) : SimD tb Γ N k [] [] L w ks Q :=
  ⟨if b = true then (main kk).m else (kk false).m, fun E f H ⟨rv, fp, I⟩ ms hms es hes r hr => by
    cases hms; cases hes
    have hL := splitG_spec h
    simp only [chkG, Bool.and_eq_true, Bool.not_eq_true'] at hc
    obtain ⟨hc1, hc2, hc3⟩ := hc
    have hg := T.b_V.1 (I.temps g _ og)
    have hng := memN_spec hc2
    cases b with
    | true =>
      obtain ⟨p, e, f', H', h4, h5⟩ := (main kk).ok E f H ⟨rv, fp, I.sure hg⟩ [] .nil [] .nil r (by simpa using hr)
      exact ⟨p, e, f', H', by rw [hL]; exact gd_opsT hg hng h4, h5⟩
    | false =>
      obtain ⟨f', h1, h2⟩ := skip_opsT (tb := tb) (cl := den tb) (N := N) (b := true) (H := H) (k := k) (R := ⟨some d, none, .pick (.t g) (.t t) (.k (.b false))⟩ :: rest) hg hng hc1 (by simp) hw
      have hp : aop tb (den tb) (eval tb f') H (.pick (.t g) (.t t) (.k (.b false))) = some (.b false, none) := by
        simp only [aop, eval, h1 g hng, hg]; rfl
      have I' : RelI E Γ rv fp f' H := I.fr fun u φ e => h1 u (apart_find hc3 e)
      obtain ⟨p, e, f2, H2, h4, h5⟩ := (kk false).ok E _ H ⟨rv, fp, (put_b I').sub (hs _)⟩ [] .nil [] .nil r (by simpa using hr)
      exact ⟨p, e, f2, H2, by rw [hL]; exact h2 p (stepD hq .nil hp rfl h4), h5⟩⟩
def SimD.orI {L l rest : List AOper} {g t d : Nat} {b : Bool} {w w2 : List (Option (Nat × Nat))} {y : Nat × Nat} {N k m : Nat} (Γk : Cx) (n : Nat) (og : findT Γ.ts g = some (.val T.b b)) (h : splitG g false n L = some (l, ⟨some d, none, .pick (.t g) (.k (.b true)) (.t t)⟩ :: rest)) (hc : chkG g l Γ.ts = true) (hs : ∀ z, Sub (Γk.push d (.val T.b z)) (Γ.push d (.val T.b z)))
    (hw : splitW l.length w = some (m, some y :: w2)) (hq : chkD N (k + m) [] [] y (some d) (.pick (.t g) (.k (.b true)) (.t t)) = true)
    (kk : (z : Bool) → SimD tb (Γk.push d (.val T.b z)) N (k + m) [] [] rest w2 ks Q)
    (main : ((z : Bool) → SimD tb (Γk.push d (.val T.b z)) N (k + m) [] [] rest w2 ks Q) → SimD tb (Γ.push g (.val T.b false)) N k [] [] (l ++ ⟨some d, none, .pick (.t g) (.k (.b true)) (.t t)⟩ :: rest) w ks Q) : SimD tb Γ N k [] [] L w ks Q :=
  ⟨if b = true then (kk true).m else (main kk).m, fun E f H ⟨rv, fp, I⟩ ms hms es hes r hr => by
    cases hms; cases hes
    have hL := splitG_spec h
    simp only [chkG, Bool.and_eq_true, Bool.not_eq_true'] at hc
    obtain ⟨hc1, hc2, hc3⟩ := hc
    have hg := T.b_V.1 (I.temps g _ og)
    have hng := memN_spec hc2
    cases b with
    | false =>
      obtain ⟨p, e, f', H', h4, h5⟩ := (main kk).ok E f H ⟨rv, fp, I.sure hg⟩ [] .nil [] .nil r (by simpa using hr)
      exact ⟨p, e, f', H', by rw [hL]; exact gd_opsT hg hng h4, h5⟩
    | true =>
      obtain ⟨f', h1, h2⟩ := skip_opsT (tb := tb) (cl := den tb) (N := N) (b := false) (H := H) (k := k) (R := ⟨some d, none, .pick (.t g) (.k (.b true)) (.t t)⟩ :: rest) hg hng hc1 (by simp) hw
      have hp : aop tb (den tb) (eval tb f') H (.pick (.t g) (.k (.b true)) (.t t)) = some (.b true, none) := by
        simp only [aop, eval, h1 g hng, hg]; rfl
      have I' : RelI E Γ rv fp f' H := I.fr fun u φ e => h1 u (apart_find hc3 e)
      obtain ⟨p, e, f2, H2, h4, h5⟩ := (kk true).ok E _ H ⟨rv, fp, (put_b I').sub (hs _)⟩ [] .nil [] .nil r (by simpa using hr)
      exact ⟨p, e, f2, H2, by rw [hL]; exact h2 p (stepD hq .nil hp rfl h4), h5⟩⟩
def SimD.pickI {Γ0 : Cx} {rest : List AOper} {g d : Nat} {x b : Bool} {y z : AO} {w : List (Option (Nat × Nat))} {q : Nat × Nat} {N k : Nat} (og : findT Γ.ts g = some (.val T.b b)) (ht : OpF tb Γ (bif b then y else z) (.val T.b x)) (hs : Sub (Γ0.push d (.val T.b x)) (Γ.push d (.val T.b x)))
    (hq : chkD N k [] [] q (some d) (.pick (.t g) y z) = true) (kk : (z : Bool) → SimD tb (Γ0.push d (.val T.b z)) N k [] [] rest w ks Q) {C : List Cb} : SimD tb Γ N k [] C (⟨some d, none, .pick (.t g) y z⟩ :: rest) (some q :: w) ks Q :=
  ⟨(kk x).m, fun E f H ⟨rv, fp, I⟩ ms hms es hes r hr => by
    cases hms
    have hg := T.b_V.1 (I.temps g _ og)
    have hp : aop tb (den tb) (eval tb f) H (.pick (.t g) y z) = some (.b x, none) := by
      have hv := T.b_V.1 (ht E rv fp f H I)
      simp only [aop, eval, hg]
      cases b <;> exact congrArg (fun v => some (v, none)) hv
    obtain ⟨p, e, f2, H2, h4, h5⟩ := (kk x).ok E _ H ⟨rv, fp, (put_b I).sub hs⟩ [] .nil [] .nil r hr
    exact ⟨p, e, f2, H2, opsT_es (es := []) (fun _ hx => absurd hx (by simp)) (stepD hq .nil hp rfl h4), h5⟩⟩

/-! what may be an error: false: nil -/
def T.err : T := T.sc Bool (fun x => if x then .ifc 0 .junk else .nili) false (fun x => by cases x <;> rfl) (fun x => by cases x <;> rfl)
theorem flat_err : T.err.Flat := fun h => h
theorem uni_err : T.err.Uni := T.sc_Uni
theorem T.err_V {P : Nat → Prop} {H : Heap} {v : AV} {x : Bool} : T.err.V P H v x ↔ v = if x then .ifc 0 .junk else .nili := T.sc_V
theorem o_nili : OpF tb Γ (.k .nili) (.val T.err false) := fun _ _ _ _ _ _ => T.err_V.2 rfl
theorem h_mkif {t : Nat} : OpH tb Γ (.mkif t a) (some ()) fun _ => .val T.err true := by
  rintro E rv fp f H R _ ⟨⟩
  exact ⟨_, none, rfl, rfl, T.err_V.2 rfl⟩
theorem h_isni {x neg : Bool} (ha : OpF tb Γ a (.val T.err x)) : OpH tb Γ (.isni neg a) (some (if neg then x else !x)) fun z => .val T.b z := by
  rintro E rv fp f H R _ ⟨⟩
  have h := T.err_V.1 (ha E rv fp f H R)
  refine ⟨.b (if neg then x else !x), none, ?_, rfl, T.b_V.2 rfl⟩
  simp only [aop, h]
  cases x <;> cases neg <;> rfl
/-! a table of the program's -/
theorem o_g {n : Nat} {t : T} {cs : List AV} {x : t.α} (h : tb.gl n = some cs) (hm : mentL cs = 0) (hr : ∀ P H, t.R P H cs x) : OpF tb Γ (.g n) (.rp t x) := fun E rv fp f H R => by
  have hl := t.len (hr (Pf E Γ.ss fp H) H)
  have he : eval tb f (.g n) = .ip cs 0 := by simp only [eval, h]
  show RpV t _ _ _ _
  rw [he]
  refine ⟨trivial, cs, 0, rfl, by omega, ?_, fun m _ => by simp only [ment, hm]; omega⟩
  have : sub cs 0 t.sz = cs := by simp [sub, ← hl]
  rw [this]; exact hr _ _
theorem tab_m {α : Type} (c : α → AV) (hm : ∀ x, ment (c x) = 0) : ∀ l : List α, mentL (l.map c) = 0
  | [] => rfl
  | x :: l => by simp only [List.map_cons, mentL, hm x, tab_m c hm l]; rfl
theorem tab_R {α : Type} {c : α → AV} {z : α} {hs hm} {n : Nat} {P : Nat → Prop} {H : Heap} (x : Ar α n) : (T.arr n (T.sc α c z hs hm)).R P H (x.l.map c) x := by
  have key : ∀ l : List α, l.map c = (l.map fun y => [c y]).flatten ∧ AllR (T.sc α c z hs hm) P H (l.map fun y => [c y]) l := fun l => by
    induction l with
    | nil => exact ⟨rfl, trivial⟩
    | cons y l ih => exact ⟨by simp [ih.1], rfl, ih.2⟩
  exact ⟨_, (key x.l).1, (key x.l).2⟩
end

/-! maps -/
def EsR (K V : T) (P : Nat → Prop) (H : Heap) : List (AV × AV) → List (K.α × V.α) → Prop
  | [], [] => True
  | (a, b) :: r, (x, y) :: q => K.V P H a x ∧ V.V P H b y ∧ EsR K V P H r q
  | _, _ => False
section
variable {K V : T} {P Q : Nat → Prop} {H G : Heap}
theorem EsR.mono (m : ∀ i, P i → Q i ∧ G[i]? = H[i]?) : ∀ {es : List (AV × AV)} {l : List (K.α × V.α)}, EsR K V P H es l → EsR K V Q G es l
  | [], [], _ => trivial
  | (_, _) :: _, (_, _) :: _, ⟨h1, h2, h3⟩ => ⟨h1.mono m, h2.mono m, h3.mono m⟩
theorem EsR.men {m : Nat} (hp : ∀ i, P i → i < m) : ∀ {es : List (AV × AV)} {l : List (K.α × V.α)}, EsR K V P H es l → mentL (es.map (·.1)) ≤ m ∧ mentL (es.map (·.2)) ≤ m
  | [], [], _ => by simp [mentL]
  | (_, _) :: _, (_, _) :: _, ⟨h1, h2, h3⟩ => by
    have := h1.men hp; have := h2.men hp; have := h3.men hp
    simp only [List.map_cons, mentL]; omega
theorem EsR.app : ∀ {es fs : List (AV × AV)} {l m : List (K.α × V.α)}, EsR K V P H es l → EsR K V P H fs m → EsR K V P H (es ++ fs) (l ++ m)
  | [], _, [], _, _, h => h
  | (_, _) :: _, _, (_, _) :: _, _, ⟨h1, h2, h3⟩, h => ⟨h1, h2, h3.app h⟩
theorem EsR.length : ∀ {es : List (AV × AV)} {l : List (K.α × V.α)}, EsR K V P H es l → es.length = l.length
  | [], [], _ => rfl
  | (_, _) :: _, (_, _) :: _, ⟨_, _, h3⟩ => by simp [h3.length]
end

def mget {κ ν : Type} (e : κ → κ → Bool) : List (κ × ν) → κ → Option ν
  | [], _ => none
  | (x, v) :: r, k => bif e k x then some v else mget e r k
def mset {κ ν : Type} (e : κ → κ → Bool) : List (κ × ν) → κ → ν → List (κ × ν)
  | [], k, v => [(k, v)]
  | (x, y) :: r, k, v => bif e k x then (k, v) :: r else (x, y) :: mset e r k v
def mdel {κ ν : Type} (e : κ → κ → Bool) : List (κ × ν) → κ → List (κ × ν)
  | [], _ => []
  | (x, y) :: r, k => bif e k x then r else (x, y) :: mdel e r k

def DMap (K V : T) : Dom where
  α := List (K.α × V.α)
  R := fun F P H v x => ∃ id es, v = .mp id ∧ (∀ i, F i ↔ i = id) ∧ H[id]? = some (.map es) ∧ EsR K V P H es x
  lt := fun ⟨id, es, _, hF, h, _⟩ i hi => by rw [(hF i).1 hi]; exact (List.getElem?_eq_some_iff.1 h).1
  men := fun ⟨id, es, e, hF, _, _⟩ _ hm => by rw [e]; simp only [ment]; exact hm id ((hF id).2 rfl)
  mono := fun m g ⟨id, es, e, hF, h, r⟩ => ⟨id, es, e, hF, by rw [g id ((hF id).2 rfl)]; exact h, r.mono m⟩

/-- how keys of a type are compared -/
structure KeyC (K : T) (ek : EK) where
  l : List CK
  p : CmpC K l
  h : (K.agg = true ∧ ek = .agg l) ∨ (K.agg = false ∧ ∃ c, l = [c] ∧ ek = .one c)
def KeyC.e {K : T} {ek : EK} (q : KeyC K ek) : K.α → K.α → Bool := cmpB q.p
theorem eqS_len : ∀ {l : List CK} {c d : List AV} {b : Bool}, eqS l c d = some b → c.length = l.length
  | [], [], [], _, _ => rfl
  | [], [], _ :: _, _, h => by simp [eqS] at h
  | [], _ :: _, _, _, h => by simp [eqS] at h
  | _ :: _, [], _, _, h => by simp [eqS] at h
  | _ :: _, _ :: _, [], _, h => by simp [eqS] at h
  | k :: l, x :: c, y :: d, b, h => by
    simp only [eqS] at h
    obtain ⟨a, _, h⟩ := Option.bind_eq_some_iff.1 h
    obtain ⟨b', h, _⟩ := Option.map_eq_some_iff.1 h
    simp [eqS_len h]
section
variable {K V : T} {P Q : Nat → Prop} {H G : Heap} {ek : EK}
theorem KeyC.eq (q : KeyC K ek) {v w : AV} {x y : K.α} (h : K.V P H v x) (g : K.V Q G w y) : eqK ek v w = some (q.e x y) := by
  rcases q.h with ⟨ha, e⟩ | ⟨ha, c, hl, e⟩
  · rcases h with ⟨_, cs, rfl, h⟩ | ⟨hb, _⟩
    · rcases g with ⟨_, ds, rfl, g⟩ | ⟨hb, _⟩
      · exact (congrArg (fun e => eqK e _ _) e).trans (q.p.h h g)
      · rw [ha] at hb; cases hb
    · rw [ha] at hb; cases hb
  · rcases h with ⟨hb, _⟩ | ⟨_, h⟩
    · rw [ha] at hb; cases hb
    · rcases g with ⟨hb, _⟩ | ⟨_, g⟩
      · rw [ha] at hb; cases hb
      · have := q.p.h h g
        refine (congrArg (fun e => eqK e _ _) e).trans ?_
        simp only [hl, eqS] at this
        simp only [eqK]
        obtain ⟨b, h1, h2⟩ := Option.bind_eq_some_iff.1 this
        simp only [Option.map_some, Bool.and_true, Option.some.injEq] at h2
        rw [h1, h2]; rfl
theorem KeyC.ok (q : KeyC K ek) {v : AV} {x : K.α} (h : K.V P H v x) : keyOk ek v = true := by
  rcases q.h with ⟨ha, e⟩ | ⟨ha, c, hl, e⟩
  · rcases h with ⟨_, cs, rfl, h⟩ | ⟨hb, _⟩
    · refine (congrArg (fun e => keyOk e _) e).trans ?_
      simp only [keyOk, eqS_len (q.p.h h h), Nat.beq_refl]
    · rw [ha] at hb; cases hb
  · exact (congrArg (fun e => keyOk e _) e).trans rfl
theorem find_spec (q : KeyC K ek) {k : AV} {x : K.α} (hk : K.V P H k x) : ∀ {es : List (AV × AV)} {m : List (K.α × V.α)} (i : Nat), EsR K V P H es m →
    (∃ j b y, Am.find ek k es i = some (some (i + j, b)) ∧ mget q.e m x = some y ∧ V.V P H b y ∧ (∀ b' y', V.V P H b' y' → EsR K V P H (es.set j (k, b')) (mset q.e m x y')) ∧ EsR K V P H (es.eraseIdx j) (mdel q.e m x)) ∨
    (Am.find ek k es i = some none ∧ mget q.e m x = none ∧ (∀ y', mset q.e m x y' = m ++ [(x, y')]) ∧ mdel q.e m x = m)
  | [], [], i, _ => .inr ⟨rfl, rfl, fun _ => rfl, rfl⟩
  | (a, b) :: r, (x', y) :: m, i, ⟨h1, h2, h3⟩ => by
    have he := q.eq hk h1
    cases hq : q.e x x' with
    | true =>
      refine .inl ⟨0, b, y, ?_, ?_, h2, fun b' y' h => ?_, ?_⟩
      · simp only [Am.find, he, hq, Option.bind_some, if_true, Nat.add_zero]
      · simp only [mget, hq, cond_true]
      · simp only [List.set_cons_zero, mset, hq, cond_true]; exact ⟨hk, h, h3⟩
      · simp only [List.eraseIdx_cons_zero, mdel, hq, cond_true]; exact h3
    | false =>
      rcases find_spec q hk (i + 1) h3 with ⟨j, b', y', g1, g2, g3, g4, g5⟩ | ⟨g1, g2, g3, g4⟩
      · refine .inl ⟨j + 1, b', y', ?_, ?_, g3, fun b2 y2 h => ?_, ?_⟩
        · simp only [Am.find, he, hq, Option.bind_some, Bool.false_eq_true, if_false, g1]; congr 3; omega
        · simp only [mget, hq, cond_false, g2]
        · simp only [List.set_cons_succ, mset, hq, cond_false]; exact ⟨h1, h2, g4 b2 y2 h⟩
        · simp only [List.eraseIdx_cons_succ, mdel, hq, cond_false]; exact ⟨h1, h2, g5⟩
      · refine .inr ⟨?_, ?_, fun y2 => ?_, ?_⟩
        · simp only [Am.find, he, hq, Option.bind_some, Bool.false_eq_true, if_false, g1]
        · simp only [mget, hq, cond_false, g2]
        · simp only [mset, hq, cond_false, g3, List.cons_append]
        · simp only [mdel, hq, cond_false, g4]
end

section
variable {tb : Tab} {Γ : Cx} {a b c : AO} {K V : T} {ek : EK}
def ZeroV (V : T) (z : AV) : Prop := (V.agg = true ∧ z = .agg V.zc) ∨ (V.agg = false ∧ V.zc = [z])
theorem ZeroV.v {V : T} {z : AV} (h : ZeroV V z) {P : Nat → Prop} {H : Heap} : V.V P H z V.z := by
  rcases h with ⟨h, rfl⟩ | ⟨h, e⟩
  · exact .inl ⟨h, _, rfl, V.hz P H⟩
  · exact .inr ⟨h, by rw [← e]; exact V.hz P H⟩
theorem M_mkm {d : Nat} (j : Nat) (hj : findS Γ.ss j = none) : OpM tb Γ (some d) .mkm (some ()) fun _ => ⟨(d, .own j) :: Γ.ts, (j, .dom (DMap K V) []) :: Γ.ss⟩ := by
  rintro E rv fp f H R _ ⟨⟩
  obtain ⟨rv', fp', h1, h2, h3⟩ := R.more (j := j) (S := .dom (DMap K V) []) (v := .mp H.length) (o := .map []) (live_none hj) (by simp [mentO, mentL]) rfl (by simp [ment]) rfl fun rv' fp' e1 e2 hP hs =>
    ⟨_, [], e1, e2, by simp, trivial⟩
  exact ⟨.mp H.length, some (H ++ [AObj.map []]), rfl, rv', fp', h3.push (d := d) (φ := .own j) ⟨h2, h1.symm⟩⟩
theorem map_of {E : Env} {rv : Nat → AV} {fp : Fp} {f : Fr} {H : Heap} (R : RelI E Γ rv fp f H) {j : Nat} {m : List (K.α × V.α)} (hj : findS Γ.ss j = some (.dom (DMap K V) m)) (ha : OpF tb Γ a (.own j)) :
    ∃ id es, eval tb f a = .mp id ∧ rv j = .mp id ∧ (∀ i, fp j i ↔ i = id) ∧ H[id]? = some (.map es) ∧ EsR K V (Pf E Γ.ss fp H) H es m := by
  obtain ⟨_, hv⟩ := ha E rv fp f H R
  obtain ⟨id, es, e, hF, hH, h⟩ := R.slots j _ hj
  exact ⟨id, es, hv.trans e, e, hF, hH, h⟩
theorem h_lkp {j : Nat} {m : List (K.α × V.α)} {x : K.α} {z : AV} (q : KeyC K ek) (hz : ZeroV V z) (ha : OpF tb Γ a (.own j)) (hj : findS Γ.ss j = some (.dom (DMap K V) m)) (hb : OpF tb Γ b (.val K x)) :
    OpH tb Γ (.lkp ek z false a b) (some ()) fun _ => .val V ((mget q.e m x).getD V.z) := by
  rintro E rv fp f H R _ ⟨⟩
  obtain ⟨id, es, e1, _, _, e2, e3⟩ := map_of R hj ha
  have hk := hb E rv fp f H R
  have he : entries H (.mp id) = some es := by simp only [entries, mapAt, e2]
  rcases find_spec q hk 0 e3 with ⟨j', b', y, g1, g2, g3, _, _⟩ | ⟨g1, g2, _, _⟩
  · exact ⟨b', none, by simp only [aop, q.ok hk, if_true, e1, he, Option.bind_some, g1, Option.map_some, Bool.false_eq_true, if_false], rfl, by rw [g2]; exact g3⟩
  · exact ⟨z, none, by simp only [aop, q.ok hk, if_true, e1, he, Option.bind_some, g1, Option.map_some, Bool.false_eq_true, if_false], rfl, by rw [g2]; exact hz.v⟩
theorem h_lkpO {j : Nat} {m : List (K.α × V.α)} {x : K.α} {z : AV} (q : KeyC K ek) (hz : ZeroV V z) (ha : OpF tb Γ a (.own j)) (hj : findS Γ.ss j = some (.dom (DMap K V) m)) (hb : OpF tb Γ b (.val K x)) :
    OpH tb Γ (.lkp ek z true a b) (some (mget q.e m x)) fun r => .tup [⟨V, r.getD V.z⟩, ⟨T.b, r.isSome⟩] := by
  rintro E rv fp f H R _ ⟨⟩
  obtain ⟨id, es, e1, _, _, e2, e3⟩ := map_of R hj ha
  have hk := hb E rv fp f H R
  have he : entries H (.mp id) = some es := by simp only [entries, mapAt, e2]
  rcases find_spec q hk 0 e3 with ⟨j', b', y, g1, g2, g3, _, _⟩ | ⟨g1, g2, _, _⟩
  · exact ⟨.tup [b', .b true], none, by simp only [aop, q.ok hk, if_true, e1, he, Option.bind_some, g1, Option.map_some], rfl, [b', .b true], rfl, by rw [g2]; exact ⟨g3, T.b_V.2 rfl, trivial⟩⟩
  · exact ⟨.tup [z, .b false], none, by simp only [aop, q.ok hk, if_true, e1, he, Option.bind_some, g1, Option.map_some], rfl, [z, .b false], rfl, by rw [g2]; exact ⟨hz.v, T.b_V.2 rfl, trivial⟩⟩
theorem h_lenm {j : Nat} {m : List (K.α × V.α)} (ha : OpF tb Γ a (.own j)) (hj : findS Γ.ss j = some (.dom (DMap K V) m)) : OpH tb Γ (.lenm a) (some (m.length : Int)) fun n => .val (T.int .i64) n := by
  rintro E rv fp f H R _ ⟨⟩
  obtain ⟨id, es, e1, _, _, e2, e3⟩ := map_of R hj ha
  exact ⟨.i .i64 es.length, none, by simp only [aop, e1, entries, mapAt, e2, Option.map_some], rfl, T.int_V.2 (by rw [e3.length])⟩
theorem map_put {E : Env} {rv : Nat → AV} {fp : Fp} {f : Fr} {H : Heap} (R : RelI E Γ rv fp f H) {j id : Nat} {m m' : List (K.α × V.α)} {es' : List (AV × AV)} (hj : findS Γ.ss j = some (.dom (DMap K V) m)) (e0 : rv j = .mp id) (hF : ∀ i, fp j i ↔ i = id)
    (h : EsR K V (Pf E Γ.ss fp H) H es' m') : ∃ rv' fp', RelI E ⟨Γ.ts, (j, .dom (DMap K V) m') :: Γ.ss⟩ rv' fp' f (H.set id (.map es')) := by
  have hl : live Γ.ss j := live_of hj rfl
  have hm := h.men R.ltP
  obtain ⟨rv', fp', h1, h2, h3⟩ := R.set (j := j) (S := .dom (DMap K V) m') (v := rv j) (o := .map es') (by rw [hj]; rfl) hl hF (by simp only [mentO]; omega) rfl (R.rvlt j hl) (.inl rfl) (R.scal j hl)
    fun rv' fp' e1 e2 hP _ => ⟨id, es', by rw [e1, e0], e2, by rw [List.getElem?_set_self (R.fplt j id hl ((hF id).2 rfl)).1], h.mono hP⟩
  exact ⟨rv', fp', h3⟩
theorem M_mup {j : Nat} {m : List (K.α × V.α)} {x : K.α} {y : V.α} (q : KeyC K ek) (ha : OpF tb Γ a (.own j)) (hj : findS Γ.ss j = some (.dom (DMap K V) m)) (hb : OpF tb Γ b (.val K x)) (hc : OpF tb Γ c (.val V y)) :
    OpM tb Γ none (.mup ek a b c) (some (mset q.e m x y)) fun m' => ⟨Γ.ts, (j, .dom (DMap K V) m') :: Γ.ss⟩ := by
  rintro E rv fp f H R _ ⟨⟩
  obtain ⟨id, es, e1, e0, hF, e2, e3⟩ := map_of R hj ha
  have hk := hb E rv fp f H R
  have hv := hc E rv fp f H R
  have he : mapAt H id = some es := by simp only [mapAt, e2]
  rcases find_spec q hk 0 e3 with ⟨j', b', y', g1, g2, g3, g4, _⟩ | ⟨g1, g2, g3, _⟩
  · obtain ⟨rv', fp', h⟩ := map_put R hj e0 hF (g4 _ y hv)
    exact ⟨.junk, some (H.set id (.map (es.set j' (eval tb f b, eval tb f c)))), by simp only [aop, q.ok hk, if_true, e1, he, Option.bind_some, g1, Option.map_some, Nat.zero_add], rv', fp', h⟩
  · obtain ⟨rv', fp', h⟩ := map_put R hj e0 hF (e3.app (fs := [(eval tb f b, eval tb f c)]) (m := [(x, y)]) ⟨hk, hv, trivial⟩)
    exact ⟨.junk, some (H.set id (.map (es ++ [(eval tb f b, eval tb f c)]))), by simp only [aop, q.ok hk, if_true, e1, he, Option.bind_some, g1, Option.map_some], rv', fp', by rw [g3]; exact h⟩
theorem M_mdel {j : Nat} {m : List (K.α × V.α)} {x : K.α} (q : KeyC K ek) (ha : OpF tb Γ a (.own j)) (hj : findS Γ.ss j = some (.dom (DMap K V) m)) (hb : OpF tb Γ b (.val K x)) :
    OpM tb Γ none (.del ek a b) (some (mdel q.e m x)) fun m' => ⟨Γ.ts, (j, .dom (DMap K V) m') :: Γ.ss⟩ := by
  rintro E rv fp f H R _ ⟨⟩
  obtain ⟨id, es, e1, e0, hF, e2, e3⟩ := map_of R hj ha
  have hk := hb E rv fp f H R
  have he : mapAt H id = some es := by simp only [mapAt, e2]
  rcases find_spec q hk 0 e3 with ⟨j', b', y', g1, g2, g3, _, g5⟩ | ⟨g1, g2, g3, g4⟩
  · obtain ⟨rv', fp', h⟩ := map_put R hj e0 hF g5
    exact ⟨.tup [], some (H.set id (.map (es.eraseIdx j'))), by simp only [aop, q.ok hk, if_true, e1, he, Option.bind_some, g1, Option.map_some, Nat.zero_add], rv', fp', h⟩
  · obtain ⟨rv', fp', h⟩ := map_put R hj e0 hF (m' := mdel q.e m x) (by rw [g4]; exact e3)
    refine ⟨.tup [], none, by simp only [aop, q.ok hk, if_true, e1, he, Option.bind_some, g1, Option.map_some], rv', fp', ?_⟩
    have : H.set id (.map es) = H := by
      apply List.ext_getElem?
      intro i
      by_cases hi : id = i
      · subst hi; rw [e2, List.getElem?_set_self (List.getElem?_eq_some_iff.1 e2).1]
      · rw [List.getElem?_set_ne hi]
    rw [this] at h
    exact h
end
end Go.Proofs.YtobejhpigbllpaaGreatDoor.Am
