/-
  A region whose order is drawn: one walk, in the order of the text, serves every order.
-/
import Derived.Test.YtobejhpigbllpaaGreatDoorAmI
namespace Go.Proofs.YtobejhpigbllpaaGreatDoor.Am

/-- what an operation waits for -/
def waits (rs : Array Oper) (i : Nat) : List Nat :=
  match rs[i]? with
  | some o => (o.after.toList.filter (Region.binds .any)).map (·.on)
  | none => []
/-- j comes ahead of i in any order -/
def ancB (rs : Array Oper) : Nat → Nat → Nat → Bool
  | 0, _, _ => false
  | n + 1, j, i => (waits rs i).any (fun e => Nat.beq e j) || (waits rs i).any fun e => ancB rs n j e

theorem ancB_spec {rs : Array Oper} {L : Nat → Prop} (hd : ∀ i, L i → ∀ e ∈ waits rs i, L e) : ∀ {n j i : Nat}, ancB rs n j i = true → (∀ e ∈ waits rs i, L e) → L j
  | 0, _, _, h, _ => by simp [ancB] at h
  | n + 1, j, i, h, hi => by
    simp only [ancB, List.any_eq_true, Bool.or_eq_true, Nat.beq_eq] at h
    rcases h with ⟨e, he, rfl⟩ | ⟨e, he, h⟩
    · exact hi _ he
    · exact ancB_spec hd h (hd e (hi e he))

def looks (ao : AOper) : List Nat := gT ao.g ++ opT ao.o

def okPair (rs : Array Oper) (l : List AOper) (ws : List (Option (Nat × Nat))) (i j : Nat) : Bool :=
  match l[i]?, l[j]? with
  | some x, some y =>
    (match x.d with | some t => decide (y.d ≠ some t) | none => true) &&
    (match y.d with | some t => !(looks x).contains t || (decide (j < i) && ancB rs rs.size j i) | none => true) &&
    (match ws[i]?, ws[j]? with
      | some none, some none => !decide (j < i) || ancB rs rs.size j i
      | some (some (lo, hi)), some none => (!decide (rank ws j < lo) || ancB rs rs.size j i) && (!decide (hi ≤ rank ws j) || ancB rs rs.size i j)
      | _, _ => true)
  | _, _ => true

def okD (T : AOp → Oper → Bool) (nt : Nat) (rs : Array Oper) (l : List AOper) (ws : List (Option (Nat × Nat))) : Bool :=
  okOpers T nt rs l rs.toList && (List.range rs.size).all fun i =>
    (waits rs i).all (fun e => decide (e < i)) && (match l[i]? with | some x => (match x.d with | some t => !(looks x).contains t | none => true) | none => true) &&
    (match ws[i]? with | some (some (lo, _)) => decide (lo ≤ rank ws rs.size) | _ => true) &&
    (List.range rs.size).all fun j => i == j || okPair rs l ws i j

theorem get_put (f : Fr) (d : Option Nat) (v : AV) (t : Nat) : get (put f d v) t = if d = some t then v else get f t := by
  cases d with
  | none => simp [put]
  | some u => simp [put, get]

theorem okOpers_length {T : AOp → Oper → Bool} {nt : Nat} {rs : Array Oper} : ∀ {l : List AOper} {os : List Oper}, okOpers T nt rs l os = true → l.length = os.length
  | [], [], _ => rfl
  | [], _ :: _, h => by simp [okOpers] at h
  | _ :: _, [], h => by simp [okOpers] at h
  | _ :: _, _ :: _, h => by
    simp only [okOpers, Bool.and_eq_true] at h
    simp [okOpers_length h.2]
theorem okOpers_get {T : AOp → Oper → Bool} {nt : Nat} {rs : Array Oper} : ∀ {l : List AOper} {os : List Oper} {i : Nat} {x : AOper} {o : Oper}, okOpers T nt rs l os = true → l[i]? = some x → os[i]? = some o → okOper T nt rs x o = true
  | [], _, _, _, _, _, h, _ => by simp at h
  | _ :: _, [], _, _, _, _, _, h => by simp at h
  | _ :: _, _ :: _, 0, _, _, h, h1, h2 => by
    simp only [okOpers, Bool.and_eq_true] at h
    simp only [List.getElem?_cons_zero, Option.some.injEq] at h1 h2
    subst h1; subst h2
    exact h.1
  | _ :: _, _ :: _, i + 1, _, _, h, h1, h2 => by
    simp only [okOpers, Bool.and_eq_true] at h
    exact okOpers_get h.2 (i := i) (by simpa using h1) (by simpa using h2)

theorem rank_lt : ∀ {ws : List (Option (Nat × Nat))} {i j : Nat}, ws[i]? = some none → i < j → rank ws i < rank ws j
  | [], _, _, h, _ => by simp at h
  | _, _, 0, _, h => by omega
  | none :: ws, 0, j + 1, _, _ => by simp only [rank]; omega
  | some _ :: ws, 0, j + 1, h, _ => by simp at h
  | none :: ws, i + 1, j + 1, h, h' => by
    have := rank_lt (ws := ws) (i := i) (j := j) (by simpa using h) (by omega)
    simp only [rank]; omega
  | some _ :: ws, i + 1, j + 1, h, h' => by
    have := rank_lt (ws := ws) (i := i) (j := j) (by simpa using h) (by omega)
    simp only [rank]; omega
theorem rank_ex : ∀ {ws : List (Option (Nat × Nat))} {n k : Nat}, k < rank ws n → ∃ j, j < n ∧ ws[j]? = some none ∧ rank ws j = k
  | _, 0, _, h => by simp [rank] at h
  | [], _ + 1, _, h => by simp [rank] at h
  | none :: ws, n + 1, 0, _ => ⟨0, by omega, rfl, rfl⟩
  | none :: ws, n + 1, k + 1, h => by
    obtain ⟨j, h1, h2, h3⟩ := rank_ex (ws := ws) (n := n) (k := k) (by simp only [rank] at h; omega)
    exact ⟨j + 1, by omega, by simpa using h2, by simp only [rank, h3]⟩
  | some _ :: ws, n + 1, k, h => by
    obtain ⟨j, h1, h2, h3⟩ := rank_ex (ws := ws) (n := n) (k := k) (by simpa [rank] using h)
    exact ⟨j + 1, by omega, by simpa using h2, by simp only [rank, h3]⟩

section
variable {T : AOp → Oper → Bool} {P : Program} {tb : Tab} {cl : Nat → List AV → Heap → Out} {nt : Nat} {rs : Array Oper} {l : List AOper} {ws : List (Option (Nat × Nat))} {hs : List Heap} {fr : Nat → Fr} {vl : Nat → AV}

def On (listed : Array Bool) (i : Nat) : Prop := listed.getD i false = true

structure St (rs : Array Oper) (l : List AOper) (ws : List (Option (Nat × Nat))) (hs : List Heap) (fr : Nat → Fr) (vl : Nat → AV) (listed : Array Bool) (H : Heap) (f : Fr) : Prop where
  size : listed.size = rs.size
  down : ∀ i, On listed i → ∀ e ∈ waits rs i, On listed e
  heap : ∃ k, hs[k]? = some H ∧ ∀ j, j < rs.size → ws[j]? = some none → (On listed j ↔ rank ws j < k)
  vals : ∀ i ai t, On listed i → l[i]? = some ai → ai.d = some t → get f t = vl i
  rest : ∀ t, (∀ i ai, On listed i → l[i]? = some ai → ai.d ≠ some t) → get f t = get (fr 0) t

theorem on_set {listed : Array Bool} {i j : Nat} (hi : i < listed.size) : On (listed.setIfInBounds i true) j ↔ j = i ∨ On listed j := by
  unfold On
  by_cases h : i = j
  · subst h; simp [Array.getD_eq_getD_getElem?, hi]
  · rw [getD_set_ne false h]
    exact ⟨.inr, fun e => e.resolve_left (Ne.symm h)⟩

theorem waits_mem {i : Nat} {o : Oper} (h : rs[i]? = some o) {e : Nat} : e ∈ waits rs i ↔ ∃ x ∈ o.after, Region.binds .any x = true ∧ x.on = e := by
  simp only [waits, h, List.mem_map, List.mem_filter, Array.mem_toList_iff]
  exact ⟨fun ⟨x, ⟨h1, h2⟩, h3⟩ => ⟨x, h1, h2, h3⟩, fun ⟨x, h1, h2, h3⟩ => ⟨x, ⟨h1, h2⟩, h3⟩⟩

theorem ready_iff {listed : Array Bool} (hsz : listed.size = rs.size) {i : Nat} : i ∈ Region.ready .any rs listed ↔ i < rs.size ∧ ¬ On listed i ∧ ∀ e ∈ waits rs i, On listed e := by
  rw [mem_ready]
  constructor
  · rintro ⟨h1, o, ho, h2⟩
    have hi : i < rs.size := (Array.getElem?_eq_some_iff.1 ho).1
    refine ⟨hi, fun h => ?_, fun e he => ?_⟩
    · unfold On at h
      simp [Array.getD_eq_getD_getElem?, show i < listed.size by omega] at h h1
      rw [h1] at h; cases h
    · obtain ⟨x, hx, hb, rfl⟩ := (waits_mem ho).1 he
      exact h2 x hx hb
  · rintro ⟨hi, h1, h2⟩
    obtain ⟨o, ho⟩ : ∃ o, rs[i]? = some o := ⟨rs[i], Array.getElem?_eq_getElem hi⟩
    refine ⟨?_, o, ho, fun x hx hb => h2 _ ((waits_mem ho).2 ⟨x, hx, hb, rfl⟩)⟩
    unfold On at h1
    simp [Array.getD_eq_getD_getElem?, show i < listed.size by omega] at h1 ⊢
    exact h1

theorem okD_spec (h : okD T nt rs l ws = true) : l.length = rs.size ∧ (∀ (i : Nat) (x : AOper) (o : Oper), l[i]? = some x → rs[i]? = some o → okOper T nt rs x o = true) ∧ (∀ i, i < rs.size → ∀ e ∈ waits rs i, e < i) ∧
    (∀ (i j : Nat) (x y : AOper) (t : Nat), l[i]? = some x → l[j]? = some y → i ≠ j → x.d = some t → y.d ≠ some t) ∧
    (∀ (i j : Nat) (x y : AOper) (t : Nat), l[i]? = some x → l[j]? = some y → y.d = some t → t ∈ looks x → j < i ∧ ancB rs rs.size j i = true) ∧
    (∀ i j, i < rs.size → j < rs.size → i ≠ j → ws[i]? = some none → ws[j]? = some none → j < i → ancB rs rs.size j i = true) ∧
    (∀ i j lo hi, i < rs.size → j < rs.size → ws[i]? = some (some (lo, hi)) → ws[j]? = some none → (rank ws j < lo → ancB rs rs.size j i = true) ∧ (hi ≤ rank ws j → ancB rs rs.size i j = true)) ∧
    (∀ i lo hi, i < rs.size → ws[i]? = some (some (lo, hi)) → lo ≤ rank ws rs.size) := by
  simp only [okD, Bool.and_eq_true, List.all_eq_true, List.mem_range, decide_eq_true_eq, Bool.or_eq_true, beq_iff_eq] at h
  obtain ⟨h1, h2⟩ := h
  have hlen : l.length = rs.size := by rw [okOpers_length h1]; simp
  have lt : ∀ {i x}, l[i]? = some x → i < rs.size := fun {i x} e => by have := lt_of_get e; omega
  have pair : ∀ i j, i < rs.size → j < rs.size → i ≠ j → okPair rs l ws i j = true := fun i j hi hj hne => ((h2 i hi).2 j hj).resolve_left hne
  refine ⟨hlen, fun i x o hx ho => okOpers_get h1 hx (by simpa using ho), fun i hi => (h2 i hi).1.1.1, ?_, ?_, ?_, ?_, fun i lo hi hil hw => ?_⟩
  · intro i j x y t hx hy hne hd
    have := pair i j (lt hx) (lt hy) hne
    simp only [okPair, hx, hy, hd, Bool.and_eq_true, decide_eq_true_eq] at this
    exact this.1.1
  · intro i j x y t hx hy hd ht
    by_cases hij : i = j
    · subst hij
      rw [hx] at hy
      obtain rfl := Option.some.inj hy
      have := (h2 i (lt hx)).1.1.2
      simp only [hx, hd, Bool.not_eq_true'] at this
      simp [ht] at this
    · have := pair i j (lt hx) (lt hy) hij
      simp only [okPair, hx, hy, hd, Bool.and_eq_true, Bool.or_eq_true, decide_eq_true_eq, Bool.not_eq_true'] at this
      rcases this.1.2 with h | h
      · simp [ht] at h
      · exact h
  · intro i j hi hj hne hwi hwj hlt
    have := pair i j hi hj hne
    obtain ⟨x, hx⟩ : ∃ x, l[i]? = some x := ⟨_, List.getElem?_eq_getElem (by omega)⟩
    obtain ⟨y, hy⟩ : ∃ x, l[j]? = some x := ⟨_, List.getElem?_eq_getElem (by omega)⟩
    simp only [okPair, hx, hy, hwi, hwj, Bool.and_eq_true, Bool.or_eq_true, Bool.not_eq_true', decide_eq_false_iff_not] at this
    exact this.2.resolve_left (by omega)
  · intro i j lo hi hil hjl hwi hwj
    have hne : i ≠ j := by rintro rfl; rw [hwi] at hwj; cases hwj
    have := pair i j hil hjl hne
    obtain ⟨x, hx⟩ : ∃ x, l[i]? = some x := ⟨_, List.getElem?_eq_getElem (by omega)⟩
    obtain ⟨y, hy⟩ : ∃ x, l[j]? = some x := ⟨_, List.getElem?_eq_getElem (by omega)⟩
    simp only [okPair, hx, hy, hwi, hwj, Bool.and_eq_true, Bool.or_eq_true, Bool.not_eq_true', decide_eq_false_iff_not] at this
    exact ⟨fun h => this.2.1.resolve_left (by omega), fun h => this.2.2.resolve_left (by omega)⟩
  · have := (h2 i hil).1.2
    simpa only [hw, decide_eq_true_eq] using this

/-- the frames of the walk in the order of the text -/
theorem lex_frames (hstep : ∀ i ao, l[i]? = some ao → fr (i + 1) = put (fr i) ao.d (vl i)) (h3 : ∀ (i j : Nat) (x y : AOper) (t : Nat), l[i]? = some x → l[j]? = some y → i ≠ j → x.d = some t → y.d ≠ some t) :
    ∀ m, m ≤ l.length → (∀ i x t, i < m → l[i]? = some x → x.d = some t → get (fr m) t = vl i) ∧ (∀ t, (∀ i x, i < m → l[i]? = some x → x.d ≠ some t) → get (fr m) t = get (fr 0) t)
  | 0, _ => ⟨fun _ _ _ h => by omega, fun _ _ => rfl⟩
  | m + 1, hm => by
    obtain ⟨q1, q2⟩ := lex_frames hstep h3 m (by omega)
    obtain ⟨x, hx⟩ : ∃ x, l[m]? = some x := ⟨_, List.getElem?_eq_getElem (by omega)⟩
    rw [hstep m x hx]
    refine ⟨fun i y t hi hy hd => ?_, fun t ht => ?_⟩
    · rw [get_put]
      by_cases him : i = m
      · subst him
        rw [hx] at hy
        obtain rfl := Option.some.inj hy
        rw [if_pos hd]
      · rw [if_neg (h3 i m y x t hy hx him hd)]
        exact q1 i y t (by omega) hy hd
    · rw [get_put, if_neg (ht m x (by omega) hx)]
      exact q2 t fun i y hi => ht i y (by omega)

theorem any_sound (hT : ∀ ao o, T ao o = true → OpOk P tb ao o) (hcl : CallsOk P tb fun g args h => calling tb cl h g args) {Q : Exit → Act → World → Prop} (hok : okD T nt rs l ws = true)
    (hk : rank ws l.length + 1 = hs.length) (hstep : ∀ i ao, l[i]? = some ao → fr (i + 1) = put (fr i) ao.d (vl i) ∧ ∃ w, ws[i]? = some w ∧ Stepped tb cl hs (rank ws i) ao w (fr i) (vl i)) {C₀ : Ctx}
    (k : ∀ (D : Ctx) (a' : Act), Ext C₀ D → Inv tb D → hs.getLast? = some D.H → FrRel D (fr l.length) a' nt → Q .normal a' D.w) :
    ∀ (fuel : Nat) (listed : Array Bool) (C : Ctx) (f : Fr) (a : Act), listed.toList.count false ≤ fuel → St rs l ws hs fr vl listed C.H f → Ext C₀ C → Inv tb C → FrRel C f a nt → wpAny P .any rs Q fuel listed a C.w := by
  obtain ⟨c1, c2, c3, c4, c5, c6, c7, c8⟩ := okD_spec hok
  have lexf := lex_frames (fun i ao h => (hstep i ao h).1) c4
  -- at the end
  have fin : ∀ (listed : Array Bool) (C : Ctx) (f : Fr) (a : Act), Region.ready .any rs listed = [] → St rs l ws hs fr vl listed C.H f → Ext C₀ C → Inv tb C → FrRel C f a nt → Q .normal a C.w := by
    intro listed C f a hr S X I F
    have all : ∀ n i, i < n → i < rs.size → On listed i := by
      intro n
      induction n with
      | zero => intro i h; omega
      | succ n ih =>
        intro i hi hil
        refine Classical.byContradiction fun hno => ?_
        have : i ∈ Region.ready .any rs listed := (ready_iff S.size).2 ⟨hil, hno, fun e he => ih e (by have := c3 i hil e he; omega) (by have := c3 i hil e he; omega)⟩
        rw [hr] at this
        cases this
    have all' : ∀ i, i < rs.size → On listed i := fun i hi => all (i + 1) i (by omega) hi
    obtain ⟨q1, q2⟩ := lexf l.length (Nat.le_refl _)
    refine k C a X I ?_ ⟨fun t => ?_, F.size, F.defers⟩
    · obtain ⟨m, hm, hw⟩ := S.heap
      have hml := lt_of_get hm
      have : m = rank ws l.length := by
        refine Classical.byContradiction fun hne => ?_
        obtain ⟨j, hj, hwj, hrj⟩ := rank_ex (ws := ws) (n := l.length) (k := m) (by omega)
        have := (hw j (by omega) hwj).1 (all' j (by omega))
        omega
      rw [List.getLast?_eq_getElem?, ← hm]
      congr 1
      omega
    · have : get (fr l.length) t = get f t := by
        by_cases hex : ∃ (i : Nat) (x : AOper), l[i]? = some x ∧ x.d = some t
        · obtain ⟨i, x, hx, hd⟩ := hex
          rw [q1 i x t (lt_of_get hx) hx hd, S.vals i x t (all' i (by have := lt_of_get hx; omega)) hx hd]
        · rw [q2 t fun i x _ hx hd => hex ⟨i, x, hx, hd⟩, S.rest t fun i x _ hx hd => hex ⟨i, x, hx, hd⟩]
      rw [this]
      exact F.rep t
  intro fuel
  induction fuel with
  | zero =>
    intro listed C f a hc S X I F
    have hr : Region.ready .any rs listed = [] := by
      rw [List.eq_nil_iff_forall_not_mem]
      intro i hi
      obtain ⟨hil, hno, _⟩ := (ready_iff S.size).1 hi
      have h0 : listed.toList.count false = 0 := by omega
      rw [List.count_eq_zero] at h0
      apply hno
      have hil' : i < listed.size := by rw [S.size]; exact hil
      unfold On
      rw [Array.getD_eq_getD_getElem?, Array.getElem?_eq_getElem hil']
      simp only [Option.getD_some]
      cases hv : listed[i] with
      | true => rfl
      | false => exact absurd (by rw [← hv]; simp) h0
    exact ⟨hr, fin listed C f a hr S X I F⟩
  | succ fuel ih =>
    intro listed C f a hc S X I F
    refine ⟨fun hr => fin listed C f a hr S X I F, fun i hi => ?_⟩
    obtain ⟨hil, hno, hall⟩ := (ready_iff S.size).1 hi
    have hil' : i < listed.size := by rw [S.size]; exact hil
    obtain ⟨o, ho⟩ : ∃ o, rs[i]? = some o := ⟨rs[i], Array.getElem?_eq_getElem hil⟩
    obtain ⟨ao, hao⟩ : ∃ x, l[i]? = some x := ⟨_, List.getElem?_eq_getElem (by omega)⟩
    obtain ⟨g1, g2, g3, g4⟩ := okOper_spec (c2 i ao o hao ho)
    obtain ⟨hfr, w, hwi, t, hwt, hfalse, htrue⟩ := hstep i ao hao
    obtain ⟨q1, q2⟩ := lexf i (by omega)
    -- what it looks at is as in the order of the text
    have alike : Alike tb f (fr i) (looks ao) := by
      intro u hu
      by_cases hex : ∃ (j : Nat) (x : AOper), l[j]? = some x ∧ x.d = some u
      · obtain ⟨j, x, hx, hd⟩ := hex
        obtain ⟨hji, hanc⟩ := c5 i j ao x u hao hx hd hu
        have hon : On listed j := ancB_spec S.down hanc hall
        rw [q1 j x u hji hx hd, S.vals j x u hon hx hd]
      · rw [q2 u fun j x _ hx hd => hex ⟨j, x, hx, hd⟩, S.rest u fun j x _ hx hd => hex ⟨j, x, hx, hd⟩]
    have hwt' : wanted f ao.g = some t := by rw [wanted_alike alike.l]; exact hwt
    have hwr := wanted_rep F g3 hwt'
    obtain ⟨m, hm, hmw⟩ := S.heap
    -- the count
    have hcount : (listed.setIfInBounds i true).toList.count false ≤ fuel := by
      have hv : listed[i] = false := by
        cases hv : listed[i] with
        | false => rfl
        | true => exact absurd (by unfold On; rw [Array.getD_eq_getD_getElem?, Array.getElem?_eq_getElem hil', hv]; rfl) hno
      rw [Array.toList_setIfInBounds, List.count_set (by simpa using hil')]
      have hv' : listed.toList[i]'(by simpa using hil') = false := by simpa using hv
      have hpos : 0 < listed.toList.count false := List.count_pos_iff.2 (by rw [← hv]; simp)
      rw [hv']
      simp only [beq_self_eq_true, if_true, beq_iff_eq, Bool.true_eq_false, if_false]
      omega
    -- the next state
    have next : ∀ (H : Heap), (w = none → hs[m + 1]? = some H) → (w ≠ none → H = C.H) → St rs l ws hs fr vl (listed.setIfInBounds i true) H (put f ao.d (vl i)) := by
      intro H hn hq
      refine ⟨by simp [S.size], ?_, ?_, ?_, ?_⟩
      · intro j hj e he
        rw [on_set hil'] at hj ⊢
        rcases hj with rfl | hj
        · exact .inr (hall e he)
        · exact .inr (S.down j hj e he)
      · cases hw : w with
        | none =>
          subst hw
          refine ⟨m + 1, hn rfl, fun j hj hwj => ?_⟩
          have hmi : rank ws i = m := by
            have h1 : ¬ rank ws i < m := fun h => hno ((hmw i hil hwi).2 h)
            have h2 : ¬ m < rank ws i := fun h => by
              obtain ⟨j, hj, hwj, hrj⟩ := rank_ex h
              have := ancB_spec S.down (c6 i j hil (by omega) (by omega) hwi hwj hj) hall
              have := (hmw j (by omega) hwj).1 this
              omega
            omega
          rw [on_set hil', hmw j hj hwj]
          constructor
          · rintro (rfl | h)
            · omega
            · omega
          · intro h
            by_cases hji : j = i
            · exact .inl hji
            · right
              rcases Nat.lt_or_ge j i with h' | h'
              · have := rank_lt hwj h'; omega
              · have := rank_lt hwi (show i < j by omega); omega
        | some p =>
          refine ⟨m, by rw [hq (by rw [hw]; simp)]; exact hm, fun j hj hwj => ?_⟩
          have hji : j ≠ i := by rintro rfl; rw [hwi, hw] at hwj; cases hwj
          rw [on_set hil', ← hmw j hj hwj]
          exact ⟨fun h => h.resolve_left hji, .inr⟩
      · intro j x u hj hx hd
        rw [get_put]
        rw [on_set hil'] at hj
        by_cases hji : j = i
        · subst hji
          rw [hao] at hx
          obtain rfl := Option.some.inj hx
          rw [if_pos hd]
        · rw [if_neg (c4 j i x ao u hx hao hji hd)]
          exact S.vals j x u (hj.resolve_left hji) hx hd
      · intro u hu
        rw [get_put, if_neg (hu i ao ((on_set hil').2 (.inl rfl)) hao)]
        exact S.rest u fun j x hj hx => hu j x ((on_set hil').2 (.inr hj)) hx
    -- where it stands among those that change the memory
    have hrank : w = none → rank ws i = m := by
      rintro rfl
      have h1 : ¬ rank ws i < m := fun h => hno ((hmw i hil hwi).2 h)
      have h2 : ¬ m < rank ws i := fun h => by
        obtain ⟨j, hj, hwj, hrj⟩ := rank_ex h
        have := ancB_spec S.down (c6 i j hil (by omega) (by omega) hwi hwj hj) hall
        have := (hmw j (by omega) hwj).1 this
        omega
      omega
    have hrange : ∀ lo hi, w = some (lo, hi) → lo ≤ m ∧ m ≤ hi := by
      rintro lo hi rfl
      have hml := lt_of_get hm
      constructor
      · refine Nat.le_of_not_lt fun h => ?_
        obtain ⟨j, hj, hwj, hrj⟩ : ∃ j, j < l.length ∧ ws[j]? = some none ∧ rank ws j = m := by
          by_cases hlt : m < rank ws l.length
          · exact rank_ex hlt
          · have := c8 i lo hi hil hwi
            rw [← c1] at this
            omega
        have := ancB_spec S.down ((c7 i j lo hi hil (by omega) hwi hwj).1 (by omega)) hall
        have := (hmw j (by omega) hwj).1 this
        omega
      · refine Nat.le_of_not_lt fun h => ?_
        obtain ⟨j, hj, hwj, hrj⟩ : ∃ j, j < l.length ∧ ws[j]? = some none ∧ rank ws j = hi := rank_ex (by omega)
        have hon := (hmw j (by omega) hwj).2 (by omega)
        exact hno (ancB_spec S.down ((c7 i j lo hi hil (by omega) hwi hwj).2 (by omega)) (S.down j hon))
    unfold wpOp
    simp only [ho, hwr]
    rw [← g1]
    cases t with
    | false =>
      simp only [Bool.false_eq_true, if_false]
      obtain ⟨hv, hsame⟩ := hfalse rfl
      refine ih _ C (put f ao.d (.tup [])) _ hcount ?_ X I (F.put (Ext.refl C) (fun t ht => g2 t (g1 ▸ ht)) (x := .tup []) ⟨[], rfl, rfl⟩)
      rw [← hv]
      refine next C.H (fun hw => ?_) fun _ => rfl
      rw [← hrank hw, ← hsame hw, hrank hw]
      exact hm
    | true =>
      simp only [if_true]
      obtain ⟨hW, hR⟩ := htrue rfl
      have land : ∀ (u : Option Heap), aop tb cl (eval tb f) C.H ao.o = some (vl i, u) → (w = none → hs[m + 1]? = some (u.getD C.H)) → (w ≠ none → u.getD C.H = C.H) →
          o.wp P a C.w (wpAny P .any rs Q fuel (listed.setIfInBounds i true)) Q := by
        intro u hu h1 h2
        refine wp_of_lands (hT _ _ g4 hcl I F hu) fun v D X' ID hH hr => ?_
        rw [← g1]
        refine ih _ D (put f ao.d (vl i)) _ hcount ?_ (X.trans X') ID (F.put X' (fun t ht => g2 t (g1 ▸ ht)) hr)
        rw [hH]
        exact next _ h1 h2
      left
      cases hw : w with
      | none =>
        obtain ⟨h, u, e1, e2, e3⟩ := hW hw
        rw [hrank hw] at e1 e3
        rw [hm] at e1
        obtain rfl := Option.some.inj e1
        exact land u (by rw [aop_alike alike.r]; exact e2) (fun _ => e3) fun hne => absurd hw hne
      | some p =>
        obtain ⟨lo, hi⟩ := p
        obtain ⟨r1, r2⟩ := hrange lo hi hw
        obtain ⟨h, u, e1, e2, e3⟩ := hR lo hi hw m r1 r2
        rw [hm] at e1
        obtain rfl := Option.some.inj e1
        exact land u (by rw [aop_alike alike.r]; exact e2) (fun hn => absurd (hn.symm.trans hw) (by simp)) fun _ => e3

end
end Go.Proofs.YtobejhpigbllpaaGreatDoor.Am
