/-
  Calls whose code is walked in place.
-/
import Derived.Test.YtobejhpigbllpaaGreatDoorSmS
namespace Go.Proofs.YtobejhpigbllpaaGreatDoor.Am

/-- where an argument comes from -/
inductive Src where
  | o (a : AO)
  | k (j : Nat)
def srcV (tb : Tab) (f : Fr) (rv : Nat → AV) : Src → AV
  | .o a => eval tb f a
  | .k j => rv j
def OpS (tb : Tab) (Γ : Cx) (s : Src) (φ : Fact) : Prop := ∀ E rv fp f H, RelI E Γ rv fp f H → FR rv Γ.ss (Pf E Γ.ss fp H) H φ (srcV tb f rv s)
inductive SrcL (tb : Tab) (Γ : Cx) : List Src → List Fact → Prop where
  | nil : SrcL tb Γ [] []
  | cons {s : Src} {φ : Fact} {l : List Src} {r : List Fact} : OpS tb Γ s φ → SrcL tb Γ l r → SrcL tb Γ (s :: l) (φ :: r)
/-- an operation that is a call -/
def CallO (tb : Tab) (Γ : Cx) (o : AOp) (g : Nat) (l : List Src) : Prop :=
  ∀ E rv fp f H, RelI E Γ rv fp f H → aop tb (den tb) (eval tb f) H o = calling tb (den tb) H g (l.map (srcV tb f rv))

section
variable {tb : Tab} {Γ : Cx} {a b : AO} {E : Env} {rv : Nat → AV} {fp : Fp} {f : Fr} {H : Heap}
theorem s_o {φ : Fact} (h : OpF tb Γ a φ) : OpS tb Γ (.o a) φ := h
theorem s_k {j : Nat} {φ : Fact} (hj : findS Γ.ss j = some (.keep φ)) : OpS tb Γ (.k j) φ := fun _ _ _ _ _ I => (I.slots j _ hj).1
theorem c_call {g : Nat} {xs : List AO} {l : List Src} (hl : l = xs.map .o) : CallO tb Γ (.call g xs) g l := by
  intro E rv fp f H I
  subst hl
  simp only [aop, List.map_map]; rfl
theorem c_callv {g : Nat} {x : AO} {xs : List AO} {js ks : List Nat} {l : List Src} (ha : OpF tb Γ x (.fnv (.func g) js ks)) (hl : l = js.map .k ++ xs.map .o ++ ks.map .k) : CallO tb Γ (.callv x xs) g l := by
  intro E rv fp f H I
  subst hl
  simp only [aop, (ha E rv fp f H I).2, List.map_append, List.map_map]; rfl
theorem SrcL.spec (I : RelI E Γ rv fp f H) : ∀ {l : List Src} {r : List Fact}, SrcL tb Γ l r → FRs rv Γ.ss (Pf E Γ.ss fp H) H r (l.map (srcV tb f rv))
  | _, _, .nil => trivial
  | _, _, .cons h k => ⟨h E rv fp f H I, k.spec I⟩

def argF : Nat → List Fact → Ts
  | _, [] => []
  | k, φ :: r => (k, φ) :: argF (k + 1) r
def frameOf (vs : List AV) (k : Nat) : Fr := (vs.zipIdx k).map fun p => (p.2, p.1)
theorem argF_rel {P : Nat → Prop} {ss : Ss} : ∀ {r : List Fact} {vs : List AV} {k : Nat}, FRs rv ss P H r vs → ∀ t φ, findT (argF k r) t = some φ → k ≤ t ∧ FR rv ss P H φ (get (frameOf vs k) t)
  | [], [], _, _, t, φ, e => by simp [argF, findT] at e
  | ψ :: r, v :: vs, k, h, t, φ, e => by
    simp only [argF, findT] at e
    simp only [frameOf, List.zipIdx_cons, List.map_cons, get]
    split at e
    · rename_i hk
      cases e
      subst hk
      exact ⟨Nat.le_refl _, by rw [if_pos rfl]; exact h.1⟩
    · rename_i hk
      obtain ⟨h1, h2⟩ := argF_rel (k := k + 1) h.2 t φ e
      exact ⟨by omega, by rw [if_neg hk]; exact h2⟩

/-- the caller's values -/
def ghosts (J : Nat) : Ts → Ss → Ss
  | [], ss => ss
  | (t, φ) :: r, ss => (J + t, .ghost φ) :: ghosts J r ss
def ghostOk (Γ : Cx) (J : Nat) : Ts → Prop
  | [] => True
  | (t, φ) :: r => (findT Γ.ts t = some φ ∧ findS Γ.ss (J + t) = none) ∧ ghostOk Γ J r
/-- all ghosts are below J -/
def ghostLt (J : Nat) : Ss → Bool
  | [] => true
  | (j, .ghost _) :: r => Nat.blt j J && ghostLt J r
  | _ :: r => ghostLt J r
theorem ghostLt_find {J : Nat} : ∀ {ss : Ss} {j : Nat} {φ : Fact}, ghostLt J ss = true → findS ss j = some (.ghost φ) → j < J
  | [], _, _, _, e => by simp [findS] at e
  | (u, S) :: r, j, φ, h, e => by
    simp only [findS] at e
    split at e
    · rename_i hu
      cases e
      simp only [ghostLt, Bool.and_eq_true] at h
      have := h.1
      rw [blt_iff] at this
      omega
    · refine ghostLt_find (ss := r) ?_ e
      cases S <;> simp only [ghostLt, Bool.and_eq_true] at h <;> first | exact h.2 | exact h
theorem ghosts_find {J : Nat} {ss : Ss} : ∀ {l : Ts} {j : Nat}, findS (ghosts J l ss) j = findS ss j ∨ ∃ t φ, j = J + t ∧ findT l t = some φ ∧ findS (ghosts J l ss) j = some (.ghost φ)
  | [], _ => .inl rfl
  | (t, φ) :: r, j => by
    simp only [ghosts, findS]
    by_cases hj : J + t = j
    · rw [if_pos hj]
      exact .inr ⟨t, φ, hj.symm, by simp [findT], rfl⟩
    · rw [if_neg hj]
      rcases ghosts_find (J := J) (ss := ss) (l := r) (j := j) with h | ⟨t', φ', h1, h2, h3⟩
      · exact .inl h
      · refine .inr ⟨t', φ', h1, ?_, h3⟩
        simp only [findT]
        rw [if_neg (fun e => hj (by rw [h1, e]))]
        exact h2
theorem ghostOk_find {J : Nat} : ∀ {l : Ts} {t : Nat} {φ : Fact}, ghostOk Γ J l → findT l t = some φ → findT Γ.ts t = some φ ∧ findS Γ.ss (J + t) = none
  | [], _, _, _, e => by simp [findT] at e
  | (u, ψ) :: r, t, φ, h, e => by
    simp only [findT] at e
    split at e
    · rename_i hu
      cases e
      subst hu
      exact h.1
    · exact ghostOk_find h.2 e

/-- a call is entered -/
theorem RelI.enter (I : RelI E Γ rv fp f H) {J : Nat} {L : Ts} {srcs : List Src} {φs : List Fact} (hL : ghostOk Γ J L) (hg : ghostLt J Γ.ss = true) (ha : SrcL tb Γ srcs φs) :
    RelI { E with g := fun j => if J ≤ j then get f (j - J) else E.g j } ⟨argF 0 φs, ghosts J L Γ.ss⟩ rv fp (frameOf (srcs.map (srcV tb f rv)) 0) H := by
  have hlv : ∀ k, live (ghosts J L Γ.ss) k ↔ live Γ.ss k := by
    intro k
    rcases ghosts_find (J := J) (ss := Γ.ss) (l := L) (j := k) with h | ⟨t, φ, rfl, h2, h3⟩
    · simp only [live, h]
    · have := (ghostOk_find hL h2).2
      simp only [live, h3, this, liveO]
  have hkeep : ∀ k, keepO (findS (ghosts J L Γ.ss) k) = keepO (findS Γ.ss k) := by
    intro k
    rcases ghosts_find (J := J) (ss := Γ.ss) (l := L) (j := k) with h | ⟨t, φ, rfl, h2, h3⟩
    · rw [h]
    · rw [h3, (ghostOk_find hL h2).2]; rfl
  have hP : ∀ i, Pf E Γ.ss fp H i → Pf E (ghosts J L Γ.ss) fp H i := fun i => Pf.same fun k l => (hlv k).1 l
  have hFR : ∀ φ v, FR rv Γ.ss (Pf E Γ.ss fp H) H φ v → FR rv (ghosts J L Γ.ss) (Pf E (ghosts J L Γ.ss) fp H) H φ v := fun φ v h =>
    h.mono (fun i hi => ⟨hP i hi, rfl⟩) fun k _ l => ⟨⟨(hlv k).2 l, fun e => by rw [hkeep]; exact e⟩, rfl⟩
  have hFRs : ∀ {l : List Fact} {vs : List AV}, FRs rv Γ.ss (Pf E Γ.ss fp H) H l vs → FRs rv (ghosts J L Γ.ss) (Pf E (ghosts J L Γ.ss) fp H) H l vs := by
    intro l
    induction l with
    | nil => intro vs h; cases vs <;> exact h
    | cons φ l ih =>
      intro vs h
      cases vs with
      | nil => exact h
      | cons v vs => exact ⟨hFR φ v h.1, ih h.2⟩
  refine ⟨I.le, I.base, I.wf, fun j i l e => I.fplt j i ((hlv j).1 l) e, fun j l => I.rvlt j ((hlv j).1 l), fun j l => (I.scal j ((hlv j).1 l)).imp (fun e => by rw [hkeep]; exact e) id, fun j k i l l' => I.inj j k i ((hlv j).1 l) ((hlv k).1 l'), ?_, ?_, ?_⟩
  · intro j S e
    rcases ghosts_find (J := J) (ss := Γ.ss) (l := L) (j := j) with h | ⟨t, φ, rfl, h2, h3⟩
    · replace e : findS (ghosts J L Γ.ss) j = some S := e
      rw [h] at e
      exact (I.slots j S e).keep rfl rfl (fun i hi => ⟨hP i hi, rfl⟩) (Nat.le_refl _) (fun _ _ => rfl) (fun _ _ _ _ k _ l => ⟨⟨(hlv k).2 l, fun e => by rw [hkeep]; exact e⟩, rfl⟩) (fun _ _ k _ l => ⟨⟨(hlv k).2 l, fun e => by rw [hkeep]; exact e⟩, rfl⟩) (fun _ _ _ k _ l => ⟨⟨(hlv k).2 l, fun e => by rw [hkeep]; exact e⟩, rfl⟩)
    · replace e : findS (ghosts J L Γ.ss) (J + t) = some S := e
      rw [h3] at e; cases e; trivial
  · intro t φ e
    exact (argF_rel (hFRs (ha.spec I)) t φ e).2
  · intro j φ e
    show FR rv (ghosts J L Γ.ss) _ H φ (if J ≤ j then get f (j - J) else E.g j)
    rcases ghosts_find (J := J) (ss := Γ.ss) (l := L) (j := j) with h | ⟨t, ψ, rfl, h2, h3⟩
    · replace e : findS (ghosts J L Γ.ss) j = some (.ghost φ) := e
      rw [h] at e
      have := ghostLt_find hg e
      rw [if_neg (by omega)]
      exact hFR φ _ (I.gh j φ e)
    · replace e : findS (ghosts J L Γ.ss) (J + t) = some (.ghost φ) := e
      rw [h3] at e
      cases e
      rw [if_pos (by omega), show J + t - J = t by omega]
      exact hFR _ _ (I.temps t _ (ghostOk_find hL h2).1)

/-- what a call hands back to code that goes on -/
def QIn {τ : Type} (res : List ARes) (Γr : τ → Cx) : Post τ := fun E p e f H =>
  (e = .ret ∨ e = .normal) ∧ ∃ vs, results f H res = some vs ∧ Rel E (Γr p) (frameOf vs 0) H

/-- a result -/
def ResG (Γ : Cx) (a : ARes) (φ : Fact) : Prop := ∀ E rv fp f H, RelI E Γ rv fp f H → ∀ r vs, results f H r = some vs → ∃ v, results f H (a :: r) = some (v :: vs) ∧ FR rv Γ.ss (Pf E Γ.ss fp H) H φ v
inductive ResL (Γ : Cx) : List ARes → List Fact → Prop where
  | nil : ResL Γ [] []
  | cons {a : ARes} {φ : Fact} {l : List ARes} {r : List Fact} : ResG Γ a φ → ResL Γ l r → ResL Γ (a :: l) (φ :: r)
theorem ResL.spec (I : RelI E Γ rv fp f H) : ∀ {l : List ARes} {r : List Fact}, ResL Γ l r → ∃ vs, results f H l = some vs ∧ FRs rv Γ.ss (Pf E Γ.ss fp H) H r vs
  | _, _, .nil => ⟨[], rfl, trivial⟩
  | _, _, .cons h k => by
    obtain ⟨vs, e, g⟩ := k.spec I
    obtain ⟨v, e', g'⟩ := h E rv fp f H I _ vs e
    exact ⟨v :: vs, e', g', g⟩
theorem rg_t {n : Nat} {φ : Fact} (h : findT Γ.ts n = some φ) : ResG Γ (.tmp n) φ := fun _ _ _ _ _ I r vs hr => ⟨_, by simp only [results, hr, Option.map_some], I.temps n _ h⟩
theorem rg_kv {n j : Nat} {φ : Fact} (h : findT Γ.ts n = some (.kv j)) (hj : findS Γ.ss j = some (.keep φ)) : ResG Γ (.tmp n) φ := fun _ _ _ f _ I r vs hr =>
  ⟨get f n, by simp only [results, hr, Option.map_some], o_kv (tb := ⟨fun _ => none, fun _ => none, fun _ => none⟩) h hj _ _ _ _ _ I⟩
theorem rg_c {n : Nat} {t : T} {x : t.α} {ar : ARes} (h : ResF Γ ar t x) : ResG Γ ar (.val t x) := h
variable {ks : List Kf} {ρ τ : Type} {Q : Post ρ}
def Sim.retIn {res : List ARes} {Γr : τ → Cx} {φs : List Fact} (p : τ) (h : ResL Γ res φs) (hs : Sub (Γr p) ⟨argF 0 φs, Γ.ss⟩) : Sim tb Γ .ret ks (QIn res Γr) :=
  Sim.retK ⟨some p, fun E f H ⟨rv, fp, I⟩ r hr => by
    cases hr
    obtain ⟨vs, e, g⟩ := h.spec I
    refine ⟨.ret, f, H, by simp [exec, runk], .inl rfl, vs, e, rv, fp, RelI.sub (Γ := ⟨argF 0 φs, Γ.ss⟩) ?_ hs⟩
    exact ⟨I.le, I.base, I.wf, I.fplt, I.rvlt, I.scal, I.inj, I.slots, fun t φ e => (argF_rel g t φ e).2, I.gh⟩⟩
def Sim.finIn {q : Bool} {res : List ARes} {Γr : τ → Cx} {φs : List Fact} (p : τ) (h : ResL Γ res φs) (hs : Sub (Γr p) ⟨argF 0 φs, Γ.ss⟩) : Sim tb Γ (rg q []) [] (QIn res Γr) :=
  ⟨some p, fun E f H ⟨rv, fp, I⟩ r hr => by
    cases hr
    obtain ⟨vs, e, g⟩ := h.spec I
    refine ⟨.normal, f, H, by simp [exec_rg_nil, runk], .inr rfl, vs, e, rv, fp, RelI.sub (Γ := ⟨argF 0 φs, Γ.ss⟩) ?_ hs⟩
    exact ⟨I.le, I.base, I.wf, I.fplt, I.rvlt, I.scal, I.inj, I.slots, fun t φ e => (argF_rel g t φ e).2, I.gh⟩⟩

/-- what a call's value is, out of its results -/
inductive BackR (tsr : Ts) : Nat → Fact → Prop where
  | none : BackR tsr 0 (.tup [])
  | one {φ : Fact} : findT tsr 0 = some φ → BackR tsr 1 φ
  | vals {n : Nat} {l : List (Σ t : T, t.α)} (hn : l.length = n + 2) (h : ∀ (i : Nat) (p : Σ t : T, t.α), l[i]? = some p → findT tsr i = some (.val p.1 p.2)) : BackR tsr (n + 2) (.tup l)
  | kvs {n : Nat} {js : List Nat} (hn : js.length = n + 2) (h : ∀ i j, js[i]? = some j → findT tsr i = some (.kv j)) : BackR tsr (n + 2) (.tupk js)
  | junk {n : Nat} : BackR tsr n .junk
theorem frameOf_get {vs : List AV} {i : Nat} {v : AV} (h : vs[i]? = some v) : get (frameOf vs 0) i = v := by
  have key : ∀ (vs : List AV) (k i : Nat) (v : AV), vs[i]? = some v → get (frameOf vs k) (k + i) = v := by
    intro vs
    induction vs with
    | nil => intro k i v h; simp at h
    | cons w vs ih =>
      intro k i v h
      simp only [frameOf, List.zipIdx_cons, List.map_cons, get]
      cases i with
      | zero => simp only [List.getElem?_cons_zero, Option.some.injEq] at h; rw [if_pos (by omega)]; exact h
      | succ i =>
        rw [if_neg (by omega)]
        have := ih (k + 1) i v (by simpa using h)
        rw [show k + (i + 1) = k + 1 + i by omega]
        exact this
  have := key vs 0 i v h
  rwa [Nat.zero_add] at this
theorem BackR.spec {Γr : Cx} {n : Nat} {φ : Fact} {vs : List AV} (I : RelI E Γr rv fp (frameOf vs 0) H) (hn : vs.length = n) (h : BackR Γr.ts n φ) : FR rv Γr.ss (Pf E Γr.ss fp H) H φ (packed vs) := by
  cases h with
  | none =>
    have : vs = [] := List.eq_nil_of_length_eq_zero hn
    subst this
    exact ⟨[], rfl, trivial⟩
  | one h =>
    match vs, hn with
    | [v], _ =>
      have := I.temps 0 _ h
      rw [frameOf_get (i := 0) (v := v) rfl] at this
      exact this
  | @vals m l hl h =>
    have hp : packed vs = .tup vs := by
      match vs, hn with
      | _ :: _ :: _, _ => rfl
    rw [hp]
    refine ⟨vs, rfl, ?_⟩
    have key : ∀ (vs : List AV) (l : List (Σ t : T, t.α)), vs.length = l.length → (∀ (i : Nat) (v : AV) (p : Σ t : T, t.α), vs[i]? = some v → l[i]? = some p → p.1.V (Pf E Γr.ss fp H) H v p.2) → TupR (Pf E Γr.ss fp H) H vs l := by
      intro vs
      induction vs with
      | nil => intro l h _; cases l <;> first | trivial | simp at h
      | cons v vs ih =>
        intro l h g
        cases l with
        | nil => simp at h
        | cons p l => exact ⟨g 0 v p rfl rfl, ih l (by simpa using h) fun i w q a b => g (i + 1) w q (by simpa using a) (by simpa using b)⟩
    refine key vs l (by omega) fun i v p a b => ?_
    have := I.temps i _ (h i p b)
    rw [frameOf_get a] at this
    exact this
  | @kvs m js hl h =>
    have hp : packed vs = .tup vs := by
      match vs, hn with
      | _ :: _ :: _, _ => rfl
    rw [hp]
    have hv : vs = js.map rv := by
      apply List.ext_getElem?
      intro i
      rcases Nat.lt_or_ge i vs.length with hi | hi
      · have hj : i < js.length := by omega
        have := (I.temps i _ (h i js[i] (List.getElem?_eq_getElem hj))).2
        rw [frameOf_get (List.getElem?_eq_getElem hi)] at this
        rw [List.getElem?_eq_getElem hi, List.getElem?_map, List.getElem?_eq_getElem hj, this]; rfl
      · rw [List.getElem?_eq_none hi, List.getElem?_eq_none (by rw [List.length_map]; omega)]
    refine ⟨fun j hj => ?_, by rw [hv]⟩
    obtain ⟨i, hi, rfl⟩ := List.mem_iff_getElem.1 hj
    exact (I.temps i _ (h i _ (List.getElem?_eq_getElem hi))).1 _ (by simp)
  | junk => trivial

/-- what is known behind a call -/
def backT (Γr : Cx) (ss : Ss) (J : Nat) : Ts → Prop
  | [] => True
  | (t, φ) :: r => (findS Γr.ss (J + t) = some (.ghost φ) ∧ refOk ss φ) ∧ backT Γr ss J r
structure BackOk (Γr Γk : Cx) (J : Nat) (d : Option Nat) (n : Nat) : Prop where
  ss : subS Γr Γk.ss Γk.ss
  gl : ghostLt J Γk.ss = true
  ts : match d with
    | none => backT Γr Γk.ss J Γk.ts
    | some d => ∃ φ r, Γk.ts = (d, φ) :: r ∧ BackR Γr.ts n φ ∧ refOk Γk.ss φ ∧ backT Γr Γk.ss J r
theorem BackOk.some' {Γr : Cx} {ss : Ss} {J d n : Nat} {φ : Fact} {r : Ts} (h1 : subS Γr ss ss) (h2 : ghostLt J ss = true) (h3 : BackR Γr.ts n φ) (h4 : refOk ss φ) (h5 : backT Γr ss J r) : BackOk Γr ⟨(d, φ) :: r, ss⟩ J (some d) n := ⟨h1, h2, φ, r, rfl, h3, h4, h5⟩
theorem BackOk.none' {Γr : Cx} {ss : Ss} {J n : Nat} {r : Ts} (h1 : subS Γr ss ss) (h2 : ghostLt J ss = true) (h5 : backT Γr ss J r) : BackOk Γr ⟨r, ss⟩ J none n := ⟨h1, h2, h5⟩

theorem backT_find {Γr : Cx} {ss : Ss} {J : Nat} : ∀ {l : Ts} {t : Nat} {φ : Fact}, backT Γr ss J l → findT l t = some φ → findS Γr.ss (J + t) = some (.ghost φ) ∧ refOk ss φ
  | [], _, _, _, e => by simp [findT] at e
  | (u, ψ) :: r, t, φ, h, e => by
    simp only [findT] at e
    split at e
    · rename_i hu; cases e; subst hu; exact h.1
    · exact backT_find h.2 e

/-- a call has come back -/
theorem RelI.back {Γr Γk : Cx} {J n : Nat} {d : Option Nat} {vs : List AV} {f : Fr} (I : RelI { E with g := fun j => if J ≤ j then get f (j - J) else E.g j } Γr rv fp (frameOf vs 0) H) (hn : vs.length = n) (hb : BackOk Γr Γk J d n) :
    RelI E Γk rv fp (put f d (packed vs)) H := by
  have S : Sub ⟨[], Γk.ss⟩ Γr := ⟨trivial, hb.ss⟩
  have I0 := I.sub S
  have hlv : ∀ k, live Γk.ss k → live Γr.ss k := by
    intro k l
    cases e : findS Γk.ss k with
    | none => simp only [live, e] at l; exact l.elim
    | some S =>
      have := (subS_find hb.ss e).1
      simp only [live, e] at l
      simp only [live, this]; exact l
  have hP : ∀ i, Pf E Γr.ss fp H i → Pf E Γk.ss fp H i := fun i => Pf.same hlv
  have hsame : ∀ φ, refOk Γk.ss φ → Same rv rv Γr.ss Γk.ss φ := fun φ r j hj l => by
    have hl := (refOk_spec r j hj).1
    refine ⟨⟨hl, fun e => ?_⟩, rfl⟩
    cases e' : findS Γk.ss j with
    | none => simp only [live, e'] at hl; exact hl.elim
    | some S => rw [(subS_find hb.ss e').1] at e; exact e
  have hFR : ∀ φ v, refOk Γk.ss φ → FR rv Γr.ss (Pf E Γr.ss fp H) H φ v → FR rv Γk.ss (Pf E Γk.ss fp H) H φ v := fun φ v r h => h.mono (fun i hi => ⟨hP i hi, rfl⟩) (hsame φ r)
  have hback : ∀ {l : Ts}, backT Γr Γk.ss J l → ∀ t φ, findT l t = some φ → FR rv Γk.ss (Pf E Γk.ss fp H) H φ (get f t) := by
    intro l hl t φ e
    obtain ⟨h1, h2⟩ := backT_find hl e
    have := I.gh _ _ h1
    simp only [if_pos (show J ≤ J + t by omega), show J + t - J = t by omega] at this
    exact hFR φ _ h2 this
  refine ⟨I0.le, I0.base, I0.wf, I0.fplt, I0.rvlt, I0.scal, I0.inj, I0.slots, ?_, ?_⟩
  · intro t φ e
    have hts := hb.ts
    cases d with
    | none => exact hback hts t φ e
    | some d =>
      obtain ⟨ψ, r, hr, h1, h2, h3⟩ := hts
      rw [hr] at e
      simp only [findT] at e
      simp only [put, get]
      split at e
      · rename_i hd
        cases e
        rw [if_pos hd]
        have h1' := h1.spec I hn
        exact hFR _ _ h2 h1'
      · rename_i hd
        rw [if_neg hd]
        exact hback h3 t φ e
  · intro j φ e
    have h1 := ghostLt_find hb.gl e
    have := I0.gh j φ e
    simp only [if_neg (show ¬ J ≤ j by omega)] at this
    exact this

/-- what goes on behind a call: by the shape of what it hands back -/
structure Kont (tb : Tab) {τ : Type} (Γk : τ → Cx) (c : AC) (ks : List Kf) {ρ : Type} (Q : Post ρ) where
  m : τ → Option ρ
  ok : ∀ p E f H, Rel E (Γk p) f H → ∀ r, m p = some r → ∃ e f' H', (exec tb (den tb) c f H).bind (runk tb ks) = some (e, f', H') ∧ Q E r e f' H'
def Kont.one {Γk : τ → Cx} {c : AC} (k : (p : τ) → Sim tb (Γk p) c ks Q) : Kont tb Γk c ks Q := ⟨fun p => (k p).m, fun p => (k p).ok⟩
def Kont.alt {σ : Type} {Γ1 : τ → Cx} {Γ2 : σ → Cx} {c : AC} (k1 : Kont tb Γ1 c ks Q) (k2 : Kont tb Γ2 c ks Q) : Kont tb (Sum.elim Γ1 Γ2) c ks Q :=
  ⟨Sum.elim k1.m k2.m, fun p => match p with
    | .inl p => k1.ok p
    | .inr p => k2.ok p⟩
theorem BackAlt {σ : Type} {Γ1 Δ1 : τ → Cx} {Γ2 Δ2 : σ → Cx} {J n : Nat} {d : Option Nat} (h1 : ∀ p, BackOk (Γ1 p) (Δ1 p) J d n) (h2 : ∀ p, BackOk (Γ2 p) (Δ2 p) J d n) : ∀ p, BackOk (Sum.elim Γ1 Γ2 p) (Sum.elim Δ1 Δ2 p) J d n
  | .inl p => h1 p
  | .inr p => h2 p

theorem results_len : ∀ {l : List ARes} {vs : List AV}, results f H l = some vs → vs.length = l.length
  | [], vs, h => by simp only [results, Option.some.injEq] at h; subst h; rfl
  | .tmp t :: r, vs, h => by
    simp only [results] at h
    obtain ⟨v, hv, rfl⟩ := Option.map_eq_some_iff.1 h
    simp [results_len hv]
  | .cell ag n t :: r, vs, h => by
    simp only [results] at h
    obtain ⟨w, hw, h⟩ := Option.bind_eq_some_iff.1 h
    obtain ⟨v, hv, rfl⟩ := Option.map_eq_some_iff.1 h
    simp [results_len hv]

/-- a call, walked in place -/
theorem inl_eq {g : Nat} {fn : AFn} {o : AOp} {d : Option Nat} {srcs : List Src} {φs : List Fact} {J n : Nat} {L : Ts} {Γr Γk : τ → Cx} (hf : tb.prim g = none ∧ tb.fns g = some fn) (hw : fn.warm = true) (hnp : fn.np = srcs.length) (hn : n = fn.res.length)
    (hc : CallO tb Γ o g srcs) (ha : SrcL tb Γ srcs φs) (hL : ghostOk Γ J L) (hg : ghostLt J Γ.ss = true) (s : Sim tb ⟨argF 0 φs, ghosts J L Γ.ss⟩ fn.body [] (QIn fn.res Γr)) (hb : ∀ p, BackOk (Γr p) (Γk p) J d n) (I : RelI E Γ rv fp f H) {p : τ} (hp : s.m = some p) :
    ∃ v H', aop tb (den tb) (eval tb f) H o = some (v, some H') ∧ Rel E (Γk p) (put f d v) H' := by
  have R := I.enter (tb := tb) hL hg ha
  obtain ⟨e, f', H', h1, h2, vs, h3, rv', fp', h4⟩ := s.ok _ _ _ ⟨_, _, R⟩ p hp
  have h1' : exec tb (den tb) fn.body (frameOf (srcs.map (srcV tb f rv)) 0) H = some (e, f', H') := by
    obtain ⟨q, hq, h1⟩ := Option.bind_eq_some_iff.1 h1
    rw [hq, ← h1]; rfl
  have hbody : body tb (den tb) fn (srcs.map (srcV tb f rv)) H = some (packed vs, some H') := by
    have := body_of (tb := tb) (h := H) (fn := fn) (args := srcs.map (srcV tb f rv)) (by rw [List.length_map, hnp]) rfl h1' h2 h3
    rw [this, hw]; rfl
  refine ⟨packed vs, H', ?_, rv', fp', h4.back (by rw [hn]; exact results_len h3) (hb p)⟩
  rw [hc E rv fp f H I]
  simp only [calling, hf.1]
  rw [den_eq, hf.2]
  exact hbody
def Sim.inl {g : Nat} {fn : AFn} {o : AOp} {d : Option Nat} {rest : List AOper} {srcs : List Src} {φs : List Fact} {n : Nat} {L : Ts} {Γr : τ → Cx} (J : Nat) (Γk : τ → Cx) (hf : tb.prim g = none ∧ tb.fns g = some fn) (hw : fn.warm = true) (hnp : fn.np = srcs.length) (hn : n = fn.res.length)
    (hc : CallO tb Γ o g srcs) (ha : SrcL tb Γ srcs φs) (hL : ghostOk Γ J L) (hg : ghostLt J Γ.ss = true) (s : Sim tb ⟨argF 0 φs, ghosts J L Γ.ss⟩ fn.body [] (QIn fn.res Γr)) (hb : ∀ p, BackOk (Γr p) (Γk p) J d n) (k : Kont tb Γk (rg false rest) ks Q) : Sim tb Γ (rg false (⟨d, none, o⟩ :: rest)) ks Q :=
  ⟨s.m.bind k.m, fun E f H ⟨rv, fp, I⟩ r hr => by
    obtain ⟨p, hp, hr⟩ := Option.bind_eq_some_iff.1 hr
    obtain ⟨v, H', h1, h2⟩ := inl_eq hf hw hnp hn hc ha hL hg s hb I hp
    obtain ⟨e, f', H2, h4, h5⟩ := k.ok p E _ _ h2 r hr
    exact ⟨e, f', H2, by rw [exec_reg_cons h1]; exact h4, h5⟩⟩

def SimD.inl {g : Nat} {fn : AFn} {o : AOp} {d : Option Nat} {rest : List AOper} {w : List (Option (Nat × Nat))} {N k : Nat} {B : List Ob} {C C' : List Cb} {srcs : List Src} {φs : List Fact} {n : Nat} {L : Ts} {Γr : τ → Cx} (hq : chkW B C' d = true) (hcn : CbNext Γ k C C') (J : Nat) (Γk : τ → Cx) (hO : ∀ p, ObOk tb (Γk p) B) (hf : tb.prim g = none ∧ tb.fns g = some fn) (hw : fn.warm = true) (hnp : fn.np = srcs.length) (hn : n = fn.res.length)
    (hc : CallO tb Γ o g srcs) (ha : SrcL tb Γ srcs φs) (hL : ghostOk Γ J L) (hg : ghostLt J Γ.ss = true) (s : Sim tb ⟨argF 0 φs, ghosts J L Γ.ss⟩ fn.body [] (QIn fn.res Γr)) (hb : ∀ p, BackOk (Γr p) (Γk p) J d n) (t : (p : τ) → SimD tb (Γk p) N (k + 1) (decB B) C' rest w ks Q) : SimD tb Γ N k B C (⟨d, none, o⟩ :: rest) (none :: w) ks Q :=
  SimD.opM hq hO hcn (a := s.m) (Γ' := Γk) (fun E rv fp f H I p hp => by
    obtain ⟨v, H', h1, rv', fp', h2⟩ := inl_eq hf hw hnp hn hc ha hL hg s hb I hp
    exact ⟨v, some H', h1, rv', fp', h2⟩) t

/-- .. that comes back in several ways -/
structure KontD (tb : Tab) {τ : Type} (Γk : τ → Cx) (N k : Nat) (B : List Ob) (C : List Cb) (l : List AOper) (w : List (Option (Nat × Nat))) (ks : List Kf) {ρ : Type} (Q : Post ρ) where
  m : τ → Option ρ
  ok : ∀ p E f H, Rel E (Γk p) f H → ∀ ms, ObR f B ms → ∀ es, CR f C es → ∀ r, m p = some r → ∃ q e f' H', opsT tb (den tb) N k ms es l w f H q ∧ runk tb ks (.normal, q.1, q.2) = some (e, f', H') ∧ Q E r e f' H'
def KontD.one {Γk : τ → Cx} {N k : Nat} {B : List Ob} {C : List Cb} {l : List AOper} {w : List (Option (Nat × Nat))} (t : (p : τ) → SimD tb (Γk p) N k B C l w ks Q) : KontD tb Γk N k B C l w ks Q := ⟨fun p => (t p).m, fun p => (t p).ok⟩
def KontD.alt {σ : Type} {Γ1 : τ → Cx} {Γ2 : σ → Cx} {N k : Nat} {B : List Ob} {C : List Cb} {l : List AOper} {w : List (Option (Nat × Nat))} (k1 : KontD tb Γ1 N k B C l w ks Q) (k2 : KontD tb Γ2 N k B C l w ks Q) : KontD tb (Sum.elim Γ1 Γ2) N k B C l w ks Q :=
  ⟨Sum.elim k1.m k2.m, fun p => match p with
    | .inl p => k1.ok p
    | .inr p => k2.ok p⟩
theorem ObAlt {σ : Type} {Γ1 : τ → Cx} {Γ2 : σ → Cx} {B : List Ob} (h1 : ∀ p, ObOk tb (Γ1 p) B) (h2 : ∀ p, ObOk tb (Γ2 p) B) : ∀ p, ObOk tb (Sum.elim Γ1 Γ2 p) B
  | .inl p => h1 p
  | .inr p => h2 p
def SimD.inlK {g : Nat} {fn : AFn} {o : AOp} {d : Option Nat} {rest : List AOper} {w : List (Option (Nat × Nat))} {N k : Nat} {B : List Ob} {C C' : List Cb} {srcs : List Src} {φs : List Fact} {n : Nat} {L : Ts} {Γr : τ → Cx} (hq : chkW B C' d = true) (hcn : CbNext Γ k C C') (J : Nat) (Γk : τ → Cx) (hO : ∀ p, ObOk tb (Γk p) B) (hf : tb.prim g = none ∧ tb.fns g = some fn) (hw : fn.warm = true) (hnp : fn.np = srcs.length) (hn : n = fn.res.length)
    (hc : CallO tb Γ o g srcs) (ha : SrcL tb Γ srcs φs) (hL : ghostOk Γ J L) (hg : ghostLt J Γ.ss = true) (s : Sim tb ⟨argF 0 φs, ghosts J L Γ.ss⟩ fn.body [] (QIn fn.res Γr)) (hb : ∀ p, BackOk (Γr p) (Γk p) J d n) (t : KontD tb Γk N (k + 1) (decB B) C' rest w ks Q) : SimD tb Γ N k B C (⟨d, none, o⟩ :: rest) (none :: w) ks Q :=
  ⟨s.m.bind t.m, (SimD.inl hq hcn J Γk hO hf hw hnp hn hc ha hL hg s hb fun p => ⟨t.m p, t.ok p⟩).ok⟩

/-- a call of a function that is known, of whatever operation -/
inductive SrcA (tb : Tab) (Γ : Cx) : (As : List T) → List Src → Res As → Prop where
  | nil : SrcA tb Γ [] [] ()
  | one {t : T} {s : Src} {x : t.α} : OpS tb Γ s (.val t x) → SrcA tb Γ [t] [s] x
  | cons {t u : T} {As : List T} {s : Src} {l : List Src} {x : t.α} {y : Res (u :: As)} : OpS tb Γ s (.val t x) → SrcA tb Γ (u :: As) l y → SrcA tb Γ (t :: u :: As) (s :: l) (x, y)
theorem SrcA.spec (R : RelI E Γ rv fp f H) : ∀ {As : List T} {l : List Src} {x : Res As}, SrcA tb Γ As l x → VsR (Pf E Γ.ss fp H) H As (l.map (srcV tb f rv)) x
  | _, _, _, .nil => rfl
  | _, _, _, .one h => ⟨_, rfl, h E rv fp f H R⟩
  | _, _, _, .cons h k => ⟨_, _, rfl, h E rv fp f H R, k.spec R⟩
theorem h_callS {g : Nat} {As Rs : List T} {F : Res As → Option (Res Rs)} {o : AOp} {l : List Src} {x : Res As} (sp : Spec tb g As Rs F) (hc : CallO tb Γ o g l) (hx : SrcA tb Γ As l x) : OpH tb Γ o (F x) fun r => outF Rs r := by
  intro E rv fp f H R r hr
  obtain ⟨v, u, h1, h2, h3⟩ := (sp (Pf E Γ.ss fp H) H _ x R.ltP R.wf (hx.spec R) r hr).call
  exact ⟨v, u, by rw [hc E rv fp f H R]; exact h1, h2, outF_rel h3⟩
theorem h_callS1 {g : Nat} {As : List T} {t : T} {F : Res As → Option (Res [t])} {o : AOp} {l : List Src} {x : Res As} (sp : Spec tb g As [t] F) (hc : CallO tb Γ o g l) (hx : SrcA tb Γ As l x) : OpH tb Γ o (F x) fun r : t.α => .val t r := h_callS sp hc hx
theorem h_callSN {g : Nat} {As : List T} {t u : T} {Rs : List T} {F : Res As → Option (Res (t :: u :: Rs))} {o : AOp} {l : List Src} {x : Res As} (sp : Spec tb g As (t :: u :: Rs) F) (hc : CallO tb Γ o g l) (hx : SrcA tb Γ As l x) : OpH tb Γ o (F x) fun r => .tup (tupL (t :: u :: Rs) r) := h_callS sp hc hx

/-- a loop's first round -/
theorem exec_unroll {lv : List Nat} {x : AC} : exec tb (den tb) (.loop lv x) f H = (exec tb (den tb) x (keepL lv f) H).bind fun
    | (.normal, f', h') => exec tb (den tb) (.loop lv x) (keepL lv f') h'
    | r => some r := by
  simp only [exec]
  rw [lp_eq]
  simp only [round]
  cases exec tb (den tb) x (keepL lv f) H with
  | none => rfl
  | some p =>
    obtain ⟨e, f', h'⟩ := p
    cases e <;> rfl
end
end Go.Proofs.YtobejhpigbllpaaGreatDoor.Am
