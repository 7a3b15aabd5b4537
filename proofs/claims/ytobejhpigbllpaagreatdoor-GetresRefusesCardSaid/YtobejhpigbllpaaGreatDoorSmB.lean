/-
  What is known at a point of a function's code: of its temporaries and of the memory that it made itself.
-/
import Derived.Test.YtobejhpigbllpaaGreatDoorSmA
namespace Go.Proofs.YtobejhpigbllpaaGreatDoor.Am

inductive Fact : Type 1 where
  | val (t : T) (x : t.α)
  | rp (t : T) (x : t.α)
  | cp (j off : Nat)
  | own (j : Nat)
  | ep (j i off : Nat)
  | tup (l : List (Σ t : T, t.α))
  | junk
  /-- a constant -/
  | con (v : AV)
  /-- what a slot keeps -/
  | kv (j : Nat)
  /-- a function; a structure; several values: what slots keep -/
  | fnv (f : Fn) (js ks : List Nat)
  | aggk (js : List Nat)
  | tupk (js : List Nat)
  /-- a slice of one's own cells -/
  | oc (j off sz len : Nat)
/-- a kind of things in memory of their own: F is all that such a thing takes, v leads to it -/
structure Dom where
  α : Type
  R : (Nat → Prop) → (Nat → Prop) → Heap → AV → α → Prop
  lt : ∀ {F P : Nat → Prop} {H : Heap} {v : AV} {x : α}, R F P H v x → ∀ i, F i → i < H.length
  men : ∀ {F P : Nat → Prop} {H : Heap} {v : AV} {x : α} {m : Nat}, R F P H v x → (∀ i, P i → i < m) → (∀ i, F i → i < m) → ment v ≤ m
  mono : ∀ {F P Q : Nat → Prop} {H G : Heap} {v : AV} {x : α}, (∀ i, P i → Q i ∧ G[i]? = H[i]?) → (∀ i, F i → G[i]? = H[i]?) → R F P H v x → R F Q G v x
inductive Slot : Type 1 where
  | gone
  | cells (ps : List (Nat × Fact))
  | row (t : T) (g : GS t.α)
  | dom (D : Dom) (x : D.α)
  /-- a value that is kept; one of the caller's -/
  | keep (φ : Fact)
  | ghost (φ : Fact)
  /-- a row whose elements are made of kept values -/
  | rowk (sz : Nat) (els : List (List Nat))

abbrev Ts := List (Nat × Fact)
abbrev Ss := List (Nat × Slot)
structure Cx : Type 1 where
  ts : Ts
  ss : Ss

def findT : Ts → Nat → Option Fact
  | [], _ => none
  | (u, φ) :: r, t => if u = t then some φ else findT r t
def findS : Ss → Nat → Option Slot
  | [], _ => none
  | (u, φ) :: r, t => if u = t then some φ else findS r t
def liveO : Option Slot → Prop
  | none => False
  | some .gone => False
  | some (.ghost _) => False
  | some _ => True
def keepO : Option Slot → Bool
  | some (.keep _) => true
  | _ => false
def live (ss : Ss) (j : Nat) : Prop := liveO (findS ss j)

/-- where a piece of code began: the memory; what of it is only read; what of it stays as it was -/
structure Env where
  h : Heap
  P0 : Nat → Prop
  K : Nat → Prop
  lt : ∀ i, P0 i → i < h.length
  pk : ∀ i, P0 i → K i
  /-- the caller's values -/
  g : Nat → AV

abbrev Fp := Nat → Nat → Prop
/-- slots from here on came with the call -/
def parj : Nat := 1000000
/-- memory that nobody writes any more -/
def Pf (E : Env) (ss : Ss) (fp : Fp) (H : Heap) (i : Nat) : Prop :=
  (i < E.h.length ∧ E.P0 i) ∨ (E.h.length ≤ i ∧ i < H.length ∧ ∀ j, live ss j → ¬ fp j i)

def ptrP (P : Nat → Prop) : AV → Prop
  | .ptr id _ => P id
  | .pe id _ _ _ => P id
  | .ip _ _ => True
  | _ => False
/-- a pointer to what is only read -/
def RpV (t : T) (P : Nat → Prop) (H : Heap) (v : AV) (x : t.α) : Prop :=
  ptrP P v ∧ ∃ cs off, place H v = some (cs, off) ∧ off + t.sz ≤ cs.length ∧ t.R P H (sub cs off t.sz) x ∧ (∀ m, (∀ i, P i → i < m) → ment v ≤ m)

def TupR (P : Nat → Prop) (H : Heap) : List AV → List (Σ t : T, t.α) → Prop
  | [], [] => True
  | v :: r, p :: q => p.1.V P H v p.2 ∧ TupR P H r q
  | _, _ => False

def keeps (ss : Ss) (l : List Nat) : Prop := ∀ j ∈ l, keepO (findS ss j) = true
def FR (rv : Nat → AV) (ss : Ss) (P : Nat → Prop) (H : Heap) : Fact → AV → Prop
  | .val t x, v => t.V P H v x
  | .rp t x, v => RpV t P H v x
  | .cp j off, v => live ss j ∧ ∃ id, rv j = .ptr id 0 ∧ v = .ptr id off
  | .own j, v => live ss j ∧ v = rv j
  | .ep j i off, v => live ss j ∧ ∃ id n, rv j = .orow id n 0 n ∧ i < n ∧ v = .pe id n i off
  | .tup l, v => ∃ vs, v = .tup vs ∧ TupR P H vs l
  | .junk, _ => True
  | .con c, v => v = c ∧ ment c = 0 ∧ scal c = true
  | .kv j, v => keeps ss [j] ∧ v = rv j
  | .fnv f js ks, v => keeps ss (js ++ ks) ∧ v = .fn f (js.map rv) (ks.map rv)
  | .aggk js, v => keeps ss js ∧ v = .agg (js.flatMap fun j => cellsOf (rv j))
  | .tupk js, v => keeps ss js ∧ v = .tup (js.map rv)
  | .oc j off sz len, v => live ss j ∧ ∃ id, rv j = .ptr id 0 ∧ v = .ocel sz id off len
def FC (rv : Nat → AV) (ss : Ss) (P : Nat → Prop) (H : Heap) : Fact → List AV → Prop
  | .val t x, c => t.R P H c x
  | .tup _, _ => False
  | .junk, c => mentL c ≤ H.length
  | φ, c => ∃ v, c = [v] ∧ FR rv ss P H φ v
def PR (rv : Nat → AV) (ss : Ss) (P : Nat → Prop) (H : Heap) : List (Nat × Fact) → List AV → Prop
  | [], cs => cs = []
  | (n, φ) :: r, cs => ∃ c d, cs = c ++ d ∧ c.length = n ∧ FC rv ss P H φ c ∧ PR rv ss P H r d
def SR (rv : Nat → AV) (fp : Fp) (ss : Ss) (P : Nat → Prop) (H : Heap) (j : Nat) : Slot → Prop
  | .gone => True
  | .cells ps => ∃ id cs, rv j = .ptr id 0 ∧ (∀ i, fp j i ↔ i = id) ∧ cellsAt H id = some cs ∧ PR rv ss P H ps cs
  | .row t .nil => rv j = .nils ∧ ∀ i, ¬ fp j i
  | .row t (.mk l) => ∃ id els, rv j = .orow id els.length 0 els.length ∧ (∀ i, fp j i ↔ i = id) ∧ rowAt H id = some (false, t.sz, els) ∧ AllR t P H els l
  | .dom D x => D.R (fp j) P H (rv j) x
  | .keep φ => FR rv ss P H φ (rv j) ∧ ∀ i, ¬ fp j i
  | .ghost _ => True
  | .rowk sz els => keeps ss els.flatten ∧ ∃ id, rv j = .orow id els.length 0 els.length ∧ (∀ i, fp j i ↔ i = id) ∧ rowAt H id = some (false, sz, els.map fun js => js.flatMap fun j => cellsOf (rv j))

structure RelI (E : Env) (Γ : Cx) (rv : Nat → AV) (fp : Fp) (f : Fr) (H : Heap) : Prop where
  le : E.h.length ≤ H.length
  base : ∀ i, i < E.h.length → E.K i → H[i]? = E.h[i]?
  wf : mentH H ≤ H.length
  fplt : ∀ j i, live Γ.ss j → fp j i → i < H.length ∧ (i < E.h.length → ¬ E.K i ∧ parj ≤ j)
  rvlt : ∀ j, live Γ.ss j → ment (rv j) ≤ H.length
  scal : ∀ j, live Γ.ss j → keepO (findS Γ.ss j) = true ∨ scal (rv j) = true
  inj : ∀ j k i, live Γ.ss j → live Γ.ss k → fp j i → fp k i → j = k
  slots : ∀ j S, findS Γ.ss j = some S → SR rv fp Γ.ss (Pf E Γ.ss fp H) H j S
  temps : ∀ t φ, findT Γ.ts t = some φ → FR rv Γ.ss (Pf E Γ.ss fp H) H φ (get f t)
  gh : ∀ j φ, findS Γ.ss j = some (.ghost φ) → FR rv Γ.ss (Pf E Γ.ss fp H) H φ (E.g j)
def Rel (E : Env) (Γ : Cx) (f : Fr) (H : Heap) : Prop := ∃ rv fp, RelI E Γ rv fp f H

theorem Pf.lt {E : Env} {ss : Ss} {fp : Fp} {H : Heap} (le : E.h.length ≤ H.length) {i : Nat} (h : Pf E ss fp H i) : i < H.length := by
  rcases h with h | h
  · omega
  · exact h.2.1

section
variable {rv rv' : Nat → AV} {fp fp' : Fp} {ss ss' : Ss} {P Q : Nat → Prop} {H G : Heap}

theorem TupR.mono (m : ∀ i, P i → Q i ∧ G[i]? = H[i]?) : ∀ {vs : List AV} {l : List (Σ t : T, t.α)}, TupR P H vs l → TupR Q G vs l
  | [], [], _ => trivial
  | _ :: _, _ :: _, h => ⟨h.1.mono m, TupR.mono m h.2⟩
theorem place_same {v : AV} (m : ∀ i, P i → Q i ∧ G[i]? = H[i]?) (h : ptrP P v) : place G v = place H v := by
  cases v <;> simp only [ptrP] at h <;> simp only [place]
  · rw [cellsAt_same (m _ h).2]
  · rw [rowAt_same (m _ h).2]
theorem ptrP_mono {v : AV} (m : ∀ i, P i → Q i) (h : ptrP P v) : ptrP Q v := by
  cases v <;> simp only [ptrP] at h ⊢
  · exact m _ h
  · exact m _ h
theorem RpV.mono {t : T} {v : AV} {x : t.α} (m : ∀ i, P i → Q i ∧ G[i]? = H[i]?) (h : RpV t P H v x) : RpV t Q G v x := by
  obtain ⟨hp, cs, off, e, l, r, hm⟩ := h
  exact ⟨ptrP_mono (fun i hi => (m i hi).1) hp, cs, off, by rw [place_same m hp]; exact e, l, t.mono m r, fun k hk => hm k fun i hi => hk i (m i hi).1⟩

def noRef (j : Nat) : Fact → Prop
  | .cp k _ => k ≠ j
  | .oc k _ _ _ => k ≠ j
  | .own k => k ≠ j
  | .ep k _ _ => k ≠ j
  | .kv k => k ≠ j
  | .fnv _ js ks => j ∉ js ++ ks
  | .aggk js => j ∉ js
  | .tupk js => j ∉ js
  | _ => True
/-- other slots: those that something speaks of are where they were -/
def Same (rv rv' : Nat → AV) (ss ss' : Ss) (φ : Fact) : Prop := ∀ j, ¬ noRef j φ → live ss j → (live ss' j ∧ (keepO (findS ss j) = true → keepO (findS ss' j) = true)) ∧ rv' j = rv j
theorem keep_live {ss : Ss} {j : Nat} (h : keepO (findS ss j) = true) : live ss j := by
  simp only [live]
  cases e : findS ss j with
  | none => rw [e] at h; cases h
  | some S => rw [e] at h; cases S <;> simp only [keepO, Bool.false_eq_true] at h <;> trivial
theorem keeps_same {ss ss' : Ss} {l : List Nat} (h : keeps ss l) (s : ∀ j ∈ l, live ss j → (live ss' j ∧ (keepO (findS ss j) = true → keepO (findS ss' j) = true)) ∧ rv' j = rv j) : keeps ss' l ∧ l.map rv' = l.map rv ∧ (l.flatMap fun j => cellsOf (rv' j)) = l.flatMap fun j => cellsOf (rv j) := by
  induction l with
  | nil => exact ⟨fun j hj => (by cases hj), rfl, rfl⟩
  | cons k l ih =>
    obtain ⟨h1, h2, h3⟩ := ih (fun j hj => h j (List.mem_cons_of_mem _ hj)) (fun j hj => s j (List.mem_cons_of_mem _ hj))
    have hk := h k List.mem_cons_self
    obtain ⟨⟨_, a⟩, b⟩ := s k List.mem_cons_self (keep_live hk)
    refine ⟨fun j hj => ?_, by simp only [List.map_cons, b, h2], by simp only [List.flatMap_cons, b, h3]⟩
    rcases List.mem_cons.1 hj with rfl | hj
    · exact a hk
    · exact h1 j hj

theorem FR.mono {φ : Fact} {v : AV} (m : ∀ i, P i → Q i ∧ G[i]? = H[i]?) (s : Same rv rv' ss ss' φ) (h : FR rv ss P H φ v) : FR rv' ss' Q G φ v := by
  cases φ with
  | val t x => exact T.V.mono m h
  | rp t x => exact RpV.mono m h
  | cp j off =>
    obtain ⟨l, id, e, hv⟩ := h
    obtain ⟨⟨l', _⟩, e'⟩ := s j (by simp [noRef]) l
    exact ⟨l', id, e'.trans e, hv⟩
  | oc j off sz len =>
    obtain ⟨l, id, e, hv⟩ := h
    obtain ⟨⟨l', _⟩, e'⟩ := s j (by simp [noRef]) l
    exact ⟨l', id, e'.trans e, hv⟩
  | own j =>
    obtain ⟨l, h⟩ := h
    obtain ⟨⟨l', _⟩, e'⟩ := s j (by simp [noRef]) l
    exact ⟨l', h.trans e'.symm⟩
  | ep j i off =>
    obtain ⟨l, id, n, e, hi, hv⟩ := h
    obtain ⟨⟨l', _⟩, e'⟩ := s j (by simp [noRef]) l
    exact ⟨l', id, n, e'.trans e, hi, hv⟩
  | tup l =>
    obtain ⟨vs, e, h⟩ := h
    exact ⟨vs, e, h.mono m⟩
  | junk => trivial
  | con c => exact h
  | kv j =>
    obtain ⟨h1, h2⟩ := h
    obtain ⟨a, b, c⟩ := keeps_same (rv := rv) (rv' := rv') (ss' := ss') h1 fun k hk => by
      obtain rfl := List.mem_singleton.1 hk
      exact s k (by simp [noRef])
    exact ⟨a, h2.trans (by simpa using b.symm)⟩
  | fnv f js ks =>
    obtain ⟨h1, h2⟩ := h
    obtain ⟨a, b, c⟩ := keeps_same (rv := rv) (rv' := rv') (ss' := ss') h1 fun k hk => s k (fun hn => hn hk)
    have hj : js.map rv' = js.map rv ∧ ks.map rv' = ks.map rv := by
      rw [List.map_append, List.map_append] at b
      exact List.append_inj b (by simp)
    exact ⟨a, by rw [h2, hj.1, hj.2]⟩
  | aggk js =>
    obtain ⟨h1, h2⟩ := h
    obtain ⟨a, b, c⟩ := keeps_same (rv := rv) (rv' := rv') (ss' := ss') h1 fun k hk => s k (fun hn => hn hk)
    exact ⟨a, by rw [h2, c]⟩
  | tupk js =>
    obtain ⟨h1, h2⟩ := h
    obtain ⟨a, b, c⟩ := keeps_same (rv := rv) (rv' := rv') (ss' := ss') h1 fun k hk => s k (fun hn => hn hk)
    exact ⟨a, by rw [h2, b]⟩
theorem FC.mono {φ : Fact} {c : List AV} (m : ∀ i, P i → Q i ∧ G[i]? = H[i]?) (hl : H.length ≤ G.length) (s : Same rv rv' ss ss' φ) (h : FC rv ss P H φ c) : FC rv' ss' Q G φ c := by
  cases φ with
  | val t x => exact t.mono m h
  | rp t x => obtain ⟨v, e, h⟩ := h; exact ⟨v, e, FR.mono m s h⟩
  | cp j off => obtain ⟨v, e, h⟩ := h; exact ⟨v, e, FR.mono m s h⟩
  | oc j off sz len => obtain ⟨v, e, h⟩ := h; exact ⟨v, e, FR.mono m s h⟩
  | own j => obtain ⟨v, e, h⟩ := h; exact ⟨v, e, FR.mono m s h⟩
  | ep j i off => obtain ⟨v, e, h⟩ := h; exact ⟨v, e, FR.mono m s h⟩
  | tup l => exact h
  | junk => exact Nat.le_trans h hl
  | con c => obtain ⟨v, e, h⟩ := h; exact ⟨v, e, FR.mono m s h⟩
  | kv j => obtain ⟨v, e, h⟩ := h; exact ⟨v, e, FR.mono m s h⟩
  | fnv f js ks => obtain ⟨v, e, h⟩ := h; exact ⟨v, e, FR.mono m s h⟩
  | aggk js => obtain ⟨v, e, h⟩ := h; exact ⟨v, e, FR.mono m s h⟩
  | tupk js => obtain ⟨v, e, h⟩ := h; exact ⟨v, e, FR.mono m s h⟩
theorem PR.mono (m : ∀ i, P i → Q i ∧ G[i]? = H[i]?) (hl : H.length ≤ G.length) : ∀ {ps : List (Nat × Fact)} {cs : List AV}, (∀ p ∈ ps, Same rv rv' ss ss' p.2) → PR rv ss P H ps cs → PR rv' ss' Q G ps cs
  | [], _, _, h => h
  | (n, φ) :: r, cs, s, ⟨c, d, e, l, h, g⟩ => ⟨c, d, e, l, FC.mono m hl (s _ List.mem_cons_self) h, PR.mono m hl (fun p hp => s p (List.mem_cons_of_mem _ hp)) g⟩

theorem TupR.men {n : Nat} (hp : ∀ i, P i → i < n) : ∀ {vs : List AV} {l : List (Σ t : T, t.α)}, TupR P H vs l → mentL vs ≤ n
  | [], [], _ => by simp [mentL]
  | _ :: _, _ :: _, h => by simp only [mentL]; have := h.1.men hp; have := TupR.men hp h.2; omega
theorem mentL_cells (v : AV) : mentL (cellsOf v) ≤ ment v := by
  cases v <;> simp [cellsOf, mentL, ment]
theorem keeps_men {n : Nat} (hi : ∀ j, live ss j → ment (rv j) ≤ n) : ∀ {l : List Nat}, keeps ss l → mentL (l.map rv) ≤ n ∧ mentL (l.flatMap fun j => cellsOf (rv j)) ≤ n
  | [], _ => by simp [mentL]
  | k :: l, h => by
    obtain ⟨h1, h2⟩ := keeps_men hi (l := l) fun j hj => h j (List.mem_cons_of_mem _ hj)
    have h3 := hi k (keep_live (h k List.mem_cons_self))
    have h4 := mentL_cells (rv k)
    simp only [List.map_cons, mentL, List.flatMap_cons, mentL_append]
    omega
theorem FR.men {φ : Fact} {v : AV} {n : Nat} (hp : ∀ i, P i → i < n) (hi : ∀ j, live ss j → ment (rv j) ≤ n) (hj : φ ≠ .junk) (h : FR rv ss P H φ v) : ment v ≤ n := by
  cases φ with
  | val t x => exact T.V.men h hp
  | rp t x => exact h.2.choose_spec.choose_spec.2.2.2 n hp
  | cp j off => obtain ⟨l, id, e, rfl⟩ := h; have := hi j l; rw [e] at this; simpa [ment] using this
  | oc j off sz len => obtain ⟨l, id, e, rfl⟩ := h; have := hi j l; rw [e] at this; simpa [ment] using this
  | own j => obtain ⟨l, rfl⟩ := h; exact hi j l
  | ep j i off => obtain ⟨l, id, m, e, _, rfl⟩ := h; have := hi j l; rw [e] at this; simpa [ment] using this
  | tup l => obtain ⟨vs, rfl, h⟩ := h; simpa [ment] using h.men hp
  | junk => exact absurd rfl hj
  | con c => obtain ⟨rfl, h, _⟩ := h; omega
  | kv j => obtain ⟨h, rfl⟩ := h; exact hi j (keep_live (h j (by simp)))
  | fnv f js ks =>
    obtain ⟨h, rfl⟩ := h
    have h1 := (keeps_men hi (l := js) fun j hj => h j (by simp [hj])).1
    have h2 := (keeps_men hi (l := ks) fun j hj => h j (by simp [hj])).1
    simp only [ment]; omega
  | aggk js => obtain ⟨h, rfl⟩ := h; simpa [ment] using (keeps_men hi h).2
  | tupk js => obtain ⟨h, rfl⟩ := h; simpa [ment] using (keeps_men hi h).1
theorem FC.men {φ : Fact} {c : List AV} (hp : ∀ i, P i → i < H.length) (hi : ∀ j, live ss j → ment (rv j) ≤ H.length) (h : FC rv ss P H φ c) : mentL c ≤ H.length := by
  have one : ∀ {ψ : Fact}, ψ ≠ .junk → (∃ v, c = [v] ∧ FR rv ss P H ψ v) → mentL c ≤ H.length := by
    rintro ψ hj ⟨v, rfl, h'⟩
    simpa [mentL] using FR.men hp hi hj h'
  cases φ with
  | val t x => exact t.men h hp
  | tup l => exact h.elim
  | junk => exact h
  | rp t x => exact one (by simp) h
  | cp j off => exact one (by simp) h
  | oc j off sz len => exact one (by simp) h
  | own j => exact one (by simp) h
  | ep j i off => exact one (by simp) h
  | con c => exact one (by simp) h
  | kv j => exact one (by simp) h
  | fnv f js ks => exact one (by simp) h
  | aggk js => exact one (by simp) h
  | tupk js => exact one (by simp) h
theorem PR.men (hp : ∀ i, P i → i < H.length) (hi : ∀ j, live ss j → ment (rv j) ≤ H.length) : ∀ {ps : List (Nat × Fact)} {cs : List AV}, PR rv ss P H ps cs → mentL cs ≤ H.length
  | [], _, h => by rw [show _ = [] from h]; simp [mentL]
  | (n, φ) :: r, cs, ⟨c, d, e, l, h, g⟩ => by
    rw [e, mentL_append]
    have := FC.men hp hi h
    have := PR.men hp hi g
    omega
def sizes : List (Nat × Fact) → Nat
  | [] => 0
  | (n, _) :: r => n + sizes r
theorem PR.length : ∀ {ps : List (Nat × Fact)} {cs : List AV}, PR rv ss P H ps cs → cs.length = sizes ps
  | [], _, h => by rw [show _ = [] from h]; rfl
  | (n, φ) :: r, cs, ⟨c, d, e, l, h, g⟩ => by rw [e, List.length_append, l, PR.length g]; rfl

/-- other slots, where nothing is changed -/
theorem SR.keep {k : Nat} {S : Slot} (h : SR rv fp ss P H k S) (hrv : rv' k = rv k) (hfp : fp' k = fp k) (m : ∀ i, P i → Q i ∧ G[i]? = H[i]?) (hl : H.length ≤ G.length)
    (hg : ∀ i, fp k i → G[i]? = H[i]?) (hs : ∀ ps, S = .cells ps → ∀ p ∈ ps, Same rv rv' ss ss' p.2) (hsk : ∀ φ, S = .keep φ → Same rv rv' ss ss' φ) (hse : ∀ sz els, S = .rowk sz els → Same rv rv' ss ss' (.aggk els.flatten)) : SR rv' fp' ss' Q G k S := by
  cases S with
  | rowk sz els =>
    obtain ⟨h0, id, h1, h2, h3⟩ := h
    have hs := hse sz els rfl
    have h4 := (keeps_same (rv := rv) (rv' := rv') (ss' := ss') h0 fun j hj => hs j (fun hn => hn hj)).1
    have h5 : (els.map fun js => js.flatMap fun j => cellsOf (rv' j)) = els.map fun js => js.flatMap fun j => cellsOf (rv j) := by
      apply List.map_congr_left
      intro js hjs
      exact (keeps_same (rv := rv) (rv' := rv') (ss' := ss') (fun j hj => h0 j (List.mem_flatten.2 ⟨js, hjs, hj⟩)) fun j hj => hs j (fun hn => hn (List.mem_flatten.2 ⟨js, hjs, hj⟩))).2.2
    exact ⟨h4, id, hrv.trans h1, by rw [hfp]; exact h2, by rw [h5, rowAt_same (hg id ((h2 id).2 rfl))]; exact h3⟩
  | gone => trivial
  | ghost φ => trivial
  | keep φ =>
    obtain ⟨h1, h2⟩ := h
    exact ⟨by rw [hrv]; exact FR.mono m (hsk φ rfl) h1, by rw [hfp]; exact h2⟩
  | cells ps =>
    obtain ⟨id, cs, h1, h0, h2, h3⟩ := h
    exact ⟨id, cs, hrv.trans h1, by rw [hfp]; exact h0, by rw [cellsAt_same (hg id ((h0 id).2 rfl))]; exact h2, h3.mono m hl (hs ps rfl)⟩
  | row t g =>
    cases g with
    | nil => exact ⟨hrv.trans h.1, by rw [hfp]; exact h.2⟩
    | mk l =>
      obtain ⟨id, els, h1, h0, h2, h3⟩ := h
      exact ⟨id, els, hrv.trans h1, by rw [hfp]; exact h0, by rw [rowAt_same (hg id ((h0 id).2 rfl))]; exact h2, h3.mono m⟩
  | dom D x =>
    show D.R _ _ _ _ _
    rw [hrv, hfp]
    exact D.mono m hg h
end

def Cx.push (Γ : Cx) (d : Nat) (φ : Fact) : Cx := ⟨(d, φ) :: Γ.ts, Γ.ss⟩
/-- all that is known satisfies something -/
def Cx.all (Γ : Cx) (p : Fact → Prop) : Prop := (∀ t φ, findT Γ.ts t = some φ → p φ) ∧ (∀ k ps, findS Γ.ss k = some (.cells ps) → ∀ q ∈ ps, p q.2) ∧ (∀ k φ, (findS Γ.ss k = some (.keep φ) ∨ findS Γ.ss k = some (.ghost φ)) → p φ) ∧ ∀ k sz els, findS Γ.ss k = some (.rowk sz els) → p (.aggk els.flatten)

theorem live_cons {ss : Ss} {j k : Nat} {S : Slot} (hk : k ≠ j) : live ((j, S) :: ss) k ↔ live ss k := by simp only [live, findS, if_neg (Ne.symm hk)]
def goneS : Slot → Bool
  | .gone => true
  | .ghost _ => true
  | _ => false
theorem live_self {ss : Ss} {j : Nat} {S : Slot} (hS : goneS S = false) : live ((j, S) :: ss) j := by
  simp only [live, findS, if_true]
  cases S <;> first | (simp [goneS] at hS; done) | trivial
theorem live_of {ss : Ss} {j : Nat} {S : Slot} (h : findS ss j = some S) (hS : goneS S = false) : live ss j := by
  simp only [live, h]
  cases S <;> first | (simp [goneS] at hS; done) | trivial
theorem live_none {ss : Ss} {j : Nat} (h : findS ss j = none) : ¬ live ss j := by simp only [live, h]; exact fun l => l

theorem mentH_app (a b : Heap) : mentH (a ++ b) = max (mentH a) (mentH b) := by
  induction a with
  | nil => simp [mentH]
  | cons x a ih => simp only [List.cons_append, mentH, ih]; omega
theorem mentH_set {o : AObj} {m : Nat} : ∀ {l : Heap} {i : Nat}, mentH l ≤ m → mentO o ≤ m → mentH (l.set i o) ≤ m
  | [], i, h1, h2 => by simpa using h1
  | x :: l, 0, h1, h2 => by simp only [List.set_cons_zero, mentH] at h1 ⊢; omega
  | x :: l, i + 1, h1, h2 => by
    simp only [List.set_cons_succ, mentH] at h1 ⊢
    have := mentH_set (l := l) (i := i) (o := o) (m := m) (by omega) h2
    omega

section
variable {E : Env} {Γ : Cx} {rv : Nat → AV} {fp : Fp} {f : Fr} {H : Heap}

theorem RelI.ltP (I : RelI E Γ rv fp f H) : ∀ i, Pf E Γ.ss fp H i → i < H.length := fun _ h => h.lt I.le

theorem RelI.push (I : RelI E Γ rv fp f H) {d : Nat} {φ : Fact} {v : AV} (h : FR rv Γ.ss (Pf E Γ.ss fp H) H φ v) : RelI E (Γ.push d φ) rv fp (put f (some d) v) H := by
  refine ⟨I.le, I.base, I.wf, I.fplt, I.rvlt, I.scal, I.inj, I.slots, ?_, I.gh⟩
  intro t ψ e
  simp only [Cx.push, findT] at e
  simp only [put, get]
  split at e
  · rename_i hd
    rw [if_pos hd]
    cases e
    exact h
  · rename_i hd
    rw [if_neg hd]
    exact I.temps t ψ e

/-- only a frame with the same temporaries -/
theorem RelI.fr (I : RelI E Γ rv fp f H) {f' : Fr} (h : ∀ t φ, findT Γ.ts t = some φ → get f' t = get f t) : RelI E Γ rv fp f' H :=
  ⟨I.le, I.base, I.wf, I.fplt, I.rvlt, I.scal, I.inj, I.slots, fun t φ e => by rw [h t φ e]; exact I.temps t φ e, I.gh⟩

/-- one slot is another one now: made, changed, grown -/
theorem RelI.chg (I : RelI E Γ rv fp f H) {j : Nat} {S : Slot} {v : AV} {F : Nat → Prop} {G : Heap} (hnk : keepO (findS Γ.ss j) = false) (hS : goneS S = false) (hl : H.length ≤ G.length) (hG : ∀ i, i < H.length → (live Γ.ss j → ¬ fp j i) → G[i]? = H[i]?)
    (hF : ∀ i, F i → (live Γ.ss j ∧ fp j i) ∨ (H.length ≤ i ∧ i < G.length)) (hk : live Γ.ss j → v = rv j ∨ Γ.all (noRef j)) (hw : mentH G ≤ G.length) (hv : ment v ≤ G.length) (hsc : keepO (some S) = true ∨ Am.scal v = true)
    (hs : ∀ (rv' : Nat → AV) (fp' : Fp), rv' j = v → fp' j = F → (∀ i, Pf E Γ.ss fp H i → Pf E ((j, S) :: Γ.ss) fp' G i ∧ G[i]? = H[i]?) → (∀ φ, (live Γ.ss j → v = rv j ∨ noRef j φ) → Same rv rv' Γ.ss ((j, S) :: Γ.ss) φ) →
      SR rv' fp' ((j, S) :: Γ.ss) (Pf E ((j, S) :: Γ.ss) fp' G) G j S) :
    ∃ rv' fp', rv' j = v ∧ live ((j, S) :: Γ.ss) j ∧ RelI E ⟨Γ.ts, (j, S) :: Γ.ss⟩ rv' fp' f G := by
  let rv' : Nat → AV := fun k => if k = j then v else rv k
  let fp' : Fp := fun k => if k = j then F else fp k
  have hrj : rv' j = v := if_pos rfl
  have hfj : fp' j = F := if_pos rfl
  have hr : ∀ k, k ≠ j → rv' k = rv k := fun k hk => if_neg hk
  have hf : ∀ k, k ≠ j → fp' k = fp k := fun k hk => if_neg hk
  have hlj : live ((j, S) :: Γ.ss) j := live_self hS
  have hlv : ∀ k, k ≠ j → (live ((j, S) :: Γ.ss) k ↔ live Γ.ss k) := fun k hk => live_cons hk
  have hnot : ∀ i, Pf E Γ.ss fp H i → live Γ.ss j → ¬ fp j i := by
    rintro i (⟨h1, h2⟩ | ⟨_, _, h⟩) l e
    · exact ((I.fplt j i l e).2 h1).1 (E.pk i h2)
    · exact h j l e
  have hP : ∀ i, Pf E Γ.ss fp H i → Pf E ((j, S) :: Γ.ss) fp' G i ∧ G[i]? = H[i]? := by
    intro i h
    refine ⟨?_, hG i (h.lt I.le) (hnot i h)⟩
    rcases h with h | ⟨h1, h2, h3⟩
    · exact .inl h
    · refine .inr ⟨h1, by omega, fun k l e => ?_⟩
      by_cases hkj : k = j
      · subst hkj
        rw [hfj] at e
        rcases hF i e with ⟨l', e'⟩ | ⟨h4, _⟩
        · exact h3 k l' e'
        · omega
      · rw [hf k hkj] at e
        exact h3 k ((hlv k hkj).1 l) e
  have hsame : ∀ φ, (live Γ.ss j → v = rv j ∨ noRef j φ) → Same rv rv' Γ.ss ((j, S) :: Γ.ss) φ := by
    intro φ hφ k hkr l
    by_cases hkj : k = j
    · subst hkj
      rcases hφ l with h | h
      · exact ⟨⟨hlj, fun e => by rw [hnk] at e; cases e⟩, hrj.trans h⟩
      · exact absurd h hkr
    · exact ⟨⟨(hlv k hkj).2 l, fun e => by simp only [findS, if_neg (Ne.symm hkj)]; exact e⟩, hr k hkj⟩
  refine ⟨rv', fp', hrj, hlj, ?_, ?_, hw, ?_, ?_, ?_, ?_, ?_, ?_, ?_⟩
  · have := I.le; omega
  · intro i hi hK
    have hnf : live Γ.ss j → ¬ fp j i := fun l e => ((I.fplt j i l e).2 hi).1 hK
    rw [hG i (by have := I.le; omega) hnf]; exact I.base i hi hK
  · intro k i l e
    by_cases hkj : k = j
    · subst hkj
      rw [hfj] at e
      rcases hF i e with ⟨l', e'⟩ | ⟨h1, h2⟩
      · have := I.fplt k i l' e'
        exact ⟨by omega, this.2⟩
      · exact ⟨h2, fun h => absurd h (by have := I.le; omega)⟩
    · rw [hf k hkj] at e
      have := I.fplt k i ((hlv k hkj).1 l) e
      exact ⟨by omega, this.2⟩
  · intro k l
    by_cases hkj : k = j
    · subst hkj; rw [hrj]; exact hv
    · rw [hr k hkj]; have := I.rvlt k ((hlv k hkj).1 l); omega
  · intro k l
    by_cases hkj : k = j
    · subst hkj; rw [hrj]; exact hsc.imp (fun h => by simp only [findS, if_true]; exact h) id
    · rw [hr k hkj]; exact (I.scal k ((hlv k hkj).1 l)).imp (fun h => by simp only [findS, if_neg (Ne.symm hkj)]; exact h) id
  · intro k k' i l l' e e'
    by_cases hkj : k = j <;> by_cases hkj' : k' = j
    · rw [hkj, hkj']
    · subst hkj
      rw [hfj] at e
      rw [hf k' hkj'] at e'
      rcases hF i e with ⟨l1, e1⟩ | ⟨h1, _⟩
      · exact I.inj k k' i l1 ((hlv k' hkj').1 l') e1 e'
      · have := (I.fplt k' i ((hlv k' hkj').1 l') e').1; omega
    · subst hkj'
      rw [hfj] at e'
      rw [hf k hkj] at e
      rcases hF i e' with ⟨l1, e1⟩ | ⟨h1, _⟩
      · exact I.inj k k' i ((hlv k hkj).1 l) l1 e e1
      · have := (I.fplt k i ((hlv k hkj).1 l) e).1; omega
    · rw [hf k hkj] at e
      rw [hf k' hkj'] at e'
      exact I.inj k k' i ((hlv k hkj).1 l) ((hlv k' hkj').1 l') e e'
  · intro k S' e
    rw [findS] at e
    split at e
    · rename_i hkj
      cases e
      subst hkj
      exact hs rv' fp' hrj hfj hP hsame
    · rename_i hkj
      by_cases hg : goneS S' = true
      · cases S' <;> first | trivial | (simp [goneS] at hg; done)
      · have hlk := live_of e (by simpa using hg)
        refine (I.slots k S' e).keep (hr k (Ne.symm hkj)) (hf k (Ne.symm hkj)) hP hl (fun i hi => hG i (I.fplt k i hlk hi).1 fun l e' => hkj (I.inj j k i l hlk e' hi)) (fun ps hps p hp => hsame p.2 fun l => ?_) (fun φ hφ => hsame φ fun l => ?_) fun sz els he => hsame _ fun l => ?_
        · subst hps
          exact (hk l).imp (fun h => h) fun h => h.2.1 k ps e p hp
        · subst hφ
          exact (hk l).imp (fun h => h) fun h => h.2.2.1 k φ (.inl e)
        · subst he
          exact (hk l).imp (fun h => h) fun h => h.2.2.2 k sz els e
  · intro t φ e
    exact (I.temps t φ e).mono hP (hsame φ fun l => (hk l).imp (fun h => h) fun h => h.1 t φ e)
  · intro k φ e
    rw [findS] at e
    split at e
    · rename_i hkj
      cases e
      simp [goneS] at hS
    · exact (I.gh k φ e).mono hP (hsame φ fun l => (hk l).imp (fun h => h) fun h => h.2.2.1 k φ (.inr e))

/-- a slot more, in new memory -/
theorem RelI.more (I : RelI E Γ rv fp f H) {j : Nat} {S : Slot} {v : AV} {o : AObj} (hj : ¬ live Γ.ss j) (hm : mentO o ≤ H.length + 1) (hS : goneS S = false) (hv : ment v ≤ H.length + 1) (hsc : Am.scal v = true)
    (hr : ∀ (rv' : Nat → AV) (fp' : Fp), rv' j = v → (∀ i, fp' j i ↔ i = H.length) → (∀ i, Pf E Γ.ss fp H i → Pf E ((j, S) :: Γ.ss) fp' (H ++ [o]) i ∧ (H ++ [o])[i]? = H[i]?) →
      (∀ φ, Same rv rv' Γ.ss ((j, S) :: Γ.ss) φ) → SR rv' fp' ((j, S) :: Γ.ss) (Pf E ((j, S) :: Γ.ss) fp' (H ++ [o])) (H ++ [o]) j S) :
    ∃ rv' fp', rv' j = v ∧ live ((j, S) :: Γ.ss) j ∧ RelI E ⟨Γ.ts, (j, S) :: Γ.ss⟩ rv' fp' f (H ++ [o]) :=
  I.chg (F := fun i => i = H.length) (by
      cases e : keepO (findS Γ.ss j) with
      | false => rfl
      | true => exact absurd (keep_live e) hj) hS (by simp) (fun i hi _ => List.getElem?_append_left hi) (fun i hi => .inr ⟨by omega, by simp; omega⟩) (fun l => absurd l hj)
    (by rw [mentH_app]; have := I.wf; simp only [mentH, List.length_append, List.length_cons, List.length_nil]; omega) (by simpa using hv) (.inr hsc)
    fun rv' fp' h1 h2 hP hs => hr rv' fp' h1 (fun i => by rw [h2]) hP fun φ => hs φ fun l => absurd l hj

/-- a slot's memory is another one -/
theorem RelI.set (I : RelI E Γ rv fp f H) {j id : Nat} {S : Slot} {v : AV} {o : AObj} (hnk : keepO (findS Γ.ss j) = false) (hl : live Γ.ss j) (hid : ∀ i, fp j i ↔ i = id) (hm : mentO o ≤ H.length) (hS : goneS S = false) (hv : ment v ≤ H.length) (hk : v = rv j ∨ Γ.all (noRef j))
    (hsc : keepO (findS Γ.ss j) = true ∨ Am.scal v = true)
    (hs : ∀ (rv' : Nat → AV) (fp' : Fp), rv' j = v → (∀ i, fp' j i ↔ i = id) → (∀ i, Pf E Γ.ss fp H i → Pf E ((j, S) :: Γ.ss) fp' (H.set id o) i ∧ (H.set id o)[i]? = H[i]?) →
      (∀ φ, v = rv j ∨ noRef j φ → Same rv rv' Γ.ss ((j, S) :: Γ.ss) φ) → SR rv' fp' ((j, S) :: Γ.ss) (Pf E ((j, S) :: Γ.ss) fp' (H.set id o)) (H.set id o) j S) :
    ∃ rv' fp', rv' j = v ∧ live ((j, S) :: Γ.ss) j ∧ RelI E ⟨Γ.ts, (j, S) :: Γ.ss⟩ rv' fp' f (H.set id o) :=
  I.chg (F := fp j) hnk hS (by simp) (fun i _ hn => List.getElem?_set_ne fun e => hn hl ((hid i).2 e.symm)) (fun i hi => .inl ⟨hl, hi⟩) (fun _ => hk) (by simpa using mentH_set I.wf hm) (by simpa using hv) (hsc.elim (fun h => by rw [hnk] at h; cases h) .inr)
    fun rv' fp' h1 h2 hP hs' => hs rv' fp' h1 (fun i => by rw [h2]; exact hid i) hP fun φ h => hs' φ fun _ => h
end
end Go.Proofs.YtobejhpigbllpaaGreatDoor.Am
