/-
  What is known, put otherwise: fewer things; a slot that is no more written.
-/
import Derived.Test.YtobejhpigbllpaaGreatDoorSmB
namespace Go.Proofs.YtobejhpigbllpaaGreatDoor.Am

def mapS (F : Fact → Fact) : Slot → Slot
  | .cells ps => .cells (ps.map fun p => (p.1, F p.2))
  | .keep φ => .keep (F φ)
  | .ghost φ => .ghost (F φ)
  | s => s
theorem keepO_map {F : Fact → Fact} (o : Option Slot) : keepO (o.map (mapS F)) = keepO o := by
  cases o with
  | none => rfl
  | some S => cases S <;> rfl
theorem findT_map {F : Fact → Fact} : ∀ {ts : Ts} {t : Nat}, findT (ts.map fun p => (p.1, F p.2)) t = (findT ts t).map F
  | [], _ => rfl
  | (u, φ) :: r, t => by
    simp only [List.map_cons, findT]
    split
    · rfl
    · exact findT_map
theorem findS_map {F : Fact → Fact} : ∀ {ss : Ss} {j : Nat}, findS (ss.map fun p => (p.1, mapS F p.2)) j = (findS ss j).map (mapS F)
  | [], _ => rfl
  | (u, φ) :: r, t => by
    simp only [List.map_cons, findS]
    split
    · rfl
    · exact findS_map
theorem live_map {F : Fact → Fact} {ss : Ss} {j : Nat} : live (ss.map fun p => (p.1, mapS F p.2)) j ↔ live ss j := by
  simp only [live, findS_map]
  cases findS ss j with
  | none => exact Iff.rfl
  | some S => cases S <;> exact Iff.rfl

theorem PR.map {rv rv' : Nat → AV} {ss ss' : Ss} {P Q : Nat → Prop} {H : Heap} {F : Fact → Fact} : ∀ {ps : List (Nat × Fact)} {cs : List AV}, (∀ p ∈ ps, ∀ c, FC rv ss P H p.2 c → FC rv' ss' Q H (F p.2) c) → PR rv ss P H ps cs →
    PR rv' ss' Q H (ps.map fun p => (p.1, F p.2)) cs
  | [], _, _, h => h
  | (n, φ) :: r, cs, s, ⟨c, d, e, l, h, g⟩ => ⟨c, d, e, l, s _ List.mem_cons_self c h, PR.map (fun p hp => s p (List.mem_cons_of_mem _ hp)) g⟩

section
variable {E : Env} {Γ : Cx} {rv : Nat → AV} {fp : Fp} {f : Fr} {H : Heap}

theorem Pf.same {ss ss' : Ss} (h : ∀ k, live ss' k → live ss k) {i : Nat} : Pf E ss fp H i → Pf E ss' fp H i
  | .inl h => .inl h
  | .inr ⟨h1, h2, h3⟩ => .inr ⟨h1, h2, fun j l => h3 j (h j l)⟩

/-- what is known, turned -/
theorem RelI.map (I : RelI E Γ rv fp f H) {F : Fact → Fact} {ss' : Ss} (hf : ∀ k S, findS ss' k = some S → S ≠ .gone → ∃ S0, findS Γ.ss k = some S0 ∧ S = mapS F S0) (hag : ∀ l, F (.aggk l) = .aggk l)
    (hFR : (∀ i, Pf E Γ.ss fp H i → Pf E ss' fp H i) → ∀ φ v, FR rv Γ.ss (Pf E Γ.ss fp H) H φ v → FR rv ss' (Pf E ss' fp H) H (F φ) v)
    (hFC : (∀ i, Pf E Γ.ss fp H i → Pf E ss' fp H i) → ∀ φ c, FC rv Γ.ss (Pf E Γ.ss fp H) H φ c → FC rv ss' (Pf E ss' fp H) H (F φ) c) : RelI E ⟨Γ.ts.map fun p => (p.1, F p.2), ss'⟩ rv fp f H := by
  have hlv : ∀ k, live ss' k → live Γ.ss k := by
    intro k l
    simp only [live] at l
    cases h : findS ss' k with
    | none => rw [h] at l; exact l.elim
    | some S =>
      rw [h] at l
      have hg : S ≠ .gone := by rintro rfl; exact l
      obtain ⟨S0, h0, rfl⟩ := hf k S h hg
      exact live_of h0 (by cases S0 <;> first | rfl | exact l.elim)
  have hP : ∀ i, Pf E Γ.ss fp H i → Pf E ss' fp H i := fun i => Pf.same hlv
  refine ⟨I.le, I.base, I.wf, fun k i l e => I.fplt k i (hlv k l) e, fun k l => I.rvlt k (hlv k l), fun k l => (I.scal k (hlv k l)).imp (fun h => ?_) id, fun k k' i l l' e e' => I.inj k k' i (hlv k l) (hlv k' l') e e', ?_, ?_, ?_⟩
  · simp only [live] at l
    cases e : findS ss' k with
    | none => rw [e] at l; exact l.elim
    | some S =>
      rw [e] at l
      obtain ⟨S0, h0, rfl⟩ := hf k S e (by rintro rfl; exact l)
      rw [h0] at h
      cases S0 <;> first | rfl | exact h
  · intro k S e
    by_cases hg : S = .gone
    · subst hg; trivial
    · obtain ⟨S0, h0, rfl⟩ := hf k S e hg
      have h := I.slots k S0 h0
      cases S0 with
      | gone => trivial
      | cells ps =>
        obtain ⟨id, cs, h1, h2, h3, h4⟩ := h
        exact ⟨id, cs, h1, h2, h3, h4.map fun p _ c => hFC hP p.2 c⟩
      | row t g =>
        cases g with
        | nil => exact h
        | mk l =>
          obtain ⟨id, els, h1, h2, h3, h4⟩ := h
          exact ⟨id, els, h1, h2, h3, h4.mono fun i hi => ⟨hP i hi, rfl⟩⟩
      | dom D x => exact D.mono (fun i hi => ⟨hP i hi, rfl⟩) (fun _ _ => rfl) h
      | keep φ =>
        obtain ⟨h1, h2⟩ := h
        exact ⟨hFR hP φ _ h1, h2⟩
      | ghost φ => trivial
      | rowk sz els =>
        obtain ⟨g0, id, g1, g2, g3⟩ := h
        have := hFR hP (.aggk els.flatten) _ ⟨g0, rfl⟩
        rw [hag] at this
        exact ⟨this.1, id, g1, g2, g3⟩
  · intro t φ e
    simp only [findT_map] at e
    obtain ⟨ψ, h, rfl⟩ := Option.map_eq_some_iff.1 e
    exact hFR hP ψ _ (I.temps t ψ h)
  · intro k φ e
    obtain ⟨S0, h0, e'⟩ := hf k _ e (by simp)
    cases S0 <;> simp only [mapS, Slot.ghost.injEq, reduceCtorEq] at e'
    subst e'
    exact hFR hP _ _ (I.gh k _ h0)

theorem FR.weak {ss ss' : Ss} {P Q : Nat → Prop} {φ : Fact} {v : AV} (hP : ∀ i, P i → Q i) (hl : ∀ j, ¬ noRef j φ → live ss j → live ss' j ∧ (keepO (findS ss j) = true → keepO (findS ss' j) = true)) (h : FR rv ss P H φ v) : FR rv ss' Q H φ v :=
  h.mono (fun i hi => ⟨hP i hi, rfl⟩) fun j hj l => ⟨hl j hj l, rfl⟩
theorem FC.weak {ss ss' : Ss} {P Q : Nat → Prop} {φ : Fact} {c : List AV} (hP : ∀ i, P i → Q i) (hl : ∀ j, ¬ noRef j φ → live ss j → live ss' j ∧ (keepO (findS ss j) = true → keepO (findS ss' j) = true)) (h : FC rv ss P H φ c) : FC rv ss' Q H φ c :=
  h.mono (fun i hi => ⟨hP i hi, rfl⟩) (Nat.le_refl _) fun j hj l => ⟨hl j hj l, rfl⟩

/-! What leads to a slot is turned. -/
def turnF (j : Nat) (F : Fact → Fact) : Fact → Fact
  | .own k => if k = j then F (.own k) else .own k
  | .ep k i o => if k = j then F (.ep k i o) else .ep k i o
  | .cp k o => if k = j then F (.cp k o) else .cp k o
  | .oc k o s n => if k = j then F (.oc k o s n) else .oc k o s n
  | φ => φ
/-- a fact that no slot that may be written stands in -/
def noKeep (j : Nat) : Fact → Prop
  | .kv k => k ≠ j
  | .fnv _ js ks => j ∉ js ++ ks
  | .aggk js => j ∉ js
  | .tupk js => j ∉ js
  | _ => True
theorem FR.noKeep {rv : Nat → AV} {ss : Ss} {P : Nat → Prop} {H : Heap} {φ : Fact} {v : AV} {j : Nat} (hj : keepO (findS ss j) = false) (h : FR rv ss P H φ v) : noKeep j φ := by
  have no : ∀ {l : List Nat}, keeps ss l → j ∉ l := fun h hm => by have := h j hm; rw [hj] at this; cases this
  cases φ <;> try exact trivial
  · exact fun e => no h.1 (by simp [e])
  · exact no h.1
  · exact no h.1
  · exact no h.1
theorem turnF_no {j : Nat} {F : Fact → Fact} {φ : Fact} (h : noRef j φ) : turnF j F φ = φ := by
  cases φ <;> simp only [noRef] at h <;> simp only [turnF] <;> first | rfl | (rw [if_neg h])
theorem turnF_yes {j : Nat} {F : Fact → Fact} {φ : Fact} (hk : noKeep j φ) (h : ¬ noRef j φ) : turnF j F φ = F φ := by
  cases φ <;> first
    | (simp only [noRef, not_true_eq_false, ne_eq, Decidable.not_not] at h; simp only [turnF, if_pos h]; done)
    | exact absurd hk h
    | exact absurd trivial h

/-! What is known of a slot's place goes. -/
def Cx.kill (Γ : Cx) (j : Nat) : Cx := ⟨Γ.ts.map fun p => (p.1, turnF j (fun _ => .junk) p.2), Γ.ss.map fun p => (p.1, mapS (turnF j fun _ => .junk) p.2)⟩
theorem turnF_junk (j : Nat) (φ : Fact) (hk : noKeep j φ) : noRef j (turnF j (fun _ => .junk) φ) := by
  by_cases h : noRef j φ
  · rw [turnF_no h]; exact h
  · rw [turnF_yes hk h]; trivial
theorem RelI.noKeepT (I : RelI E Γ rv fp f H) {j : Nat} (hj : keepO (findS Γ.ss j) = false) : Γ.all (noKeep j) := by
  refine ⟨fun t φ e => FR.noKeep hj (I.temps t φ e), fun k ps e p hp => ?_, fun k φ e => ?_, fun k sz els e => ?_⟩
  · obtain ⟨id, cs, _, _, _, h⟩ := I.slots k _ e
    have key : ∀ {ps : List (Nat × Fact)} {cs : List AV}, PR rv Γ.ss (Pf E Γ.ss fp H) H ps cs → ∀ p ∈ ps, noKeep j p.2 := by
      intro ps
      induction ps with
      | nil => intro cs _ p hp; cases hp
      | cons q ps ih =>
        rintro cs ⟨c, d, _, _, h1, h2⟩ p hp
        rcases List.mem_cons.1 hp with rfl | hp
        · obtain ⟨n, φ⟩ := p
          cases φ <;> first | trivial | exact h1.elim | (obtain ⟨v, _, h1⟩ := h1; exact FR.noKeep hj h1)
        · exact ih h2 p hp
    exact key h p hp
  · rcases e with e | e
    · exact FR.noKeep hj (I.slots k _ e).1
    · exact FR.noKeep hj (I.gh k φ e)
  · have h0 := (I.slots k _ e).1
    exact fun hm => by have := h0 j hm; rw [hj] at this; cases this
theorem Cx.kill_all (I : RelI E Γ rv fp f H) {j : Nat} (hj : keepO (findS Γ.ss j) = false) : (Γ.kill j).all (noRef j) := by
  have hn := I.noKeepT hj
  refine ⟨fun t φ e => ?_, fun k ps e p hp => ?_, fun k φ e => ?_, fun k sz els e => ?_⟩
  · simp only [Cx.kill, findT_map] at e
    obtain ⟨ψ, h, rfl⟩ := Option.map_eq_some_iff.1 e
    exact turnF_junk j ψ (hn.1 t ψ h)
  · simp only [Cx.kill, findS_map] at e
    obtain ⟨S, h, e⟩ := Option.map_eq_some_iff.1 e
    cases S <;> simp only [mapS, Slot.cells.injEq, reduceCtorEq] at e
    subst e
    obtain ⟨q, hq, rfl⟩ := List.mem_map.1 hp
    exact turnF_junk j q.2 (hn.2.1 k _ h q hq)
  · simp only [Cx.kill, findS_map] at e
    rcases e with e | e
    · obtain ⟨S, h, e⟩ := Option.map_eq_some_iff.1 e
      cases S <;> simp only [mapS, Slot.keep.injEq, reduceCtorEq] at e
      subst e
      exact turnF_junk j _ (hn.2.2.1 k _ (.inl h))
    · obtain ⟨S, h, e⟩ := Option.map_eq_some_iff.1 e
      cases S <;> simp only [mapS, Slot.ghost.injEq, reduceCtorEq] at e
      subst e
      exact turnF_junk j _ (hn.2.2.1 k _ (.inr h))
  · simp only [Cx.kill, findS_map] at e
    obtain ⟨S, h, e⟩ := Option.map_eq_some_iff.1 e
    cases S <;> simp only [mapS, Slot.rowk.injEq, reduceCtorEq] at e
    obtain ⟨rfl, rfl⟩ := e
    exact hn.2.2.2 k _ _ h
theorem RelI.kill (I : RelI E Γ rv fp f H) (j : Nat) (hj : keepO (findS Γ.ss j) = false) : RelI E (Γ.kill j) rv fp f H := by
  have hl : ∀ k, live Γ.ss k → live (Γ.kill j).ss k ∧ (keepO (findS Γ.ss k) = true → keepO (findS (Γ.kill j).ss k) = true) := fun k h => ⟨live_map.2 h, fun e => by rw [Cx.kill]; simp only [findS_map, keepO_map]; exact e⟩
  refine I.map (F := turnF j fun _ => .junk) (fun k S e _ => ?_) (fun l => ?_) (fun hP φ v h => ?_) (fun hP φ c h => ?_)
  · rw [findS_map] at e
    obtain ⟨S0, h0, rfl⟩ := Option.map_eq_some_iff.1 e
    exact ⟨S0, h0, rfl⟩
  · rfl
  · by_cases hk : noRef j φ
    · rw [turnF_no hk]; exact h.weak hP fun k _ => hl k
    · rw [turnF_yes (FR.noKeep hj h) hk]; trivial
  · by_cases hk : noRef j φ
    · rw [turnF_no hk]; exact h.weak hP fun k _ => hl k
    · have hk' : noKeep j φ := by
        cases φ <;> first | trivial | exact h.elim | (obtain ⟨v, _, h⟩ := h; exact FR.noKeep hj h)
      rw [turnF_yes hk' hk]
      exact FC.men I.ltP I.rvlt h

/-! Memory that is no more written. -/
def Cx.turn (Γ : Cx) (j : Nat) (F : Fact → Fact) : Cx := ⟨Γ.ts.map fun p => (p.1, turnF j F p.2), (j, .gone) :: Γ.ss.map fun p => (p.1, mapS (turnF j F) p.2)⟩

theorem Pf.gone (I : RelI E Γ rv fp f H) {j id : Nat} (hl : live Γ.ss j) (hid : fp j id) {ss' : Ss} (h : ∀ k, live ss' k → k ≠ j ∧ live Γ.ss k) (hn : E.h.length ≤ id) : Pf E ss' fp H id :=
  .inr ⟨hn, (I.fplt j id hl hid).1, fun k l e => (h k l).1 (I.inj k j id (h k l).2 hl e hid)⟩

theorem gone_live {F : Fact → Fact} {ss : Ss} {j : Nat} : ∀ k, live ((j, .gone) :: ss.map fun p => (p.1, mapS F p.2)) k ↔ k ≠ j ∧ live ss k := by
  intro k
  by_cases hk : k = j
  · subst hk
    simp only [live, findS, if_true, liveO, false_iff]
    exact fun h => h.1 rfl
  · rw [live_cons hk, live_map]
    exact ⟨fun h => ⟨hk, h⟩, fun h => h.2⟩

theorem gone_keep {F : Fact → Fact} {ss : Ss} {j k : Nat} (hk : k ≠ j) (h : keepO (findS ss k) = true) : keepO (findS ((j, .gone) :: ss.map fun p => (p.1, mapS F p.2)) k) = true := by
  simp only [findS, if_neg (Ne.symm hk), findS_map, keepO_map]; exact h
theorem RelI.turn (I : RelI E Γ rv fp f H) {j : Nat} {F : Fact → Fact} (hj : keepO (findS Γ.ss j) = false)
    (hF : (∀ i, Pf E Γ.ss fp H i → Pf E (Γ.turn j F).ss fp H i) → ∀ φ v, ¬ noRef j φ → FR rv Γ.ss (Pf E Γ.ss fp H) H φ v → FR rv (Γ.turn j F).ss (Pf E (Γ.turn j F).ss fp H) H (F φ) v ∧ FC rv (Γ.turn j F).ss (Pf E (Γ.turn j F).ss fp H) H (F φ) [v]) :
    RelI E (Γ.turn j F) rv fp f H := by
  have hlv : ∀ k, live (Γ.turn j F).ss k ↔ k ≠ j ∧ live Γ.ss k := gone_live
  have keep : ∀ φ, noRef j φ → ∀ k, ¬ noRef k φ → live Γ.ss k → live (Γ.turn j F).ss k ∧ (keepO (findS Γ.ss k) = true → keepO (findS (Γ.turn j F).ss k) = true) := fun φ h k hk l =>
    have hkj : k ≠ j := fun e => hk (e ▸ h)
    ⟨(hlv k).2 ⟨hkj, l⟩, gone_keep hkj⟩
  refine I.map (F := turnF j F) (fun k S e hg => ?_) (fun _ => rfl) (fun hP φ v h => ?_) (fun hP φ c h => ?_)
  · simp only [Cx.turn, findS] at e
    split at e
    · cases e; exact absurd rfl hg
    · rw [findS_map] at e
      obtain ⟨S0, h0, rfl⟩ := Option.map_eq_some_iff.1 e
      exact ⟨S0, h0, rfl⟩
  · by_cases hn : noRef j φ
    · rw [turnF_no hn]; exact h.weak hP (keep φ hn)
    · rw [turnF_yes (FR.noKeep hj h) hn]; exact (hF hP φ v hn h).1
  · by_cases hn : noRef j φ
    · rw [turnF_no hn]; exact h.weak hP (keep φ hn)
    · have : ∃ v, c = [v] ∧ FR rv Γ.ss (Pf E Γ.ss fp H) H φ v := by
        cases φ <;> first | exact h | exact h.elim | exact absurd trivial hn
      obtain ⟨v, rfl, h'⟩ := this
      rw [turnF_yes (FR.noKeep hj h') hn]
      exact (hF hP φ v hn h').2

theorem FR.one {ss : Ss} {P : Nat → Prop} (hi : ∀ j, live ss j → ment (rv j) ≤ H.length) {φ : Fact} {v : AV} {j : Nat} (hp : ∀ i, P i → i < H.length) (hn : ¬ noRef j φ) (h : FR rv ss P H φ v) : mentL [v] ≤ H.length := by
  simpa [mentL] using FR.men hp hi (by rintro rfl; exact hn trivial) h

def rowF (t : T) (g : GS t.α) : Fact → Fact
  | .own _ => .val (T.sl t) g
  | _ => .junk
/-- a slot that came with the call stays the caller's -/
theorem RelI.new (I : RelI E Γ rv fp f H) {j : Nat} (hl : live Γ.ss j) (hn : Nat.blt j parj = true) (i : Nat) (h : fp j i) : E.h.length ≤ i := by
  rcases Nat.lt_or_ge i E.h.length with h' | h'
  · have h1 := ((I.fplt j i hl h).2 h').2
    have h2 : j < parj := by rw [Nat.blt, Nat.ble_eq] at hn; exact hn
    omega
  · exact h'
theorem RelI.frzRow (I : RelI E Γ rv fp f H) {j : Nat} {t : T} {g : GS t.α} (hj : findS Γ.ss j = some (.row t g)) (hnb : Nat.blt j parj = true) : RelI E (Γ.turn j (rowF t g)) rv fp f H := by
  have hl : live Γ.ss j := live_of hj rfl
  have hn := I.new hl hnb
  have hs := I.slots j _ hj
  have hlv : ∀ k, live (Γ.turn j (rowF t g)).ss k ↔ k ≠ j ∧ live Γ.ss k := gone_live
  refine I.turn (by rw [hj]; rfl) fun hP φ v hr h => ?_
  have hnk : noKeep j φ := FR.noKeep (by rw [hj]; rfl) h
  have hone := FR.one I.rvlt I.ltP hr h
  cases φ with
  | own k =>
    simp only [noRef, ne_eq, Decidable.not_not] at hr
    subst hr
    obtain ⟨_, rfl⟩ := h
    have : SlV t (Pf E (Γ.turn k (rowF t g)).ss fp H) H (rv k) g := by
      cases g with
      | nil => exact hs.1
      | mk l =>
        obtain ⟨id, els, h1, h0, h2, h3⟩ := hs
        rw [h1]
        have hk := (h0 id).2 rfl
        refine ⟨Pf.gone I hl hk (fun k lk => (hlv k).1 lk) (hn id hk), els, ?_, h3.mono fun i hi => ⟨hP i hi, rfl⟩⟩
        simp [els?, h2]
    exact ⟨T.sl_V.2 this, _, rfl, this⟩
  | ep k i o => exact ⟨trivial, hone⟩
  | cp k o => exact ⟨trivial, hone⟩
  | oc k o s n => exact ⟨trivial, hone⟩
  | val t x => exact absurd trivial hr
  | rp t x => exact absurd trivial hr
  | tup l => exact absurd trivial hr
  | junk => exact absurd trivial hr
  | con c => exact absurd trivial hr
  | kv k => exact absurd hnk hr
  | fnv g js ks => exact absurd hnk hr
  | aggk js => exact absurd hnk hr
  | tupk js => exact absurd hnk hr

def celF (t : T) (x : t.α) : Fact → Fact
  | .cp _ 0 => .rp t x
  | _ => .junk
theorem RelI.frzCell (I : RelI E Γ rv fp f H) {j n : Nat} {t : T} {x : t.α} (hj : findS Γ.ss j = some (.cells [(n, .val t x)])) (hnb : Nat.blt j parj = true) : RelI E (Γ.turn j (celF t x)) rv fp f H := by
  have hl : live Γ.ss j := live_of hj rfl
  have hn := I.new hl hnb
  have hs := I.slots j _ hj
  have hlv : ∀ k, live (Γ.turn j (celF t x)).ss k ↔ k ≠ j ∧ live Γ.ss k := gone_live
  refine I.turn (by rw [hj]; rfl) fun hP φ v hr h => ?_
  have hnk : noKeep j φ := FR.noKeep (by rw [hj]; rfl) h
  have hone := FR.one I.rvlt I.ltP hr h
  cases φ with
  | cp k o =>
    simp only [noRef, ne_eq, Decidable.not_not] at hr
    subst hr
    cases o with
    | succ o => exact ⟨trivial, hone⟩
    | zero =>
      obtain ⟨_, id, e, rfl⟩ := h
      obtain ⟨id', cs, h1, h0, h2, c, d, h3, h4, h5, h6⟩ := hs
      rw [e] at h1
      cases h1
      have h6' : d = [] := h6
      subst h6'
      simp only [List.append_nil] at h3
      subst h3
      have hk := (h0 id).2 rfl
      have hp := Pf.gone I hl hk (fun k lk => (hlv k).1 lk) (hn id hk)
      have hlen := t.len h5
      have : RpV t (Pf E (Γ.turn k (celF t x)).ss fp H) H (.ptr id 0) x := by
        refine ⟨hp, cs, 0, by simp [place, h2], by omega, ?_, fun m hm => by simp only [ment]; exact hm _ hp⟩
        have : sub cs 0 t.sz = cs := by simp only [sub, List.drop_zero]; exact List.take_of_length_le (by omega)
        rw [this]
        exact t.mono (fun i hi => ⟨hP i hi, rfl⟩) h5
      exact ⟨this, _, rfl, this⟩
  | own k => exact ⟨trivial, hone⟩
  | oc k o s n => exact ⟨trivial, hone⟩
  | ep k i o => exact ⟨trivial, hone⟩
  | val t x => exact absurd trivial hr
  | rp t x => exact absurd trivial hr
  | tup l => exact absurd trivial hr
  | junk => exact absurd trivial hr
  | con c => exact absurd trivial hr
  | kv k => exact absurd hnk hr
  | fnv g js ks => exact absurd hnk hr
  | aggk js => exact absurd hnk hr
  | tupk js => exact absurd hnk hr

/-! Less is known. -/
def keepP : Option Slot → Prop
  | some (.keep _) => True
  | _ => False
def keepsP (ss : Ss) : List Nat → Prop
  | [] => True
  | j :: r => keepP (findS ss j) ∧ keepsP ss r
theorem keepP_spec {o : Option Slot} (h : keepP o) : keepO o = true := by
  unfold keepP at h
  split at h
  · rfl
  · exact h.elim
theorem keepsP_spec {ss : Ss} : ∀ {l : List Nat}, keepsP ss l → keeps ss l
  | [], _, j, hj => by cases hj
  | k :: l, h, j, hj => by
    rcases List.mem_cons.1 hj with rfl | hj
    · exact keepP_spec h.1
    · exact keepsP_spec h.2 j hj
def refOk (ss : Ss) : Fact → Prop
  | .own k => live ss k
  | .ep k _ _ => live ss k
  | .cp k _ => live ss k
  | .oc k _ _ _ => live ss k
  | .kv k => keepsP ss [k]
  | .fnv _ js ks => keepsP ss (js ++ ks)
  | .aggk js => keepsP ss js
  | .tupk js => keepsP ss js
  | _ => True
def refsOk (ss : Ss) : List (Nat × Fact) → Prop
  | [] => True
  | p :: r => refOk ss p.2 ∧ refsOk ss r
def refS (ss : Ss) : Slot → Prop
  | .cells ps => refsOk ss ps
  | .keep φ => refOk ss φ
  | .ghost φ => refOk ss φ
  | .rowk _ els => keepsP ss els.flatten
  | _ => True
def subT (Γ : Cx) (ss : Ss) : Ts → Prop
  | [] => True
  | (t, φ) :: r => (findT Γ.ts t = some φ ∧ refOk ss φ) ∧ subT Γ ss r
def subS (Γ : Cx) (ss : Ss) : Ss → Prop
  | [] => True
  | (j, S) :: r => (findS Γ.ss j = some S ∧ refS ss S) ∧ subS Γ ss r
/-- less is known -/
def Sub (Γ' Γ : Cx) : Prop := subT Γ Γ'.ss Γ'.ts ∧ subS Γ Γ'.ss Γ'.ss

theorem subT_find {ss : Ss} : ∀ {ts : Ts} {t : Nat} {φ : Fact}, subT Γ ss ts → findT ts t = some φ → findT Γ.ts t = some φ ∧ refOk ss φ
  | [], _, _, _, e => by simp [findT] at e
  | (u, ψ) :: r, t, φ, h, e => by
    simp only [findT] at e
    split at e
    · rename_i hu; cases e; subst hu; exact h.1
    · exact subT_find h.2 e
theorem subS_find {ss : Ss} : ∀ {l : Ss} {j : Nat} {S : Slot}, subS Γ ss l → findS l j = some S → findS Γ.ss j = some S ∧ refS ss S
  | [], _, _, _, e => by simp [findS] at e
  | (u, ψ) :: r, t, φ, h, e => by
    simp only [findS] at e
    split at e
    · rename_i hu; cases e; subst hu; exact h.1
    · exact subS_find h.2 e
theorem refOk_spec {ss : Ss} {φ : Fact} (h : refOk ss φ) : ∀ j, ¬ noRef j φ → live ss j ∧ (¬ noKeep j φ → keepO (findS ss j) = true) := by
  intro j hj
  have key : ∀ {l : List Nat}, keepsP ss l → j ∈ l → live ss j ∧ keepO (findS ss j) = true := fun h hm => ⟨keep_live (keepsP_spec h j hm), keepsP_spec h j hm⟩
  cases φ <;> first
    | exact absurd trivial hj
    | (simp only [noRef, ne_eq, Decidable.not_not] at hj; subst hj; exact ⟨h, fun hn => absurd trivial hn⟩)
    | (simp only [noRef, ne_eq, Decidable.not_not] at hj; exact ⟨(key h (by simp [hj])).1, fun _ => (key h (by simp [hj])).2⟩)
    | exact ⟨(key h (Decidable.not_not.1 hj)).1, fun _ => (key h (Decidable.not_not.1 hj)).2⟩
theorem refsOk_mem {ss : Ss} : ∀ {ps : List (Nat × Fact)}, refsOk ss ps → ∀ p ∈ ps, refOk ss p.2
  | [], _, p, hp => by cases hp
  | q :: r, h, p, hp => by
    rcases List.mem_cons.1 hp with rfl | hp
    · exact h.1
    · exact refsOk_mem h.2 p hp

theorem RelI.sub {Γ' : Cx} (I : RelI E Γ rv fp f H) (h : Sub Γ' Γ) : RelI E Γ' rv fp f H := by
  have hlv : ∀ k, live Γ'.ss k → live Γ.ss k := by
    intro k l
    cases e : findS Γ'.ss k with
    | none => simp only [live, e] at l; exact l.elim
    | some S =>
      have := (subS_find h.2 e).1
      simp only [live, e] at l
      simp only [live, this]; exact l
  have hP : ∀ i, Pf E Γ.ss fp H i → Pf E Γ'.ss fp H i := fun i => Pf.same hlv
  have hsame : ∀ φ, refOk Γ'.ss φ → Same rv rv Γ.ss Γ'.ss φ := fun φ r j hj l => by
    have hl := (refOk_spec r j hj).1
    refine ⟨⟨hl, fun e => ?_⟩, rfl⟩
    cases e' : findS Γ'.ss j with
    | none => simp only [live, e'] at hl; exact hl.elim
    | some S => rw [(subS_find h.2 e').1] at e; exact e
  refine ⟨I.le, I.base, I.wf, fun k i l e => I.fplt k i (hlv k l) e, fun k l => I.rvlt k (hlv k l), fun k l => (I.scal k (hlv k l)).imp (fun e => ?_) id, fun k k' i l l' e e' => I.inj k k' i (hlv k l) (hlv k' l') e e', ?_, ?_, ?_⟩
  · cases e' : findS Γ'.ss k with
    | none => simp only [live, e'] at l; exact l.elim
    | some S => rw [(subS_find h.2 e').1] at e; exact e
  · intro k S e
    obtain ⟨e', r⟩ := subS_find h.2 e
    refine (I.slots k S e').keep rfl rfl (fun i hi => ⟨hP i hi, rfl⟩) (Nat.le_refl _) (fun _ _ => rfl) (fun ps hps p hp => ?_) (fun φ hφ => ?_) fun sz els he => ?_
    · subst hps
      exact hsame p.2 (refsOk_mem r p hp)
    · subst hφ
      exact hsame φ r
    · subst he
      exact hsame (.aggk els.flatten) r
  · intro t φ e
    obtain ⟨e', r⟩ := subT_find h.1 e
    exact (I.temps t φ e').mono (fun i hi => ⟨hP i hi, rfl⟩) (hsame φ r)
  · intro k φ e
    obtain ⟨e', r⟩ := subS_find h.2 e
    exact (I.gh k φ e').mono (fun i hi => ⟨hP i hi, rfl⟩) (hsame φ r)
end
end Go.Proofs.YtobejhpigbllpaaGreatDoor.Am
