/-
  Types as sets of Lean values, and what cells of the machine's say of such a value; memory that P names is no more written.
-/
import Derived.Test.YtobejhpigbllpaaGreatDoorAmD
namespace Go.Proofs.YtobejhpigbllpaaGreatDoor.Am

theorem frz_ment {h : Heap} {n d : Nat} {v : AV} (hm : ment v ≤ n) : frz h n d v = some v := by
  cases d <;> simp [frz, hm]
theorem manyO_ment {h : Heap} {n d : Nat} : ∀ {l : List AV}, mentL l ≤ n → manyO (frz h n d) l = some l
  | [], _ => rfl
  | v :: l, hm => by
    simp only [mentL] at hm
    simp only [manyO, frz_ment (show ment v ≤ n by omega), Option.bind_some, manyO_ment (show mentL l ≤ n by omega), Option.map_some]
theorem mentL_append : ∀ (a b : List AV), mentL (a ++ b) = max (mentL a) (mentL b)
  | [], b => by simp [mentL]
  | x :: a, b => by simp only [List.cons_append, mentL, mentL_append a b]; omega
theorem manyO_append {α : Type} {F : α → Option α} : ∀ {a b a' b' : List α}, manyO F a = some a' → manyO F b = some b' → manyO F (a ++ b) = some (a' ++ b')
  | [], b, a', b', h, g => by simp only [manyO, Option.some.injEq] at h; subst h; exact g
  | x :: a, b, a', b', h, g => by
    simp only [manyO] at h
    obtain ⟨y, hy, h⟩ := Option.bind_eq_some_iff.1 h
    obtain ⟨l, hl, rfl⟩ := Option.map_eq_some_iff.1 h
    simp only [List.cons_append, manyO, hy, Option.bind_some, manyO_append hl g, Option.map_some]

structure T where
  α : Type
  sz : Nat
  agg : Bool
  dep : Nat
  R : (Nat → Prop) → Heap → List AV → α → Prop
  zc : List AV
  z : α
  hz : ∀ (P : Nat → Prop) (H : Heap), R P H zc z
  one : agg = false → sz = 1
  len : ∀ {P : Nat → Prop} {H : Heap} {cs : List AV} {x : α}, R P H cs x → cs.length = sz
  sca : ∀ {P : Nat → Prop} {H : Heap} {cs : List AV} {x : α}, R P H cs x → cs.all scal = true
  men : ∀ {P : Nat → Prop} {H : Heap} {cs : List AV} {x : α} {m : Nat}, R P H cs x → (∀ i, P i → i < m) → mentL cs ≤ m
  mono : ∀ {P Q : Nat → Prop} {H G : Heap} {cs : List AV} {x : α}, (∀ i, P i → Q i ∧ G[i]? = H[i]?) → R P H cs x → R Q G cs x
  cut : ∀ {P Q : Nat → Prop} {H : Heap} {cs : List AV} {x : α} {n : Nat}, R P H cs x → mentL cs ≤ n → mentH (H.take n) ≤ n → (∀ i, P i → i < n → Q i) → R Q (H.take n) cs x
  frz : ∀ {P Q : Nat → Prop} {H : Heap} {cs : List AV} {x : α} {n d : Nat}, R P H cs x → dep ≤ d → d ≤ 20 → mentH (H.take n) ≤ n → (∀ i, P i → i < n → Q i) → ∃ cs', manyO (frz H n d) cs = some cs' ∧ R Q (H.take n) cs' x

/-- a value, not its cells -/
def T.V (t : T) (P : Nat → Prop) (H : Heap) (v : AV) (x : t.α) : Prop := (t.agg = true ∧ ∃ cs, v = .agg cs ∧ t.R P H cs x) ∨ (t.agg = false ∧ t.R P H [v] x)

section
variable {t : T} {P Q : Nat → Prop} {H G : Heap}

theorem cellsOf_scal {v : AV} (h : scal v = true) : cellsOf v = [v] := by
  cases v <;> simp [scal] at h <;> rfl
theorem T.V.cells {v : AV} {x : t.α} (h : t.V P H v x) : t.R P H (cellsOf v) x := by
  rcases h with ⟨_, cs, rfl, h⟩ | ⟨_, h⟩
  · exact h
  · have := t.sca h
    simp only [List.all_cons, List.all_nil, Bool.and_true] at this
    rw [cellsOf_scal this]; exact h
theorem T.V.of {cs : List AV} {x : t.α} (h : t.R P H cs x) : ∃ v, asVal t.agg cs = some v ∧ t.V P H v x := by
  cases ha : t.agg with
  | true => exact ⟨.agg cs, by simp [asVal], .inl ⟨ha, cs, rfl, h⟩⟩
  | false =>
    have := t.len h
    rw [t.one ha] at this
    match cs, this with
    | [v], _ => exact ⟨v, rfl, .inr ⟨ha, h⟩⟩
theorem T.V.mono {v : AV} {x : t.α} (m : ∀ i, P i → Q i ∧ G[i]? = H[i]?) (h : t.V P H v x) : t.V Q G v x := by
  rcases h with ⟨a, cs, rfl, h⟩ | ⟨a, h⟩
  · exact .inl ⟨a, cs, rfl, t.mono m h⟩
  · exact .inr ⟨a, t.mono m h⟩
theorem T.V.men {v : AV} {x : t.α} {m : Nat} (h : t.V P H v x) (hp : ∀ i, P i → i < m) : ment v ≤ m := by
  rcases h with ⟨a, cs, rfl, h⟩ | ⟨a, h⟩
  · simpa [ment] using t.men h hp
  · simpa [mentL] using t.men h hp
theorem T.V.frz {v : AV} {x : t.α} {n d : Nat} (h : t.V P H v x) (hd : t.dep ≤ d) (h20 : d + 1 ≤ 20) (hw : mentH (H.take n) ≤ n) (hp : ∀ i, P i → i < n → Q i) : ∃ v', Am.frz H n (d + 1) v = some v' ∧ t.V Q (H.take n) v' x := by
  rcases h with ⟨a, cs, rfl, h⟩ | ⟨a, h⟩
  · by_cases hm : mentL cs ≤ n
    · exact ⟨.agg cs, frz_ment (by simpa [ment] using hm), .inl ⟨a, cs, rfl, t.cut h hm hw hp⟩⟩
    · obtain ⟨cs', e, r⟩ := t.frz h hd (by omega) hw hp
      exact ⟨.agg cs', by simp [Am.frz, ment, hm, e], .inl ⟨a, cs', rfl, r⟩⟩
  · obtain ⟨cs', e, r⟩ := t.frz h (show t.dep ≤ d + 1 by omega) h20 hw hp
    simp only [manyO] at e
    obtain ⟨v', hv, e⟩ := Option.bind_eq_some_iff.1 e
    simp only [Option.map_some, Option.some.injEq] at e
    subst e
    exact ⟨v', hv, .inr ⟨a, r⟩⟩
end

/-! one cell -/
def T.sc (α : Type) (c : α → AV) (z : α) (hs : ∀ x, scal (c x) = true) (hm : ∀ x, ment (c x) = 0) : T where
  α := α
  sz := 1
  agg := false
  dep := 0
  R := fun _ _ cs x => cs = [c x]
  zc := [c z]
  z := z
  hz := fun _ _ => rfl
  one := fun _ => rfl
  len := fun h => by rw [h]; rfl
  sca := fun {_ _ _ x} h => by rw [h]; simp [hs x]
  men := fun {_ _ _ x _} h _ => by rw [h]; simp [mentL, hm x]
  mono := fun _ h => h
  cut := fun h _ _ _ => h
  frz := fun {_ _ _ _ x _ _} h _ _ _ _ => ⟨_, by rw [h, manyO_ment (by simp [mentL, hm x])], rfl⟩

theorem T.sc_V {α : Type} {c : α → AV} {z : α} {hs : ∀ x, scal (c x) = true} {hm : ∀ x, ment (c x) = 0} {P : Nat → Prop} {H : Heap} {v : AV} {x : α} : (T.sc α c z hs hm).V P H v x ↔ v = c x := by
  constructor
  · rintro (⟨a, _⟩ | ⟨_, h⟩)
    · cases a
    · exact (List.cons.inj h).1
  · rintro rfl
    exact .inr ⟨rfl, rfl⟩

def T.b : T := T.sc Bool .b false (fun _ => rfl) (fun _ => rfl)
def T.int (k : IntKind) : T := T.sc Int (.i k) 0 (fun _ => rfl) (fun _ => rfl)
def T.u8 : T := T.sc UInt8 (fun x => .i .u8 x.toNat) 0 (fun _ => rfl) (fun _ => rfl)
def T.u16 : T := T.sc UInt16 (fun x => .i .u16 x.toNat) 0 (fun _ => rfl) (fun _ => rfl)
def T.u32 : T := T.sc UInt32 (fun x => .i .u32 x.toNat) 0 (fun _ => rfl) (fun _ => rfl)
def T.u64 : T := T.sc UInt64 (fun x => .i .u64 x.toNat) 0 (fun _ => rfl) (fun _ => rfl)
abbrev Str := List UInt8
def T.str : T := T.sc Str .s [] (fun _ => rfl) (fun _ => rfl)

/-! one behind another one -/
def T.prod (a b : T) : T where
  α := a.α × b.α
  sz := a.sz + b.sz
  agg := true
  dep := max a.dep b.dep
  R := fun P H cs x => ∃ c d, cs = c ++ d ∧ a.R P H c x.1 ∧ b.R P H d x.2
  zc := a.zc ++ b.zc
  z := (a.z, b.z)
  hz := fun P H => ⟨_, _, rfl, a.hz P H, b.hz P H⟩
  one := fun h => by cases h
  len := fun ⟨c, d, e, h, g⟩ => by rw [e, List.length_append, a.len h, b.len g]
  sca := fun ⟨c, d, e, h, g⟩ => by rw [e, List.all_append, a.sca h, b.sca g]; rfl
  men := fun ⟨c, d, e, h, g⟩ hp => by rw [e, mentL_append]; have := a.men h hp; have := b.men g hp; omega
  mono := fun m ⟨c, d, e, h, g⟩ => ⟨c, d, e, a.mono m h, b.mono m g⟩
  cut := fun ⟨c, d, e, h, g⟩ hm hw hp => by
    rw [e, mentL_append] at hm
    exact ⟨c, d, e, a.cut h (by omega) hw hp, b.cut g (by omega) hw hp⟩
  frz := fun ⟨c, d, e, h, g⟩ hd h20 hw hp => by
    have hd' := Nat.max_le.1 hd
    obtain ⟨c', h1, h2⟩ := a.frz h hd'.1 h20 hw hp
    obtain ⟨d', g1, g2⟩ := b.frz g hd'.2 h20 hw hp
    exact ⟨c' ++ d', by rw [e, manyO_append h1 g1], c', d', rfl, h2, g2⟩

/-- a structure: its fields, one behind another -/
def T.iso (t : T) (β : Type) (f : β → t.α) (g : t.α → β) (hfg : ∀ y, f (g y) = y) : T where
  α := β
  sz := t.sz
  agg := true
  dep := t.dep
  R := fun P H cs y => t.R P H cs (f y)
  zc := t.zc
  z := g t.z
  hz := fun P H => by rw [hfg]; exact t.hz P H
  one := fun h => by cases h
  len := t.len
  sca := t.sca
  men := t.men
  mono := t.mono
  cut := t.cut
  frz := t.frz

/-! several of one type -/
def AllR (t : T) (P : Nat → Prop) (H : Heap) : List (List AV) → List t.α → Prop
  | [], [] => True
  | c :: r, x :: q => t.R P H c x ∧ AllR t P H r q
  | _, _ => False

section
variable {t : T} {P Q : Nat → Prop} {H G : Heap}
theorem AllR.length : ∀ {l : List (List AV)} {xs : List t.α}, AllR t P H l xs → l.length = xs.length
  | [], [], _ => rfl
  | _ :: _, _ :: _, h => by simp [AllR.length h.2]
theorem AllR.lens : ∀ {l : List (List AV)} {xs : List t.α}, AllR t P H l xs → ∀ e ∈ l, e.length = t.sz
  | [], [], _, e, he => by cases he
  | c :: _, _ :: _, h, e, he => by
    rcases List.mem_cons.1 he with rfl | he
    · exact t.len h.1
    · exact AllR.lens h.2 e he
theorem AllR.sca : ∀ {l : List (List AV)} {xs : List t.α}, AllR t P H l xs → l.flatten.all scal = true
  | [], [], _ => rfl
  | c :: _, _ :: _, h => by rw [List.flatten_cons, List.all_append, t.sca h.1, AllR.sca h.2]; rfl
theorem mentL_flat : ∀ (l : List (List AV)), mentL l.flatten = mentLL l
  | [] => rfl
  | c :: l => by rw [List.flatten_cons, mentL_append, mentL_flat l, mentLL]
theorem AllR.men {m : Nat} (hp : ∀ i, P i → i < m) : ∀ {l : List (List AV)} {xs : List t.α}, AllR t P H l xs → mentLL l ≤ m
  | [], [], _ => by simp [mentLL]
  | c :: _, _ :: _, h => by simp only [mentLL]; have := t.men h.1 hp; have := AllR.men hp h.2; omega
theorem AllR.mono (m : ∀ i, P i → Q i ∧ G[i]? = H[i]?) : ∀ {l : List (List AV)} {xs : List t.α}, AllR t P H l xs → AllR t Q G l xs
  | [], [], _ => trivial
  | _ :: _, _ :: _, h => ⟨t.mono m h.1, AllR.mono m h.2⟩
theorem AllR.cut {n : Nat} (hw : mentH (H.take n) ≤ n) (hp : ∀ i, P i → i < n → Q i) : ∀ {l : List (List AV)} {xs : List t.α}, AllR t P H l xs → mentLL l ≤ n → AllR t Q (H.take n) l xs
  | [], [], _, _ => trivial
  | _ :: _, _ :: _, h, hm => by
    simp only [mentLL] at hm
    exact ⟨t.cut h.1 (by omega) hw hp, AllR.cut hw hp h.2 (by omega)⟩
theorem AllR.frz {n d : Nat} (hd : t.dep ≤ d) (h20 : d ≤ 20) (hw : mentH (H.take n) ≤ n) (hp : ∀ i, P i → i < n → Q i) : ∀ {l : List (List AV)} {xs : List t.α}, AllR t P H l xs → ∃ l', manyO (manyO (Am.frz H n d)) l = some l' ∧ AllR t Q (H.take n) l' xs
  | [], [], _ => ⟨[], rfl, trivial⟩
  | _ :: _, _ :: _, h => by
    obtain ⟨c', e, r⟩ := t.frz h.1 hd h20 hw hp
    obtain ⟨l', e', r'⟩ := AllR.frz hd h20 hw hp h.2
    exact ⟨c' :: l', by simp [manyO, e, e'], r, r'⟩
theorem AllR.get : ∀ {l : List (List AV)} {xs : List t.α} {i : Nat} {x : t.α}, AllR t P H l xs → xs[i]? = some x → ∃ c, l[i]? = some c ∧ t.R P H c x
  | [], [], _, _, _, h => by simp at h
  | c :: _, y :: _, 0, x, h, e => by
    simp only [List.getElem?_cons_zero, Option.some.injEq] at e
    subst e
    exact ⟨c, rfl, h.1⟩
  | c :: _, y :: _, i + 1, x, h, e => by
    simp only [List.getElem?_cons_succ] at e
    obtain ⟨c', e', r⟩ := AllR.get h.2 e
    exact ⟨c', by simpa using e', r⟩
theorem AllR.drop : ∀ {n : Nat} {l : List (List AV)} {xs : List t.α}, AllR t P H l xs → AllR t P H (l.drop n) (xs.drop n)
  | 0, _, _, h => h
  | _ + 1, [], [], _ => trivial
  | n + 1, _ :: _, _ :: _, h => by simpa using AllR.drop (n := n) h.2
theorem AllR.take : ∀ {n : Nat} {l : List (List AV)} {xs : List t.α}, AllR t P H l xs → AllR t P H (l.take n) (xs.take n)
  | 0, _, _, _ => by simp [AllR]
  | _ + 1, [], [], _ => trivial
  | n + 1, _ :: _, _ :: _, h => by simp only [List.take_succ_cons]; exact ⟨h.1, AllR.take (n := n) h.2⟩
theorem AllR.app : ∀ {l m : List (List AV)} {xs ys : List t.α}, AllR t P H l xs → AllR t P H m ys → AllR t P H (l ++ m) (xs ++ ys)
  | [], _, [], _, _, g => g
  | _ :: _, _, _ :: _, _, h, g => ⟨h.1, AllR.app h.2 g⟩
theorem AllR.set {c : List AV} {y : t.α} (hc : t.R P H c y) : ∀ {l : List (List AV)} {xs : List t.α} {i : Nat}, AllR t P H l xs → AllR t P H (l.set i c) (xs.set i y)
  | [], [], _, _ => trivial
  | _ :: _, _ :: _, 0, h => ⟨hc, h.2⟩
  | _ :: _, _ :: _, i + 1, h => ⟨h.1, AllR.set hc (i := i) h.2⟩
theorem AllR.rep {c : List AV} {y : t.α} (hc : t.R P H c y) : ∀ n, AllR t P H (List.replicate n c) (List.replicate n y)
  | 0 => trivial
  | n + 1 => ⟨hc, AllR.rep hc n⟩
end

structure Ar (α : Type) (n : Nat) where
  l : List α
  len : l.length = n

theorem Ar.ext {α : Type} {n : Nat} : ∀ {a b : Ar α n}, a.l = b.l → a = b
  | ⟨_, _⟩, ⟨_, _⟩, rfl => rfl
instance {α : Type} {n : Nat} [DecidableEq α] : DecidableEq (Ar α n) := fun a b => if h : a.l = b.l then isTrue (Ar.ext h) else isFalse fun e => h (by rw [e])

theorem flat_lens {sz : Nat} : ∀ {l : List (List AV)}, (∀ e ∈ l, e.length = sz) → l.flatten.length = l.length * sz
  | [], _ => by simp
  | c :: l, h => by
    rw [List.flatten_cons, List.length_append, h c List.mem_cons_self, flat_lens fun e he => h e (List.mem_cons_of_mem _ he), List.length_cons, Nat.succ_mul]; omega
theorem manyO_flat {α : Type} {F : α → Option α} : ∀ {l l' : List (List α)}, manyO (manyO F) l = some l' → manyO F l.flatten = some l'.flatten
  | [], _, h => by simp only [manyO, Option.some.injEq] at h; subst h; rfl
  | c :: l, _, h => by
    simp only [manyO] at h
    obtain ⟨c', hc, h⟩ := Option.bind_eq_some_iff.1 h
    obtain ⟨l', hl, rfl⟩ := Option.map_eq_some_iff.1 h
    exact manyO_append hc (manyO_flat hl)

def T.arr (n : Nat) (t : T) : T where
  α := Ar t.α n
  sz := n * t.sz
  agg := true
  dep := t.dep
  R := fun P H cs x => ∃ css, cs = css.flatten ∧ AllR t P H css x.l
  zc := (List.replicate n t.zc).flatten
  z := ⟨List.replicate n t.z, by simp⟩
  hz := fun P H => ⟨_, rfl, AllR.rep (t.hz P H) n⟩
  one := fun h => by cases h
  len := fun {_ _ _ x} ⟨css, e, h⟩ => by rw [e, flat_lens h.lens, h.length, x.len]
  sca := fun ⟨css, e, h⟩ => by rw [e]; exact h.sca
  men := fun ⟨css, e, h⟩ hp => by rw [e, mentL_flat]; exact h.men hp
  mono := fun m ⟨css, e, h⟩ => ⟨css, e, h.mono m⟩
  cut := fun ⟨css, e, h⟩ hm hw hp => ⟨css, e, h.cut hw hp (by rwa [e, mentL_flat] at hm)⟩
  frz := fun ⟨css, e, h⟩ hd h20 hw hp => by
    obtain ⟨l', e', r⟩ := h.frz hd h20 hw hp
    exact ⟨l'.flatten, by rw [e]; exact manyO_flat e', l', rfl, r⟩
abbrev Bs (n : Nat) := Ar UInt8 n

/-! slices -/
inductive GS (α : Type) where
  | nil
  | mk (l : List α)
  deriving DecidableEq, Inhabited
def GS.l {α : Type} : GS α → List α
  | .nil => []
  | .mk l => l

def baseP (P : Nat → Prop) : AV → Prop
  | .sl _ _ => True
  | .orow id _ _ _ => P id
  | .ocel _ id _ _ => P id
  | _ => False

def SlV (t : T) (P : Nat → Prop) (H : Heap) (v : AV) : GS t.α → Prop
  | .nil => v = .nils
  | .mk l => baseP P v ∧ ∃ els, els? H t.sz v = some els ∧ AllR t P H els l

theorem rowAt_same {H G : Heap} {id : Nat} (h : G[id]? = H[id]?) : rowAt G id = rowAt H id := by simp only [rowAt, h]
theorem cellsAt_same {H G : Heap} {id : Nat} (h : G[id]? = H[id]?) : cellsAt G id = cellsAt H id := by simp only [cellsAt, h]

section
variable {t : T} {P Q : Nat → Prop} {H G : Heap} {v : AV}
theorem els?_same {sz : Nat} (m : ∀ i, P i → Q i ∧ G[i]? = H[i]?) (h : baseP P v) : els? G sz v = els? H sz v := by
  cases v <;> simp only [baseP] at h <;> simp only [els?]
  · rw [rowAt_same (m _ h).2]
  · rw [cellsAt_same (m _ h).2]
theorem baseP_mono (m : ∀ i, P i → Q i) (h : baseP P v) : baseP Q v := by
  cases v <;> simp only [baseP] at h ⊢
  · exact m _ h
  · exact m _ h
theorem SlV.mono (m : ∀ i, P i → Q i ∧ G[i]? = H[i]?) : ∀ {g : GS t.α}, SlV t P H v g → SlV t Q G v g
  | .nil, h => h
  | .mk _, ⟨b, els, e, h⟩ => ⟨baseP_mono (fun i hi => (m i hi).1) b, els, by rw [els?_same m b]; exact e, h.mono m⟩
theorem SlV.sca : ∀ {g : GS t.α}, SlV t P H v g → scal v = true
  | .nil, h => by rw [show v = _ from h]; rfl
  | .mk _, ⟨b, _, _, _⟩ => by cases v <;> simp only [baseP] at b <;> rfl
theorem SlV.men {m : Nat} (hp : ∀ i, P i → i < m) : ∀ {g : GS t.α}, SlV t P H v g → ment v ≤ m
  | .nil, h => by rw [show v = _ from h]; simp [ment]
  | .mk _, ⟨b, els, e, h⟩ => by
    cases v <;> simp only [baseP] at b
    · simp only [els?] at e
      split at e
      · simp only [Option.some.injEq] at e
        subst e
        simpa [ment] using h.men hp
      · cases e
    · simp only [ment]; exact hp _ b
    · simp only [ment]; exact hp _ b
theorem rowAt_take {n id : Nat} (h : id < n) : rowAt (H.take n) id = rowAt H id := by
  simp only [rowAt]; rw [List.getElem?_take]; simp [h]
theorem cellsAt_take {n id : Nat} (h : id < n) : cellsAt (H.take n) id = cellsAt H id := by
  simp only [cellsAt]; rw [List.getElem?_take]; simp [h]
theorem mentH_mem : ∀ {l : Heap} {o : AObj}, o ∈ l → mentO o ≤ mentH l := by
  intro l
  induction l with
  | nil => intro o h; cases h
  | cons x l ih =>
    intro o h
    simp only [mentH]
    rcases List.mem_cons.1 h with e | h
    · subst e; omega
    · have := ih h; omega
theorem mentLL_drop : ∀ (l : List (List AV)) (i : Nat), mentLL (l.drop i) ≤ mentLL l
  | [], i => by simp
  | x :: l, 0 => by simp
  | x :: l, i + 1 => by simp only [List.drop_succ_cons, mentLL]; have := mentLL_drop l i; omega
theorem mentLL_take : ∀ (l : List (List AV)) (i : Nat), mentLL (l.take i) ≤ mentLL l
  | [], i => by simp
  | x :: l, 0 => by simp [mentLL]
  | x :: l, i + 1 => by simp only [List.take_succ_cons, mentLL]; have := mentLL_take l i; omega
theorem mentL_drop0 : ∀ (l : List AV) (i : Nat), mentL (l.drop i) ≤ mentL l
  | [], i => by simp
  | x :: l, 0 => by simp
  | x :: l, i + 1 => by simp only [List.drop_succ_cons, mentL]; have := mentL_drop0 l i; omega
theorem mentL_take0 : ∀ (l : List AV) (i : Nat), mentL (l.take i) ≤ mentL l
  | [], i => by simp
  | x :: l, 0 => by simp [mentL]
  | x :: l, i + 1 => by simp only [List.take_succ_cons, mentL]; have := mentL_take0 l i; omega
theorem mentLL_chunks0 (sz : Nat) : ∀ (n : Nat) (l : List AV), mentLL (chunks sz n l) ≤ mentL l
  | 0, _ => by simp [chunks, mentLL]
  | n + 1, l => by
    simp only [chunks, mentLL]
    have h1 := mentL_take0 l sz
    have h2 := mentLL_chunks0 sz n (l.drop sz)
    have h3 := mentL_drop0 l sz
    omega
theorem rowAt_ment {n id : Nat} {r : Bool × Nat × List (List AV)} (hw : mentH (H.take n) ≤ n) (h : id < n) (e : rowAt H id = some r) : mentLL r.2.2 ≤ n := by
  rw [← rowAt_take h] at e
  simp only [rowAt] at e
  split at e
  · rename_i fz sz els he
    cases e
    exact Nat.le_trans (mentH_mem (List.mem_of_getElem? he)) hw
  · cases e
theorem cellsAt_ment {n id : Nat} {cs : List AV} (hw : mentH (H.take n) ≤ n) (h : id < n) (e : cellsAt H id = some cs) : mentL cs ≤ n := by
  rw [← cellsAt_take h] at e
  simp only [cellsAt] at e
  split at e
  · rename_i els he
    cases e
    exact Nat.le_trans (mentH_mem (List.mem_of_getElem? he)) hw
  · cases e
theorem SlV.cut {n : Nat} (hw : mentH (H.take n) ≤ n) (hp : ∀ i, P i → i < n → Q i) (hm : ment v ≤ n) : ∀ {g : GS t.α}, SlV t P H v g → SlV t Q (H.take n) v g
  | .nil, h => h
  | .mk _, ⟨b, els, e, h⟩ => by
    cases v <;> simp only [baseP] at b
    · rename_i sz' els'
      refine ⟨trivial, els, e, h.cut hw hp ?_⟩
      simp only [els?] at e
      split at e
      · simp only [Option.some.injEq] at e
        subst e
        simpa [ment] using hm
      · cases e
    · rename_i id k lo len
      simp only [ment] at hm
      refine ⟨hp _ b (by omega), els, ?_, h.cut hw hp ?_⟩
      · simp only [els?] at e ⊢
        rw [rowAt_take (by omega)]; exact e
      · simp only [els?] at e
        obtain ⟨r, hr, e⟩ := Option.bind_eq_some_iff.1 e
        split at e
        · simp only [Option.some.injEq] at e
          subst e
          exact Nat.le_trans (mentLL_take _ _) (Nat.le_trans (mentLL_drop _ _) (rowAt_ment hw (by omega) hr))
        · cases e
    · rename_i sz' id off len
      simp only [ment] at hm
      refine ⟨hp _ b (by omega), els, ?_, h.cut hw hp ?_⟩
      · simp only [els?] at e ⊢
        rw [cellsAt_take (by omega)]; exact e
      · simp only [els?] at e
        obtain ⟨r, hr, e⟩ := Option.bind_eq_some_iff.1 e
        split at e
        · simp only [Option.some.injEq] at e
          subst e
          exact Nat.le_trans (mentLL_chunks0 _ _ _) (Nat.le_trans (mentL_drop0 _ _) (cellsAt_ment hw (by omega) hr))
        · cases e
theorem SlV.frz {n d : Nat} (hd : t.dep ≤ d) (h20 : d ≤ 20) (hw : mentH (H.take n) ≤ n) (hp : ∀ i, P i → i < n → Q i) {g : GS t.α} (h : SlV t P H v g) : ∃ v', Am.frz H n (d + 1) v = some v' ∧ SlV t Q (H.take n) v' g := by
  by_cases hm : ment v ≤ n
  · exact ⟨v, frz_ment hm, h.cut hw hp hm⟩
  · cases g with
    | nil => rw [show v = _ from h] at hm; simp [ment] at hm
    | mk l =>
      obtain ⟨b, els, e, h⟩ := h
      obtain ⟨els', e', r⟩ := h.frz hd h20 hw hp
      refine ⟨.sl t.sz els', ?_, trivial, els', by simp [els?], r⟩
      cases v <;> simp only [baseP] at b
      · rename_i sz' els0
        simp only [els?] at e
        split at e
        · rename_i hsz
          simp only [Option.some.injEq] at e
          subst e
          subst hsz
          simp only [Am.frz, if_neg hm, e', Option.map_some]
        · cases e
      · rename_i id k lo len
        simp only [els?] at e
        obtain ⟨r0, hr, e⟩ := Option.bind_eq_some_iff.1 e
        split at e
        · rename_i hc
          simp only [Option.some.injEq] at e
          subst e
          simp only [Am.frz, if_neg hm, hr, Option.bind_some, if_pos (show k = r0.2.2.length ∧ lo + len ≤ k from ⟨hc.1, hc.2.2⟩), e', Option.map_some, hc.2.1]
        · cases e
      · rename_i sz' id off len
        simp only [els?] at e
        obtain ⟨r0, hr, e⟩ := Option.bind_eq_some_iff.1 e
        split at e
        · rename_i hc
          have he : some (chunks t.sz len (r0.drop off)) = some els := e
          simp only [Option.some.injEq] at he
          subst he
          obtain ⟨rfl, hc⟩ := hc
          simp only [Am.frz, if_neg hm, hr, Option.bind_some, if_pos hc, e', Option.map_some]
        · cases e
end

def T.sl (t : T) : T where
  α := GS t.α
  sz := 1
  agg := false
  dep := t.dep + 1
  R := fun P H cs g => ∃ v, cs = [v] ∧ SlV t P H v g
  zc := [.nils]
  z := .nil
  hz := fun _ _ => ⟨_, rfl, rfl⟩
  one := fun _ => rfl
  len := fun ⟨v, e, _⟩ => by rw [e]; rfl
  sca := fun ⟨v, e, h⟩ => by rw [e]; simp [h.sca]
  men := fun ⟨v, e, h⟩ hp => by rw [e]; simpa [mentL] using h.men hp
  mono := fun m ⟨v, e, h⟩ => ⟨v, e, h.mono m⟩
  cut := fun ⟨v, e, h⟩ hm hw hp => ⟨v, e, h.cut hw hp (by rw [e] at hm; simpa [mentL] using hm)⟩
  frz := fun {_ _ _ _ _ _ d} ⟨v, e, h⟩ hd h20 hw hp => by
    obtain ⟨d, rfl⟩ : ∃ k, d = k + 1 := ⟨d - 1, by omega⟩
    obtain ⟨v', e', r⟩ := h.frz (d := d) (by omega) (by omega) hw hp
    exact ⟨[v'], by rw [e]; simp [manyO, e'], v', rfl, r⟩
theorem T.sl_V {t : T} {P : Nat → Prop} {H : Heap} {v : AV} {g : GS t.α} : (T.sl t).V P H v g ↔ SlV t P H v g := by
  constructor
  · rintro (⟨a, _⟩ | ⟨_, w, h, r⟩)
    · cases a
    · cases h; exact r
  · intro h
    exact .inr ⟨rfl, v, rfl, h⟩

end Go.Proofs.YtobejhpigbllpaaGreatDoor.Am
