/-
  What a law is given, as the machine's values: a reading is a value of the type, all of it memory that nobody writes.
-/
import Derived.Test.YtobejhpigbllpaaGreatDoorAmM
import Derived.ProofKit
import Derived.Deep.Slices
import Derived.DataReads
namespace Go.Proofs.YtobejhpigbllpaaGreatDoor.Am

/-- fields that stand one behind the other -/
def contig (P : Program) : Nat → List Field → Option Nat
  | pos, [] => some pos
  | pos, f :: fs => if Nat.beq f.offset pos then contig P (pos + P.cellsOf f.type) fs else none

/-- types of plain data: of bools, integers, strings, arrays, structs, slices, pointers -/
def plainT (P : Program) : Nat → TypeId → Bool
  | 0, _ => false
  | n + 1, t =>
    match P.underlying t with
    | some .bool => Nat.beq (P.cellsOf t) 1
    | some (.int _) => Nat.beq (P.cellsOf t) 1
    | some .string => Nat.beq (P.cellsOf t) 1
    | some (.pointer e) => Nat.beq (P.cellsOf t) 1 && Nat.blt 0 (P.cellsOf e) && plainT P n e
    | some (.slice e) => Nat.beq (P.cellsOf t) 1 && Nat.blt 0 (P.cellsOf e) && plainT P n e
    | some (.struct fs) => decide (contig P 0 fs.toList = some (P.cellsOf t)) && fs.toList.all fun f => plainT P n f.type
    | some (.array m e) => Nat.beq (P.cellsOf t) (m * P.cellsOf e) && plainT P n e
    | _ => false

def TypedF (T : TypeId → List AV → Prop) : List Field → List AV → Prop
  | [], cs => cs = []
  | f :: fs, cs => ∃ a b, cs = a ++ b ∧ T f.type a ∧ TypedF T fs b

/-- a type's cells -/
def Typed (P : Program) : Nat → TypeId → List AV → Prop
  | 0, _, _ => False
  | n + 1, t, cs =>
    match P.underlying t with
    | some .bool => ∃ b, cs = [.b b]
    | some (.int k) => ∃ x, cs = [.i k x] ∧ k.has x
    | some .string => ∃ l, cs = [.s l]
    | some (.pointer e) => cs = [.nilp] ∨ ∃ ds, cs = [.ip ds 0] ∧ Typed P n e ds
    | some (.slice e) => cs = [.nils] ∨ ∃ els : List (List AV), cs = [.sl (P.cellsOf e) els] ∧ ∀ x ∈ els, Typed P n e x
    | some (.struct fs) => TypedF (Typed P n) fs.toList cs
    | some (.array m e) => ∃ els : List (List AV), els.length = m ∧ cs = els.flatten ∧ ∀ x ∈ els, Typed P n e x
    | _ => False

section
variable {P : Program} {H : Type} {enc : TypeId × Value → H} {w : World} {spare : Nat → Bool} {held : Bool}

theorem cells?_spec {base : Nat} {a : Addr} {n : Nat} {cs : List Value} (h : w.cells? base a n = some cs) : cs.length = n ∧ ∀ (j : Nat) (v : Value), cs[j]? = some v → w.cell? (a.add j) = some v := by
  unfold World.cells? at h
  split at h
  · refine ⟨by rw [mapM_some_length h]; simp, fun j v hj => ?_⟩
    have hl : j < n := by have := lt_of_get hj; rw [mapM_some_length h] at this; simpa using this
    have := mapM_some_get h j j (by simp [hl])
    rw [this, hj]
  · cases h

theorem cell?_lt {a : Addr} {v : Value} (h : w.cell? a = some v) : a.spot = none ∧ a.block < w.heap.size := by
  unfold World.cell? at h
  split at h
  · rename_i c e fr hb
    refine ⟨?_, (Array.getElem?_eq_some_iff.1 hb).1⟩
    split at h
    · cases h
    · rename_i hs; simpa using hs
  · cases h

/-- cells that are read: where -/
theorem cells?_holds {base : Nat} {a : Addr} {n : Nat} {cs : List Value} (h : w.cells? base a n = some cs) (hn : 0 < n) : ∃ b off, a = ⟨b, off, none⟩ ∧ b < w.heap.size ∧ Holds w b off cs ∧ cs.length = n := by
  obtain ⟨h1, h2⟩ := cells?_spec h
  obtain ⟨b, off, sp⟩ := a
  have h0 := h2 0 cs[0] (by simp)
  have := cell?_lt h0
  simp only [Addr.add, if_true] at this
  obtain ⟨rfl, hlt⟩ := this
  exact ⟨b, off, rfl, hlt, fun j v hj => by have := h2 j v hj; rwa [add_none] at this, h1⟩

theorem build2 {p : Nat → List AV → List Value → Prop} : ∀ (len : Nat), (∀ i, i < len → ∃ x y, p i x y) → ∃ (xs : List (List AV)) (ys : List (List Value)), xs.length = len ∧ ys.length = len ∧ ∀ (i : Nat) x y, xs[i]? = some x → ys[i]? = some y → p i x y
  | 0, _ => ⟨[], [], rfl, rfl, fun i x y h => by simp at h⟩
  | n + 1, h => by
    obtain ⟨xs, ys, h1, h2, h3⟩ := build2 n fun i hi => h i (by omega)
    obtain ⟨x, y, hp⟩ := h n (by omega)
    refine ⟨xs ++ [x], ys ++ [y], by simp [h1], by simp [h2], fun i u v hu hv => ?_⟩
    by_cases hi : i < n
    · rw [List.getElem?_append_left (by omega)] at hu hv
      exact h3 i u v hu hv
    · have hlt := lt_of_get hu
      simp only [List.length_append, List.length_cons, List.length_nil] at hlt
      obtain rfl : i = n := by omega
      rw [List.getElem?_append_right (by omega), h1] at hu
      rw [List.getElem?_append_right (by omega), h2] at hv
      simp only [Nat.sub_self, List.getElem?_cons_zero, Option.some.injEq] at hu hv
      subst hu; subst hv
      exact hp

theorem repLL_of {C : Ctx} : ∀ {xs : List (List AV)} {ys : List (List Value)}, xs.length = ys.length → (∀ (i : Nat) x y, xs[i]? = some x → ys[i]? = some y → RepL C x y) → RepLL C xs ys
  | [], [], _, _ => rfl
  | [], _ :: _, h, _ => by simp at h
  | _ :: _, [], h, _ => by simp at h
  | x :: xs, y :: ys, h, k => ⟨y, ys, rfl, k 0 x y rfl rfl, repLL_of (by simpa using h) fun i u v hu hv => k (i + 1) u v (by simpa using hu) (by simpa using hv)⟩

theorem flat_index {sz : Nat} : ∀ (l : List (List Value)), (∀ y ∈ l, y.length = sz) → ∀ (j : Nat) (v : Value), l.flatten[j]? = some v → ∃ (i r : Nat) (y : List Value), j = i * sz + r ∧ l[i]? = some y ∧ y[r]? = some v
  | [], _, j, v, h => by simp at h
  | y :: l, hy, j, v, h => by
    rw [List.flatten_cons] at h
    have hyl := hy y List.mem_cons_self
    rcases Nat.lt_or_ge j y.length with hlt | hge
    · rw [List.getElem?_append_left hlt] at h
      exact ⟨0, j, y, by simp, rfl, h⟩
    · rw [List.getElem?_append_right hge] at h
      obtain ⟨i, r, u, h1, h2, h3⟩ := flat_index l (fun z hz => hy z (List.mem_cons_of_mem _ hz)) _ _ h
      exact ⟨i + 1, r, u, by rw [Nat.succ_mul]; omega, by simpa using h2, h3⟩

theorem noOwn (φ : Nat → Place) (w : World) (b : Nat) : ¬ (⟨φ, [], w⟩ : Ctx).own b := by
  rintro ⟨id, h, _⟩
  exact absurd h (Nat.not_lt_zero _)

/-- a reading: a type's cells, as the machine's -/
def Reads (P : Program) (φ : Nat → Place) (w : World) (n : Nat) (t : TypeId) (cs : List Value) : Prop :=
  ∃ as : List AV, Typed P n t as ∧ RepL ⟨φ, [], w⟩ as cs ∧ as.all scal = true ∧ cs.length = P.cellsOf t

theorem reads_fields (φ : Nat → Place) (n : Nat) (T : ∀ f : Field, plainT P n f.type = true → ∀ cs : List Value, (∃ fuel x, DataW.trod enc P w 0 spare held fuel f.type cs = some x) → Reads P φ w n f.type cs) :
    ∀ (fs : List Field) (pos tot : Nat) (cs : List Value), fs.all (fun f => plainT P n f.type) = true → contig P pos fs = some tot → cs.length = tot →
      (∀ f ∈ fs, ∃ fuel x, DataW.trod enc P w 0 spare held fuel f.type ((cs.drop f.offset).take (P.cellsOf f.type)) = some x) →
      ∃ as : List AV, TypedF (Typed P n) fs as ∧ RepL ⟨φ, [], w⟩ as (cs.drop pos) ∧ as.all scal = true
  | [], pos, tot, cs, _, hc, hl, _ => by
    simp only [contig, Option.some.injEq] at hc
    subst hc
    exact ⟨[], rfl, by rw [List.drop_of_length_le (by omega)]; rfl, rfl⟩
  | f :: fs, pos, tot, cs, hp, hc, hl, hr => by
    simp only [List.all_cons, Bool.and_eq_true] at hp
    simp only [contig] at hc
    split at hc
    · rename_i ho
      rw [Nat.beq_eq] at ho
      obtain ⟨as, t1, r1, s1, l1⟩ := T f hp.1 _ (hr f List.mem_cons_self)
      obtain ⟨bs, t2, r2, s2⟩ := reads_fields φ n T fs _ tot cs hp.2 hc hl fun g hg => hr g (List.mem_cons_of_mem _ hg)
      refine ⟨as ++ bs, ⟨as, bs, rfl, t1, t2⟩, ?_, by simp only [List.all_append, s1, s2, Bool.and_self]⟩
      rw [ho] at r1 l1
      have hsplit : cs.drop pos = (cs.drop pos).take (P.cellsOf f.type) ++ cs.drop (pos + P.cellsOf f.type) := by
        rw [← List.drop_drop, List.take_append_drop]
      rw [hsplit]
      exact RepL.app r1 r2
    · cases hc

theorem trod_rep (φ : Nat → Place) : ∀ (n : Nat) (t : TypeId), plainT P n t = true → ∀ (fuel : Nat) (cs : List Value) (x : DataW H × List MemPlace), DataW.trod enc P w 0 spare held fuel t cs = some x → Reads P φ w n t cs
  | 0, _, h => by simp [plainT] at h
  | n + 1, t, h => by
    intro fuel cs x hx
    simp only [plainT] at h
    cases hu : P.underlying t with
    | none => rw [hu] at h; simp at h
    | some d =>
      rw [hu] at h
      cases fuel with
      | zero => simp [DataW.trod] at hx
      | succ fuel =>
        cases d <;> simp only [Bool.false_eq_true] at h
        case bool =>
          rw [Nat.beq_eq] at h
          rcases cs with _ | ⟨v, _ | ⟨u, r⟩⟩
          · simp [DataW.trod, hu] at hx
          · cases v <;> simp [DataW.trod, hu] at hx
            rename_i b
            exact ⟨[.b b], by simp only [Typed, hu]; exact ⟨b, rfl⟩, ⟨_, _, rfl, rfl, rfl⟩, rfl, h.symm⟩
          · cases v <;> simp [DataW.trod, hu] at hx
        case int k =>
          rw [Nat.beq_eq] at h
          rcases cs with _ | ⟨v, _ | ⟨u, r⟩⟩
          · simp [DataW.trod, hu] at hx
          · cases v <;> simp [DataW.trod, hu] at hx
            rename_i k' z
            obtain ⟨⟨rfl, hwf⟩, _⟩ := hx
            refine ⟨[.i k' z], ?_, ⟨_, _, rfl, rfl, rfl⟩, rfl, h.symm⟩
            simp only [Typed, hu]
            simp only [Lit.wf, Bool.and_eq_true, decide_eq_true_eq] at hwf
            exact ⟨z, rfl, hwf⟩
          · cases v <;> simp [DataW.trod, hu] at hx
        case string =>
          rw [Nat.beq_eq] at h
          rcases cs with _ | ⟨v, _ | ⟨u, r⟩⟩
          · simp [DataW.trod, hu] at hx
          · cases v <;> simp [DataW.trod, hu] at hx
            rename_i b
            exact ⟨[.s b.data.toList], by simp only [Typed, hu]; exact ⟨_, rfl⟩, ⟨_, _, rfl, by simp [Rep], rfl⟩, rfl, h.symm⟩
          · cases v <;> simp [DataW.trod, hu] at hx
        case pointer e =>
          simp only [Bool.and_eq_true, Nat.beq_eq, Nat.blt_eq] at h
          obtain ⟨⟨h1, h2⟩, h3⟩ := h
          rcases cs with _ | ⟨v, _ | ⟨u, r⟩⟩
          · simp [DataW.trod, hu] at hx
          · cases v <;> try (simp [DataW.trod, hu] at hx; done)
            rename_i p
            cases p with
            | none => exact ⟨[.nilp], by simp only [Typed, hu]; left; trivial, ⟨_, _, rfl, rfl, rfl⟩, rfl, h1.symm⟩
            | some p =>
              simp only [DataW.trod, hu] at hx
              obtain ⟨y, hy, _⟩ := Option.map_eq_some_iff.1 hx
              obtain ⟨cs', hc, ht⟩ := Option.bind_eq_some_iff.1 hy
              obtain ⟨b, off, rfl, hlt, hh, hl⟩ := cells?_holds hc h2
              obtain ⟨as, t1, r1, s1, l1⟩ := trod_rep φ n e h3 fuel cs' y ht
              refine ⟨[.ip as 0], by simp only [Typed, hu]; exact .inr ⟨as, rfl, t1⟩, ⟨_, _, rfl, ⟨b, off, cs', rfl, hlt, noOwn φ w b, hh, s1, r1⟩, rfl⟩, rfl, h1.symm⟩
          · cases v <;> simp [DataW.trod, hu] at hx
        case slice e =>
          simp only [Bool.and_eq_true, Nat.beq_eq, Nat.blt_eq] at h
          obtain ⟨⟨h1, h2⟩, h3⟩ := h
          rcases Go.Deep.open_slice hu hx with ⟨rfl, _⟩ | ⟨a, len, cap, m, n', D, Pl, rfl, hb, hl, hm, hmm, rfl, hel⟩
          · exact ⟨[.nils], by simp only [Typed, hu]; left; trivial, ⟨_, _, rfl, rfl, rfl⟩, rfl, h1.symm⟩
          · have hlm : len ≤ m := by rw [hmm]; split <;> omega
            obtain ⟨xs, ys, x1, y1, hp⟩ := build2 (p := fun i x y => Typed P n e x ∧ RepL ⟨φ, [], w⟩ x y ∧ x.all scal = true ∧ y.length = P.cellsOf e ∧ w.cells? 0 (a.add (i * P.cellsOf e)) (P.cellsOf e) = some y) len fun i hi => by
              obtain ⟨cs', c1, c2⟩ := hel i (by omega)
              obtain ⟨as, t1, r1, s1, l1⟩ := trod_rep φ n e h3 n' cs' _ c2
              exact ⟨as, cs', t1, r1, s1, l1, c1⟩
            have getx : ∀ x ∈ xs, ∃ (i : Nat) (y : List Value), xs[i]? = some x ∧ ys[i]? = some y := by
              intro x hx
              obtain ⟨i, hi⟩ := List.mem_iff_getElem?.1 hx
              have := lt_of_get hi
              exact ⟨i, ys[i]'(by omega), hi, List.getElem?_eq_getElem (by omega)⟩
            have gety : ∀ y ∈ ys, y.length = P.cellsOf e := by
              intro y hy
              obtain ⟨i, hi⟩ := List.mem_iff_getElem?.1 hy
              have := lt_of_get hi
              exact (hp i (xs[i]'(by omega)) y (List.getElem?_eq_getElem (by omega)) hi).2.2.2.1
            refine ⟨[.sl (P.cellsOf e) xs], ?_, ⟨_, _, rfl, ?_, rfl⟩, rfl, h1.symm⟩
            · simp only [Typed, hu]
              refine .inr ⟨xs, rfl, fun x hx => ?_⟩
              obtain ⟨i, y, hi, hy⟩ := getx x hx
              exact (hp i x y hi hy).1
            · by_cases h0 : len = 0
              · subst h0
                exact .inr ⟨List.eq_nil_of_length_eq_zero x1, a, cap, rfl⟩
              · have hpos : 0 < len := by omega
                obtain ⟨y0, hy0⟩ : ∃ y, ys[0]? = some y := ⟨_, List.getElem?_eq_getElem (by omega)⟩
                obtain ⟨x0, hx0⟩ : ∃ y, xs[0]? = some y := ⟨_, List.getElem?_eq_getElem (by omega)⟩
                have hc0 := (hp 0 x0 y0 hx0 hy0).2.2.2.2
                simp only [Nat.zero_mul, Addr.add, if_true] at hc0
                obtain ⟨b, off, rfl, hlt, _, _⟩ := cells?_holds hc0 h2
                refine .inl ⟨b, off, cap, ys, by rw [x1], by rw [x1]; exact hl, hlt, noOwn φ w b, ?_, fun x hx => ?_, repLL_of (by rw [x1, y1]) fun i x y hi hy => (hp i x y hi hy).2.1⟩
                · intro j v hj
                  obtain ⟨i, r, y, rfl, hy, hr⟩ := flat_index ys gety j v hj
                  have hi := lt_of_get hy
                  have hc := (hp i (xs[i]'(by omega)) y (List.getElem?_eq_getElem (by omega)) hy).2.2.2.2
                  have := (cells?_spec hc).2 r v hr
                  rwa [add_none, add_none, Nat.add_assoc] at this
                · obtain ⟨i, y, hi, hy⟩ := getx x hx
                  have := hp i x y hi hy
                  exact ⟨by rw [← this.2.1.length]; exact this.2.2.2.1, this.2.2.1⟩
        case struct fs =>
          simp only [Bool.and_eq_true, decide_eq_true_eq] at h
          obtain ⟨h1, h2⟩ := h
          simp only [DataW.trod, hu] at hx
          split at hx
          · rename_i hl
            obtain ⟨xs, hxs, _⟩ := Option.map_eq_some_iff.1 hx
            obtain ⟨as, t1, r1, s1⟩ := reads_fields (enc := enc) (spare := spare) (held := held) φ n (fun f hf cs hh => by obtain ⟨fl, x, hh⟩ := hh; exact trod_rep φ n f.type hf fl cs x hh) fs.toList 0 _ cs h2 h1 hl fun f hf => by
              obtain ⟨i, hi⟩ := List.mem_iff_getElem?.1 hf
              have := mapM_some_get hxs i f hi
              have hlen := mapM_some_length hxs
              have hi' := lt_of_get hi
              rw [List.getElem?_eq_getElem (by omega)] at this
              exact ⟨fuel, _, this⟩
            exact ⟨as, by simp only [Typed, hu]; exact t1, by simpa using r1, s1, hl⟩
          · cases hx
        case array m e =>
          simp only [Bool.and_eq_true, Nat.beq_eq] at h
          obtain ⟨h1, h2⟩ := h
          simp only [DataW.trod, hu] at hx
          split at hx
          · rename_i hl
            obtain ⟨xs, hxs, _⟩ := Option.map_eq_some_iff.1 hx
            have hxl := mapM_some_length hxs
            simp only [List.length_range] at hxl
            obtain ⟨els, ys, x1, y1, hp⟩ := build2 (p := fun i x y => Typed P n e x ∧ RepL ⟨φ, [], w⟩ x y ∧ x.all scal = true ∧ y = (cs.drop (i * P.cellsOf e)).take (P.cellsOf e) ∧ y.length = P.cellsOf e) m fun i hi => by
              have := mapM_some_get hxs i i (by simp [hi])
              rw [List.getElem?_eq_getElem (by omega)] at this
              obtain ⟨as, t1, r1, s1, l1⟩ := trod_rep φ n e h2 fuel _ _ this
              exact ⟨as, _, t1, r1, s1, rfl, l1⟩
            have hys : ∀ k, k ≤ m → (ys.take k).flatten = cs.take (k * P.cellsOf e) := by
              intro k
              induction k with
              | zero => intro _; simp
              | succ k ih =>
                intro hk
                obtain ⟨y, hy⟩ : ∃ y, ys[k]? = some y := ⟨_, List.getElem?_eq_getElem (by omega)⟩
                have := hp k (els[k]'(by omega)) y (List.getElem?_eq_getElem (by omega)) hy
                rw [List.take_add_one, hy, List.flatten_append, ih (by omega)]
                simp only [Option.toList_some, List.flatten_cons, List.flatten_nil, List.append_nil]
                rw [this.2.2.2.1, Nat.succ_mul, List.take_add]
            have hfl : ys.flatten = cs := by
              have := hys m (Nat.le_refl _)
              rwa [List.take_of_length_le (by omega), List.take_of_length_le (by omega)] at this
            refine ⟨els.flatten, ?_, ?_, ?_, hl⟩
            · simp only [Typed, hu]
              refine ⟨els, x1, rfl, fun x hx => ?_⟩
              obtain ⟨i, hi⟩ := List.mem_iff_getElem?.1 hx
              have := lt_of_get hi
              exact (hp i x (ys[i]'(by omega)) hi (List.getElem?_eq_getElem (by omega))).1
            · have := RepLL.flat (repLL_of (C := ⟨φ, [], w⟩) (by rw [x1, y1]) fun i x y hi hy => (hp i x y hi hy).2.1)
              rwa [hfl] at this
            · refine flat_scal fun x hx => ?_
              obtain ⟨i, hi⟩ := List.mem_iff_getElem?.1 hx
              have := lt_of_get hi
              exact (hp i x (ys[i]'(by omega)) hi (List.getElem?_eq_getElem (by omega))).2.2.1
          · cases hx

end
end Go.Proofs.YtobejhpigbllpaaGreatDoor.Am
