/-
  The machine's values and memory as those of the model: what an abstract value says of a value in a world; that it goes on saying it.
-/
import Derived.Test.YtobejhpigbllpaaGreatDoorAmB
import Derived.Calls
import Derived.Still
namespace Go.Proofs.YtobejhpigbllpaaGreatDoor.Am

structure Place where
  blk : Nat
  base : Nat
  size : Nat

structure Ctx where
  φ : Nat → Place
  H : Heap
  w : World

def Ctx.own (C : Ctx) (b : Nat) : Prop := ∃ id, id < C.H.length ∧ (C.φ id).blk = b

def Holds (w : World) (b base : Nat) (vs : List Value) : Prop := ∀ (j : Nat) (v : Value), vs[j]? = some v → w.cell? ⟨b, base + j, none⟩ = some v

/-- one cell's -/
def scal : AV → Bool
  | .agg _ => false
  | .tup _ => false
  | .junk => false
  | _ => true

def fixedO : AObj → Bool
  | .row _ _ _ _ => false
  | _ => true

mutual
def Rep (C : Ctx) : AV → Value → Prop
  | .b x, v => v = .bool x
  | .i k n, v => v = .int k n
  | .s l, v => v = .string ⟨l.toArray⟩
  | .agg cs, v => ∃ vs : List Value, v = .agg vs.toArray ∧ cs.all scal = true ∧ RepL C cs vs
  | .tup cs, v => ∃ vs : List Value, v = .tuple vs.toArray ∧ RepL C cs vs
  | .nilp, v => v = .pointer none
  | .ptr id off, v => (∃ o, C.H[id]? = some o ∧ fixedO o = true) ∧ v = .pointer (some ⟨(C.φ id).blk, off, none⟩)
  | .pe id n i off, v => (∃ p, v = .pointer (some p)) ∧ ∃ fz sz els, rowAt C.H id = some (fz, sz, els) ∧ n ≤ els.length ∧
      (n = els.length → v = .pointer (some ⟨(C.φ id).blk, (C.φ id).base + i * sz + off, none⟩))
  | .ip cs off, v => ∃ b base vs, v = .pointer (some ⟨b, base + off, none⟩) ∧ b < C.w.heap.size ∧ ¬ C.own b ∧ Holds C.w b base vs ∧ cs.all scal = true ∧ RepL C cs vs
  | .nils, v => v = .slice none 0 0
  | .sl sz els, v => (∃ b base cap vss, v = .slice (some ⟨b, base, none⟩) els.length cap ∧ els.length ≤ cap ∧ b < C.w.heap.size ∧ ¬ C.own b ∧
      Holds C.w b base vss.flatten ∧ (∀ e ∈ els, e.length = sz ∧ e.all scal = true) ∧ RepLL C els vss) ∨ (els = [] ∧ ∃ p cap, v = .slice (some p) 0 cap)
  | .orow id n lo len, v => (∃ p c, v = .slice (some p) len c) ∧ ∃ fz sz els, rowAt C.H id = some (fz, sz, els) ∧ n ≤ els.length ∧
      (n = els.length → lo + len ≤ n ∧ ∃ off cap, v = .slice (some ⟨(C.φ id).blk, off, none⟩) len cap ∧ len ≤ cap ∧ (0 < len → off = (C.φ id).base + lo * sz) ∧ off + cap * sz ≤ (C.φ id).size ∧ (C.φ id).base ≤ off)
  | .ocel sz id off len, v => (∃ o, C.H[id]? = some o ∧ fixedO o = true) ∧ ∃ o cap, v = .slice (some ⟨(C.φ id).blk, o, none⟩) len cap ∧ len ≤ cap ∧ (0 < len → o = off) ∧ 0 < sz
  | .nilm, v => v = .map none
  | .mp id, v => (∃ o, C.H[id]? = some o ∧ fixedO o = true) ∧ v = .map (some (C.φ id).blk)
  | .nilf, v => v = .nilFunc
  | .fn f a b, v => ∃ x y : List Value, v = .func f x.toArray y.toArray ∧ RepL C a x ∧ RepL C b y
  | .nili, v => v = .nilIface
  | .ifc _ a, v => ∃ u x, v = .iface u x ∧ Rep C a x
  | .junk, _ => True
def RepL (C : Ctx) : List AV → List Value → Prop
  | [], vs => vs = []
  | a :: r, vs => ∃ v q, vs = v :: q ∧ Rep C a v ∧ RepL C r q
def RepLL (C : Ctx) : List (List AV) → List (List Value) → Prop
  | [], vss => vss = []
  | a :: r, vss => ∃ v q, vss = v :: q ∧ RepL C a v ∧ RepLL C r q
end

/-- what stands in a number of the machine's memory -/
def Obj (C : Ctx) (p : Place) : AObj → Prop
  | .cells l cs => ∃ (vs : List Value) (arr : Array Value) (e : TypeId) (fr : Nat × Nat), (C.w.heap[p.blk]? = some (.cells arr e fr) ∧ ∀ k, l = some k → e = k) ∧ arr.size = cs.length ∧ cs.all scal = true ∧ RepL C cs vs ∧
      Holds C.w p.blk 0 vs ∧ (∀ o, o < cs.length → C.w.frozen? ⟨p.blk, o, none⟩ = false)
  | .row l fz sz els => ∃ (vss : List (List Value)) (arr : Array Value) (e : TypeId) (fr : Nat × Nat), (C.w.heap[p.blk]? = some (.cells arr e fr) ∧ fr.1 ≤ fr.2 ∧ ∀ k, l = some k → e = k) ∧ arr.size = p.size ∧ 0 < sz ∧
      (∀ x ∈ els, x.length = sz ∧ x.all scal = true) ∧ RepLL C els vss ∧ p.base + els.length * sz ≤ p.size ∧ Holds C.w p.blk p.base vss.flatten ∧
      (fz = false → ∀ o, o < p.size → C.w.frozen? ⟨p.blk, o, none⟩ = false) ∧ (fz = false → ∀ o, p.base + els.length * sz ≤ o → o < p.size → C.w.frozen? ⟨p.blk, o, none⟩ = false)
  | .map es => ∃ (ms : List MapEntry) (clock : Nat), C.w.heap[p.blk]? = some (.map ms.toArray clock) ∧ RepL C (es.map (·.1)) (ms.map (·.key)) ∧ RepL C (es.map (·.2)) (ms.map (·.val))
  | .iter l pos => C.w.heap[p.blk]? = some (.stringIter ⟨l.toArray⟩ pos)

structure Inv (tb : Tab) (C : Ctx) : Prop where
  obj : ∀ id o, C.H[id]? = some o → Obj C (C.φ id) o
  inj : ∀ i j, i < C.H.length → j < C.H.length → (C.φ i).blk = (C.φ j).blk → i = j
  lt : ∀ i, i < C.H.length → (C.φ i).blk < C.w.heap.size
  gl : ∀ g cs, tb.gl g = some cs → g < C.w.heap.size ∧ ¬ C.own g ∧ cs.all scal = true ∧ ∃ vs, Holds C.w g 0 vs ∧ RepL C cs vs

/-- what no operation of the machine's touches -/
def Rest (w w' : World) : Prop := w'.os = w.os ∧ w'.tape = w.tape ∧ w'.output = w.output

structure Ext (C D : Ctx) : Prop where
  rest : Rest C.w D.w
  size : C.w.heap.size ≤ D.w.heap.size
  len : C.H.length ≤ D.H.length
  same : ∀ b, b < C.w.heap.size → ¬ C.own b → D.w.heap[b]? = C.w.heap[b]? ∧ ¬ D.own b
  fixed : ∀ id o, C.H[id]? = some o → fixedO o = true → (∃ o', D.H[id]? = some o' ∧ fixedO o' = true) ∧ D.φ id = C.φ id
  row : ∀ id fz sz els, rowAt C.H id = some (fz, sz, els) → ∃ fz' els', rowAt D.H id = some (fz', sz, els') ∧ els.length ≤ els'.length ∧ (els.length = els'.length → D.φ id = C.φ id)

theorem Ext.refl (C : Ctx) : Ext C C :=
  ⟨⟨rfl, rfl, rfl⟩, Nat.le_refl _, Nat.le_refl _, fun _ _ h => ⟨rfl, h⟩, fun _ o h f => ⟨⟨o, h, f⟩, rfl⟩, fun _ fz _ els h => ⟨fz, els, h, Nat.le_refl _, fun _ => rfl⟩⟩

theorem Ext.trans {C D E : Ctx} (a : Ext C D) (b : Ext D E) : Ext C E := by
  refine ⟨⟨b.rest.1.trans a.rest.1, b.rest.2.1.trans a.rest.2.1, b.rest.2.2.trans a.rest.2.2⟩, Nat.le_trans a.size b.size, Nat.le_trans a.len b.len, ?_, ?_, ?_⟩
  · intro x hx ho
    obtain ⟨h1, h2⟩ := a.same x hx ho
    obtain ⟨h3, h4⟩ := b.same x (Nat.lt_of_lt_of_le hx a.size) h2
    exact ⟨h3.trans h1, h4⟩
  · intro id o h f
    obtain ⟨⟨o', h', f'⟩, e⟩ := a.fixed id o h f
    obtain ⟨h2, e'⟩ := b.fixed id o' h' f'
    exact ⟨h2, e'.trans e⟩
  · intro id fz sz els h
    obtain ⟨fz', els', h', l, e⟩ := a.row id fz sz els h
    obtain ⟨fz'', els'', h'', l', e'⟩ := b.row id fz' sz els' h'
    exact ⟨fz'', els'', h'', Nat.le_trans l l', fun q => (e' (by omega)).trans (e (by omega))⟩

theorem cell?_same {w w' : World} {b o : Nat} (h : w'.heap[b]? = w.heap[b]?) : w'.cell? ⟨b, o, none⟩ = w.cell? ⟨b, o, none⟩ := by
  simp only [World.cell?, h]
theorem Holds.same {w w' : World} {b base : Nat} {vs : List Value} (h : w'.heap[b]? = w.heap[b]?) (x : Holds w b base vs) : Holds w' b base vs :=
  fun j v e => by rw [cell?_same h]; exact x j v e

mutual
theorem Rep.ext {C D : Ctx} (X : Ext C D) : ∀ {a : AV} {v : Value}, Rep C a v → Rep D a v
  | .b _, _, h => h
  | .i _ _, _, h => h
  | .s _, _, h => h
  | .agg _, _, ⟨vs, e, s, h⟩ => ⟨vs, e, s, RepL.ext X h⟩
  | .tup _, _, ⟨vs, e, h⟩ => ⟨vs, e, RepL.ext X h⟩
  | .nilp, _, h => h
  | .ptr _ _, _, ⟨⟨o, h, f⟩, e⟩ => by
    obtain ⟨h', e'⟩ := X.fixed _ o h f
    exact ⟨h', by rw [e']; exact e⟩
  | .pe _ _ _ _, _, ⟨q0, fz, sz, els, h, l, e⟩ => by
    obtain ⟨fz', els', h', l', e'⟩ := X.row _ fz sz els h
    exact ⟨q0, fz', sz, els', h', by omega, fun q => by rw [e' (by omega)]; exact e (by omega)⟩
  | .ip _ _, _, ⟨b, base, vs, e, lt, ho, hh, s, r⟩ => by
    obtain ⟨h1, h2⟩ := X.same b lt ho
    exact ⟨b, base, vs, e, Nat.lt_of_lt_of_le lt X.size, h2, hh.same h1, s, RepL.ext X r⟩
  | .nils, _, h => h
  | .sl _ _, _, .inr h => .inr h
  | .sl _ _, _, .inl ⟨b, base, cap, vss, e, l, lt, ho, hh, s, r⟩ => by
    obtain ⟨h1, h2⟩ := X.same b lt ho
    exact .inl ⟨b, base, cap, vss, e, l, Nat.lt_of_lt_of_le lt X.size, h2, hh.same h1, s, RepLL.ext X r⟩
  | .orow _ _ _ _, _, ⟨q0, fz, sz, els, h, l, e⟩ => by
    obtain ⟨fz', els', h', l', e'⟩ := X.row _ fz sz els h
    exact ⟨q0, fz', sz, els', h', by omega, fun q => by rw [e' (by omega)]; exact e (by omega)⟩
  | .ocel _ _ _ _, _, ⟨⟨o, h, f⟩, e⟩ => by
    obtain ⟨h', e'⟩ := X.fixed _ o h f
    exact ⟨h', by rw [e']; exact e⟩
  | .nilm, _, h => h
  | .mp _, _, ⟨⟨o, h, f⟩, e⟩ => by
    obtain ⟨h', e'⟩ := X.fixed _ o h f
    exact ⟨h', by rw [e']; exact e⟩
  | .nilf, _, h => h
  | .fn _ _ _, _, ⟨x, y, e, h1, h2⟩ => ⟨x, y, e, RepL.ext X h1, RepL.ext X h2⟩
  | .nili, _, h => h
  | .ifc _ _, _, ⟨u, x, e, h⟩ => ⟨u, x, e, Rep.ext X h⟩
  | .junk, _, _ => trivial
theorem RepL.ext {C D : Ctx} (X : Ext C D) : ∀ {l : List AV} {vs : List Value}, RepL C l vs → RepL D l vs
  | [], _, h => h
  | _ :: _, _, ⟨v, q, e, h, r⟩ => ⟨v, q, e, Rep.ext X h, RepL.ext X r⟩
theorem RepLL.ext {C D : Ctx} (X : Ext C D) : ∀ {l : List (List AV)} {vs : List (List Value)}, RepLL C l vs → RepLL D l vs
  | [], _, h => h
  | _ :: _, _, ⟨v, q, e, h, r⟩ => ⟨v, q, e, RepL.ext X h, RepLL.ext X r⟩
end

/-- the memory cut off at n -/
def Ctx.cut (C : Ctx) (n : Nat) : Ctx := ⟨C.φ, C.H.take n, C.w⟩

theorem cut_get {C : Ctx} {n id : Nat} (h : id < n) : (C.cut n).H[id]? = C.H[id]? := by
  simp only [Ctx.cut]; rw [List.getElem?_take]; simp [h]
theorem cut_row {C : Ctx} {n id : Nat} (h : id < n) : rowAt (C.cut n).H id = rowAt C.H id := by
  simp only [rowAt, cut_get h]
theorem row_get {H : Heap} {id : Nat} {fz : Bool} {sz : Nat} {els : List (List AV)} (h : rowAt H id = some (fz, sz, els)) : ∃ t, H[id]? = some (.row t fz sz els) ∧ labAt H id = t := by
  simp only [rowAt] at h
  split at h
  · rename_i t fz' sz' els' e
    cases h
    exact ⟨t, e, by simp only [labAt, e]⟩
  · cases h
theorem cells_get {H : Heap} {id : Nat} {cs : List AV} (h : cellsAt H id = some cs) : ∃ t, H[id]? = some (.cells t cs) ∧ labAt H id = t := by
  simp only [cellsAt] at h
  split at h
  · rename_i t cs' e
    cases h
    exact ⟨t, e, by simp only [labAt, e]⟩
  · cases h
theorem row_eq {H G : Heap} {id : Nat} (h : G[id]? = H[id]?) : rowAt G id = rowAt H id := by simp only [rowAt, h]
theorem row_at {H : Heap} {id : Nat} {t : Option Nat} {fz : Bool} {sz : Nat} {els : List (List AV)} (h : H[id]? = some (.row t fz sz els)) : rowAt H id = some (fz, sz, els) := by
  simp only [rowAt, h]
theorem cut_own {C : Ctx} {n b : Nat} (h : ¬ C.own b) : ¬ (C.cut n).own b := by
  rintro ⟨id, hl, e⟩
  exact h ⟨id, by simp only [Ctx.cut, List.length_take] at hl; omega, e⟩

mutual
theorem Rep.cut {C : Ctx} {n : Nat} : ∀ {a : AV} {v : Value}, ment a ≤ n → Rep C a v → Rep (C.cut n) a v
  | .b _, _, _, h => h
  | .i _ _, _, _, h => h
  | .s _, _, _, h => h
  | .agg _, _, m, ⟨vs, e, s, h⟩ => ⟨vs, e, s, RepL.cut (by simpa [ment] using m) h⟩
  | .tup _, _, m, ⟨vs, e, h⟩ => ⟨vs, e, RepL.cut (by simpa [ment] using m) h⟩
  | .nilp, _, _, h => h
  | .ptr _ _, _, m, ⟨⟨o, h, f⟩, e⟩ => ⟨⟨o, by rw [cut_get (by simp only [ment] at m; omega)]; exact h, f⟩, e⟩
  | .pe _ _ _ _, _, m, ⟨q0, fz, sz, els, h, l, e⟩ => ⟨q0, fz, sz, els, by rw [cut_row (by simp only [ment] at m; omega)]; exact h, l, e⟩
  | .ip _ _, _, m, ⟨b, base, vs, e, lt, ho, hh, s, r⟩ => ⟨b, base, vs, e, lt, cut_own ho, hh, s, RepL.cut (by simpa [ment] using m) r⟩
  | .nils, _, _, h => h
  | .sl _ _, _, _, .inr h => .inr h
  | .sl _ _, _, m, .inl ⟨b, base, cap, vss, e, l, lt, ho, hh, s, r⟩ => .inl ⟨b, base, cap, vss, e, l, lt, cut_own ho, hh, s, RepLL.cut (by simpa [ment] using m) r⟩
  | .orow _ _ _ _, _, m, ⟨q0, fz, sz, els, h, l, e⟩ => ⟨q0, fz, sz, els, by rw [cut_row (by simp only [ment] at m; omega)]; exact h, l, e⟩
  | .ocel _ _ _ _, _, m, ⟨⟨o, h, f⟩, e⟩ => ⟨⟨o, by rw [cut_get (by simp only [ment] at m; omega)]; exact h, f⟩, e⟩
  | .nilm, _, _, h => h
  | .mp _, _, m, ⟨⟨o, h, f⟩, e⟩ => ⟨⟨o, by rw [cut_get (by simp only [ment] at m; omega)]; exact h, f⟩, e⟩
  | .nilf, _, _, h => h
  | .fn _ _ _, _, m, ⟨x, y, e, h1, h2⟩ => ⟨x, y, e, RepL.cut (by simp only [ment] at m; omega) h1, RepL.cut (by simp only [ment] at m; omega) h2⟩
  | .nili, _, _, h => h
  | .ifc _ _, _, m, ⟨u, x, e, h⟩ => ⟨u, x, e, Rep.cut (by simpa [ment] using m) h⟩
  | .junk, _, _, _ => trivial
theorem RepL.cut {C : Ctx} {n : Nat} : ∀ {l : List AV} {vs : List Value}, mentL l ≤ n → RepL C l vs → RepL (C.cut n) l vs
  | [], _, _, h => h
  | _ :: _, _, m, ⟨v, q, e, h, r⟩ => ⟨v, q, e, Rep.cut (by simp only [mentL] at m; omega) h, RepL.cut (by simp only [mentL] at m; omega) r⟩
theorem RepLL.cut {C : Ctx} {n : Nat} : ∀ {l : List (List AV)} {vs : List (List Value)}, mentLL l ≤ n → RepLL C l vs → RepLL (C.cut n) l vs
  | [], _, _, h => h
  | _ :: _, _, m, ⟨v, q, e, h, r⟩ => ⟨v, q, e, RepL.cut (by simp only [mentLL] at m; omega) h, RepLL.cut (by simp only [mentLL] at m; omega) r⟩
end

theorem RepL.length {C : Ctx} : ∀ {l : List AV} {vs : List Value}, RepL C l vs → vs.length = l.length
  | [], _, h => by rw [show _ = [] from h]; rfl
  | _ :: _, _, ⟨v, q, e, _, r⟩ => by rw [e]; simp [RepL.length r]
theorem RepLL.length {C : Ctx} : ∀ {l : List (List AV)} {vs : List (List Value)}, RepLL C l vs → vs.length = l.length
  | [], _, h => by rw [show _ = [] from h]; rfl
  | _ :: _, _, ⟨v, q, e, _, r⟩ => by rw [e]; simp [RepLL.length r]
theorem RepL.get {C : Ctx} : ∀ {l : List AV} {vs : List Value} {i : Nat} {a : AV}, RepL C l vs → l[i]? = some a → ∃ v, vs[i]? = some v ∧ Rep C a v
  | [], _, _, _, _, h => by simp at h
  | x :: l, _, 0, a, ⟨v, q, e, h, r⟩, g => by
    simp at g; subst g; exact ⟨v, by rw [e]; rfl, h⟩
  | x :: l, _, i + 1, a, ⟨v, q, e, h, r⟩, g => by
    obtain ⟨u, h1, h2⟩ := RepL.get r (i := i) (a := a) (by simpa using g)
    exact ⟨u, by rw [e]; simpa using h1, h2⟩
theorem RepLL.get {C : Ctx} : ∀ {l : List (List AV)} {vs : List (List Value)} {i : Nat} {a : List AV}, RepLL C l vs → l[i]? = some a → ∃ v, vs[i]? = some v ∧ RepL C a v
  | [], _, _, _, _, h => by simp at h
  | x :: l, _, 0, a, ⟨v, q, e, h, r⟩, g => by
    simp at g; subst g; exact ⟨v, by rw [e]; rfl, h⟩
  | x :: l, _, i + 1, a, ⟨v, q, e, h, r⟩, g => by
    obtain ⟨u, h1, h2⟩ := RepLL.get r (i := i) (a := a) (by simpa using g)
    exact ⟨u, by rw [e]; simpa using h1, h2⟩
theorem RepL.app {C : Ctx} : ∀ {l m : List AV} {vs us : List Value}, RepL C l vs → RepL C m us → RepL C (l ++ m) (vs ++ us)
  | [], _, _, _, h, g => by rw [show _ = [] from h]; exact g
  | _ :: _, _, _, _, ⟨v, q, e, h, r⟩, g => ⟨v, q ++ _, by rw [e]; rfl, h, RepL.app r g⟩
theorem RepLL.app {C : Ctx} : ∀ {l m : List (List AV)} {vs us : List (List Value)}, RepLL C l vs → RepLL C m us → RepLL C (l ++ m) (vs ++ us)
  | [], _, _, _, h, g => by rw [show _ = [] from h]; exact g
  | _ :: _, _, _, _, ⟨v, q, e, h, r⟩, g => ⟨v, q ++ _, by rw [e]; rfl, h, RepLL.app r g⟩
theorem RepL.drop {C : Ctx} : ∀ {n : Nat} {l : List AV} {vs : List Value}, RepL C l vs → RepL C (l.drop n) (vs.drop n)
  | 0, _, _, h => h
  | n + 1, [], _, h => by rw [show _ = [] from h]; simp [RepL]
  | n + 1, _ :: _, _, ⟨v, q, e, h, r⟩ => by rw [e]; simpa using RepL.drop (n := n) r
theorem RepL.take {C : Ctx} : ∀ {n : Nat} {l : List AV} {vs : List Value}, RepL C l vs → RepL C (l.take n) (vs.take n)
  | 0, _, _, _ => by simp [RepL]
  | n + 1, [], _, h => by rw [show _ = [] from h]; simp [RepL]
  | n + 1, _ :: _, _, ⟨v, q, e, h, r⟩ => by rw [e]; exact ⟨v, q.take n, rfl, h, RepL.take r⟩
theorem RepLL.drop {C : Ctx} : ∀ {n : Nat} {l : List (List AV)} {vs : List (List Value)}, RepLL C l vs → RepLL C (l.drop n) (vs.drop n)
  | 0, _, _, h => h
  | n + 1, [], _, h => by rw [show _ = [] from h]; simp [RepLL]
  | n + 1, _ :: _, _, ⟨v, q, e, h, r⟩ => by rw [e]; simpa using RepLL.drop (n := n) r
theorem RepLL.take {C : Ctx} : ∀ {n : Nat} {l : List (List AV)} {vs : List (List Value)}, RepLL C l vs → RepLL C (l.take n) (vs.take n)
  | 0, _, _, _ => by simp [RepLL]
  | n + 1, [], _, h => by rw [show _ = [] from h]; simp [RepLL]
  | n + 1, _ :: _, _, ⟨v, q, e, h, r⟩ => by rw [e]; exact ⟨v, q.take n, rfl, h, RepLL.take r⟩
theorem RepLL.flat {C : Ctx} : ∀ {l : List (List AV)} {vs : List (List Value)}, RepLL C l vs → RepL C l.flatten vs.flatten
  | [], _, h => by rw [show _ = [] from h]; simp [RepL]
  | _ :: _, _, ⟨v, q, e, h, r⟩ => by rw [e]; exact RepL.app h (RepLL.flat r)
theorem RepLL.set {C : Ctx} {a : List AV} {v : List Value} (ha : RepL C a v) : ∀ {l : List (List AV)} {vs : List (List Value)} {i : Nat}, RepLL C l vs → RepLL C (l.set i a) (vs.set i v)
  | [], _, _, h => by rw [show _ = [] from h]; simp [RepLL]
  | _ :: _, _, 0, ⟨_, q, e, _, r⟩ => by rw [e]; exact ⟨v, q, rfl, ha, r⟩
  | _ :: _, _, i + 1, ⟨u, q, e, h, r⟩ => by rw [e]; exact ⟨u, q.set i v, rfl, h, RepLL.set ha r⟩
theorem RepL.set {C : Ctx} {a : AV} {v : Value} (ha : Rep C a v) : ∀ {l : List AV} {vs : List Value} {i : Nat}, RepL C l vs → RepL C (l.set i a) (vs.set i v)
  | [], _, _, h => by rw [show _ = [] from h]; simp [RepL]
  | _ :: _, _, 0, ⟨_, q, e, _, r⟩ => by rw [e]; exact ⟨v, q, rfl, ha, r⟩
  | _ :: _, _, i + 1, ⟨u, q, e, h, r⟩ => by rw [e]; exact ⟨u, q.set i v, rfl, h, RepL.set ha r⟩
theorem RepLL.lens {C : Ctx} {sz : Nat} : ∀ {l : List (List AV)} {vs : List (List Value)}, (∀ x ∈ l, x.length = sz) → RepLL C l vs → ∀ v ∈ vs, v.length = sz
  | [], _, _, h, v, hv => by rw [show _ = [] from h] at hv; cases hv
  | x :: _, _, g, ⟨u, q, e, h, r⟩, v, hv => by
    rw [e] at hv
    rcases List.mem_cons.1 hv with e' | hv
    · rw [e', h.length]; exact g x List.mem_cons_self
    · exact RepLL.lens (fun y hy => g y (List.mem_cons_of_mem _ hy)) r v hv

theorem Inv.cut {tb : Tab} {C : Ctx} {n : Nat} (I : Inv tb C) (m : mentH (C.H.take n) ≤ n) (hg : ∀ g cs, tb.gl g = some cs → mentL cs = 0) : Inv tb (C.cut n) := by
  have memH : ∀ (l : Heap) (o : AObj), o ∈ l → mentO o ≤ mentH l := by
    intro l
    induction l with
    | nil => intro o h; cases h
    | cons x l ih =>
      intro o h
      simp only [mentH]
      rcases List.mem_cons.1 h with e | h
      · subst e; omega
      · have := ih o h; omega
  have hl : ∀ i, i < (C.cut n).H.length → i < C.H.length := fun i h => by simp only [Ctx.cut, List.length_take] at h; omega
  refine ⟨?_, fun i j hi hj e => I.inj i j (hl i hi) (hl j hj) e, fun i hi => I.lt i (hl i hi), ?_⟩
  · intro id o h
    have hm : mentO o ≤ n := Nat.le_trans (memH _ o (List.mem_of_getElem? h)) m
    have hid : id < n := by
      rcases Nat.lt_or_ge id n with h' | h'
      · exact h'
      · simp only [Ctx.cut] at h; rw [List.getElem?_take] at h; simp [Nat.not_lt.2 h'] at h
    rw [cut_get hid] at h
    have x := I.obj id o h
    cases o with
    | cells t cs =>
      obtain ⟨vs, arr, e, fr, h1, h2, h3, h4, h5⟩ := x
      exact ⟨vs, arr, e, fr, h1, h2, h3, RepL.cut hm h4, h5⟩
    | row t fz sz els =>
      obtain ⟨vss, arr, e, fr, h1, h2, h3, h4, h5, h6⟩ := x
      exact ⟨vss, arr, e, fr, h1, h2, h3, h4, RepLL.cut hm h5, h6⟩
    | map es =>
      obtain ⟨ms, c, h1, h2, h3⟩ := x
      simp only [mentO] at hm
      exact ⟨ms, c, h1, RepL.cut (by omega) h2, RepL.cut (by omega) h3⟩
    | iter l pos => exact x
  · intro g cs h
    obtain ⟨h1, h2, h3, vs, h4, h5⟩ := I.gl g cs h
    exact ⟨h1, cut_own h2, h3, vs, h4, RepL.cut (by rw [hg g cs h]; omega) h5⟩

theorem Ext.cut {C D : Ctx} {n : Nat} (X : Ext C D) (h : C.H.length ≤ n) : Ext C (D.cut n) := by
  have lt : ∀ {id : Nat} {o : AObj}, C.H[id]? = some o → id < n := fun {id o} e => by
    have := (List.getElem?_eq_some_iff.1 e).1; omega
  refine ⟨X.rest, X.size, by simp only [Ctx.cut, List.length_take]; have := X.len; omega, fun b hb ho => ⟨(X.same b hb ho).1, cut_own (X.same b hb ho).2⟩, ?_, ?_⟩
  · intro id o e f
    obtain ⟨⟨o', h', f'⟩, e'⟩ := X.fixed id o e f
    exact ⟨⟨o', by rw [cut_get (lt e)]; exact h', f'⟩, e'⟩
  · intro id fz sz els e
    obtain ⟨fz', els', h', r⟩ := X.row id fz sz els e
    obtain ⟨t, e', _⟩ := row_get e
    exact ⟨fz', els', by rw [cut_row (lt e')]; exact h', r⟩

/-! What becomes of the memory. -/
theorem frozen?_same {w w' : World} {b o : Nat} (h : w'.heap[b]? = w.heap[b]?) : w'.frozen? ⟨b, o, none⟩ = w.frozen? ⟨b, o, none⟩ := by
  simp only [World.frozen?, h]

theorem Obj.ext {C D : Ctx} (X : Ext C D) {p : Place} {o : AObj} (h : D.w.heap[p.blk]? = C.w.heap[p.blk]?) (x : Obj C p o) : Obj D p o := by
  cases o with
  | cells t cs =>
    obtain ⟨vs, arr, e, fr, h1, h2, h3, h4, h5, h6⟩ := x
    exact ⟨vs, arr, e, fr, ⟨h.trans h1.1, h1.2⟩, h2, h3, RepL.ext X h4, h5.same h, fun o ho => by rw [frozen?_same h]; exact h6 o ho⟩
  | row t fz sz els =>
    obtain ⟨vss, arr, e, fr, h1, h2, h3, h4, h5, h6, h7, h8, h9⟩ := x
    exact ⟨vss, arr, e, fr, ⟨h.trans h1.1, h1.2⟩, h2, h3, h4, RepLL.ext X h5, h6, h7.same h, fun f o ho => by rw [frozen?_same h]; exact h8 f o ho, fun f o ho hs => by rw [frozen?_same h]; exact h9 f o ho hs⟩
  | map es =>
    obtain ⟨ms, c, h1, h2, h3⟩ := x
    exact ⟨ms, c, h.trans h1, RepL.ext X h2, RepL.ext X h3⟩
  | iter l pos => exact h.trans x

theorem lt_of_get {α : Type} {l : List α} {i : Nat} {x : α} (h : l[i]? = some x) : i < l.length := (List.getElem?_eq_some_iff.1 h).1

/-- one number's memory has changed -/
theorem upd {tb : Tab} {C D : Ctx} (I : Inv tb C) (hrest : Rest C.w D.w) {id : Nat} {o o' : AObj} (ho : C.H[id]? = some o) (hH : D.H = C.H.set id o') (hφ : ∀ j, j ≠ id → D.φ j = C.φ j)
    (hs : C.w.heap.size ≤ D.w.heap.size) (hw : ∀ b, b < C.w.heap.size → b ≠ (C.φ id).blk → D.w.heap[b]? = C.w.heap[b]?)
    (hb : (D.φ id).blk = (C.φ id).blk ∨ (C.w.heap.size ≤ (D.φ id).blk ∧ (D.φ id).blk < D.w.heap.size))
    (hf : fixedO o = true → fixedO o' = true ∧ D.φ id = C.φ id)
    (hr : ∀ t fz sz els, o = .row t fz sz els → ∃ t' fz' els', o' = .row t' fz' sz els' ∧ els.length ≤ els'.length ∧ (els.length = els'.length → D.φ id = C.φ id)) :
    Ext C D ∧ (Obj D (D.φ id) o' → Inv tb D) := by
  have hid := lt_of_get ho
  have hlen : D.H.length = C.H.length := by rw [hH]; simp
  have get : ∀ j, j ≠ id → D.H[j]? = C.H[j]? := fun j hj => by rw [hH, List.getElem?_set_ne (Ne.symm hj)]
  have geti : D.H[id]? = some o' := by rw [hH, List.getElem?_set_self hid]
  have hown : ∀ b, b < C.w.heap.size → ¬ C.own b → ¬ D.own b := by
    rintro b hlt hn ⟨j, hj, e⟩
    by_cases hji : j = id
    · subst hji
      rcases hb with h | h
      · exact hn ⟨j, hid, by rw [← h]; exact e⟩
      · omega
    · exact hn ⟨j, by omega, by rw [← hφ j hji]; exact e⟩
  have X : Ext C D := by
    refine ⟨hrest, hs, by omega, fun b hlt hn => ⟨hw b hlt fun e => hn ⟨id, hid, e.symm⟩, hown b hlt hn⟩, ?_, ?_⟩
    · intro j x hj hx
      by_cases hji : j = id
      · subst hji
        rw [ho] at hj
        obtain rfl := Option.some.inj hj
        exact ⟨⟨o', geti, (hf hx).1⟩, (hf hx).2⟩
      · exact ⟨⟨x, by rw [get j hji]; exact hj, hx⟩, hφ j hji⟩
    · intro j fz sz els hj
      by_cases hji : j = id
      · subst hji
        obtain ⟨t, hj, _⟩ := row_get hj
        rw [ho] at hj
        obtain ⟨t', fz', els', h1, h2, h3⟩ := hr t fz sz els (Option.some.inj hj)
        exact ⟨fz', els', row_at (t := t') (by rw [geti, h1]), h2, h3⟩
      · exact ⟨fz, els, by rw [row_eq (get j hji)]; exact hj, Nat.le_refl _, fun _ => hφ j hji⟩
  refine ⟨X, fun ob => ⟨?_, ?_, ?_, ?_⟩⟩
  · intro j x hj
    by_cases hji : j = id
    · subst hji
      rw [geti] at hj
      obtain rfl := Option.some.inj hj
      exact ob
    · rw [get j hji] at hj
      rw [hφ j hji]
      have hjl := lt_of_get hj
      exact Obj.ext X (hw _ (I.lt j hjl) fun e => hji (I.inj j id hjl hid e)) (I.obj j x hj)
  · intro i j hi hj e
    rw [hlen] at hi hj
    by_cases hii : i = id <;> by_cases hji : j = id
    · rw [hii, hji]
    · subst hii
      rw [hφ j hji] at e
      rcases hb with h | h
      · exact I.inj i j hi hj (h.symm.trans e)
      · have := I.lt j hj; omega
    · subst hji
      rw [hφ i hii] at e
      rcases hb with h | h
      · exact I.inj i j hi hj (e.trans h)
      · have := I.lt i hi; omega
    · rw [hφ i hii, hφ j hji] at e
      exact I.inj i j hi hj e
  · intro i hi
    rw [hlen] at hi
    by_cases hii : i = id
    · subst hii
      rcases hb with h | h
      · rw [h]; exact Nat.lt_of_lt_of_le (I.lt i hi) hs
      · exact h.2
    · rw [hφ i hii]; exact Nat.lt_of_lt_of_le (I.lt i hi) hs
  · intro g cs hg
    obtain ⟨h1, h2, h3, vs, h4, h5⟩ := I.gl g cs hg
    obtain ⟨h6, h7⟩ := X.same g h1 h2
    exact ⟨Nat.lt_of_lt_of_le h1 hs, h7, h3, vs, h4.same h6, RepL.ext X h5⟩

/-- one number more -/
def Ctx.more (C : Ctx) (p : Place) (o : AObj) (w : World) : Ctx := ⟨fun j => if j = C.H.length then p else C.φ j, C.H ++ [o], w⟩

theorem more {tb : Tab} {C : Ctx} (I : Inv tb C) {p : Place} {o : AObj} {w : World} (hrest : Rest C.w w) (hs : C.w.heap.size < w.heap.size) (hp : p.blk = C.w.heap.size)
    (hw : ∀ b, b < C.w.heap.size → w.heap[b]? = C.w.heap[b]?) : Ext C (C.more p o w) ∧ (Obj (C.more p o w) p o → Inv tb (C.more p o w)) ∧ (C.more p o w).φ C.H.length = p := by
  have hφ : ∀ j, j < C.H.length → (C.more p o w).φ j = C.φ j := fun j hj => if_neg (by omega)
  have hφn : (C.more p o w).φ C.H.length = p := if_pos rfl
  have hlen : (C.more p o w).H.length = C.H.length + 1 := by simp [Ctx.more]
  have get : ∀ j, j < C.H.length → (C.more p o w).H[j]? = C.H[j]? := fun j hj => List.getElem?_append_left hj
  have getn : (C.more p o w).H[C.H.length]? = some o := by simp [Ctx.more]
  have X : Ext C (C.more p o w) := by
    refine ⟨hrest, Nat.le_of_lt hs, by omega, fun b hlt hn => ⟨hw b hlt, ?_⟩, ?_, ?_⟩
    · rintro ⟨j, hj, e⟩
      rw [hlen] at hj
      by_cases hji : j = C.H.length
      · subst hji; rw [hφn, hp] at e; omega
      · rw [hφ j (by omega)] at e; exact hn ⟨j, by omega, e⟩
    · intro j x hj hx
      have := lt_of_get hj
      exact ⟨⟨x, by rw [get j this]; exact hj, hx⟩, hφ j this⟩
    · intro j fz sz els hj
      obtain ⟨t, hj', _⟩ := row_get hj
      have := lt_of_get hj'
      exact ⟨fz, els, by rw [row_eq (get j this)]; exact hj, Nat.le_refl _, fun _ => hφ j this⟩
  refine ⟨X, fun ob => ⟨?_, ?_, ?_, ?_⟩, hφn⟩
  · intro j x hj
    have := lt_of_get hj
    rw [hlen] at this
    by_cases hji : j = C.H.length
    · subst hji
      rw [getn] at hj
      obtain rfl := Option.some.inj hj
      rw [hφn]
      exact ob
    · have hl : j < C.H.length := by omega
      rw [get j hl] at hj
      rw [hφ j hl]
      exact Obj.ext X (hw _ (I.lt j hl)) (I.obj j x hj)
  · intro i j hi hj e
    rw [hlen] at hi hj
    by_cases hii : i = C.H.length <;> by_cases hji : j = C.H.length
    · rw [hii, hji]
    · subst hii
      have hl : j < C.H.length := by omega
      rw [hφ j hl, hφn, hp] at e
      have := I.lt j hl; omega
    · subst hji
      have hl : i < C.H.length := by omega
      rw [hφ i hl, hφn, hp] at e
      have := I.lt i hl; omega
    · rw [hφ i (by omega), hφ j (by omega)] at e
      exact I.inj i j (by omega) (by omega) e
  · intro i hi
    rw [hlen] at hi
    by_cases hii : i = C.H.length
    · subst hii; rw [hφn, hp]; exact hs
    · rw [hφ i (by omega)]; exact Nat.lt_trans (I.lt i (by omega)) hs
  · intro g cs hg
    obtain ⟨h1, h2, h3, vs, h4, h5⟩ := I.gl g cs hg
    obtain ⟨h6, h7⟩ := X.same g h1 h2
    exact ⟨Nat.lt_trans h1 hs, h7, h3, vs, h4.same h6, RepL.ext X h5⟩

/-- the same memory, another count of draws -/
theorem drawn {tb : Tab} {C : Ctx} (I : Inv tb C) {w : World} (hrest : Rest C.w w) (hw : w.heap = C.w.heap) : Ext C ⟨C.φ, C.H, w⟩ ∧ Inv tb ⟨C.φ, C.H, w⟩ := by
  have X : Ext C ⟨C.φ, C.H, w⟩ := ⟨hrest, by simp only [hw]; omega, Nat.le_refl _, fun b _ hn => ⟨by simp only [hw], hn⟩, fun _ o h f => ⟨⟨o, h, f⟩, rfl⟩, fun _ fz _ els h => ⟨fz, els, h, Nat.le_refl _, fun _ => rfl⟩⟩
  refine ⟨X, fun j x hj => Obj.ext X (by simp only [hw]) (I.obj j x hj), I.inj, fun i hi => by simp only [hw]; exact I.lt i hi, ?_⟩
  intro g cs hg
  obtain ⟨h1, h2, h3, vs, h4, h5⟩ := I.gl g cs hg
  exact ⟨by simp only [hw]; exact h1, h2, h3, vs, h4.same (by simp only [hw]), RepL.ext X h5⟩

/-- the same memory, a world that has grown -/
theorem grown {tb : Tab} {C : Ctx} (I : Inv tb C) {w : World} (hrest : Rest C.w w) (hs : C.w.heap.size ≤ w.heap.size) (hw : ∀ b, b < C.w.heap.size → w.heap[b]? = C.w.heap[b]?) : Ext C ⟨C.φ, C.H, w⟩ ∧ Inv tb ⟨C.φ, C.H, w⟩ := by
  have X : Ext C ⟨C.φ, C.H, w⟩ := ⟨hrest, hs, Nat.le_refl _, fun b hb hn => ⟨hw b hb, hn⟩, fun _ o h f => ⟨⟨o, h, f⟩, rfl⟩, fun _ fz _ els h => ⟨fz, els, h, Nat.le_refl _, fun _ => rfl⟩⟩
  refine ⟨X, fun j x hj => Obj.ext X (hw _ (I.lt j (lt_of_get hj))) (I.obj j x hj), I.inj, fun i hi => Nat.lt_of_lt_of_le (I.lt i hi) hs, ?_⟩
  intro g cs hg
  obtain ⟨h1, h2, h3, vs, h4, h5⟩ := I.gl g cs hg
  exact ⟨Nat.lt_of_lt_of_le h1 hs, h2, h3, vs, h4.same (hw _ h1), RepL.ext X h5⟩

end Go.Proofs.YtobejhpigbllpaaGreatDoor.Am
