/-
  What operations come to, on typed values: fields, slices, memory, calls.
-/
import Derived.Test.YtobejhpigbllpaaGreatDoorSmF
namespace Go.Proofs.YtobejhpigbllpaaGreatDoor.Am

/-! parts of structures -/
structure Fld (t u : T) (off : Nat) where
  get : t.α → u.α
  put : t.α → u.α → t.α
  le : off + u.sz ≤ t.sz
  getR : ∀ {P : Nat → Prop} {H : Heap} {cs : List AV} {x : t.α}, t.R P H cs x → u.R P H (sub cs off u.sz) (get x)
  putR : ∀ {P : Nat → Prop} {H : Heap} {cs : List AV} {x : t.α} {c : List AV} {y : u.α}, t.R P H cs x → u.R P H c y → t.R P H (splice cs off c) (put x y)

def Fld.id (t : T) : Fld t t 0 where
  get := fun x => x
  put := fun _ y => y
  le := by omega
  getR := fun {P H cs x} h => by
    have := t.len h
    rw [show sub cs 0 t.sz = cs by simp only [sub, List.drop_zero]; exact List.take_of_length_le (by omega)]; exact h
  putR := fun {P H cs x c y} h g => by
    have h1 := t.len h
    have h2 := t.len g
    rw [show splice cs 0 c = c by simp [splice, List.drop_eq_nil_of_le (show cs.length ≤ c.length by omega)]]; exact g
def Fld.left {a b u : T} {off : Nat} (F : Fld a u off) : Fld (T.prod a b) u off where
  get := fun x => F.get x.1
  put := fun x y => (F.put x.1 y, x.2)
  le := Nat.le_trans F.le (Nat.le_add_right _ _)
  getR := fun {P H cs x} ⟨c, d, e, h, g⟩ => by
    have h1 := a.len h
    have h2 := F.le
    have := F.getR h
    rw [show sub cs off u.sz = sub c off u.sz by
      subst e
      simp only [sub]
      rw [List.drop_append_of_le_length (by omega), List.take_append_of_le_length (by simp; omega)]]
    exact this
  putR := fun {P H cs x c' y} ⟨c, d, e, h, g⟩ k => by
    have h1 := a.len h
    have h2 := F.le
    have h3 := u.len k
    refine ⟨splice c off c', d, ?_, F.putR h k, g⟩
    subst e
    simp only [splice]
    rw [List.take_append_of_le_length (by omega), List.drop_append_of_le_length (by omega)]
    simp
def Fld.right {a b u : T} {off : Nat} (F : Fld b u off) : Fld (T.prod a b) u (a.sz + off) where
  get := fun x => F.get x.2
  put := fun x y => (x.1, F.put x.2 y)
  le := by have := F.le; show a.sz + off + u.sz ≤ a.sz + b.sz; omega
  getR := fun {P H cs x} ⟨c, d, e, h, g⟩ => by
    have h1 := a.len h
    have := F.getR g
    rw [show sub cs (a.sz + off) u.sz = sub d off u.sz by
      subst e
      simp only [sub]
      rw [← List.drop_drop, List.drop_left' h1]]
    exact this
  putR := fun {P H cs x c' y} ⟨c, d, e, h, g⟩ k => by
    have h1 := a.len h
    refine ⟨c, splice d off c', ?_, h, F.putR g k⟩
    subst e
    simp only [splice]
    rw [List.take_append, List.take_of_length_le (by omega), show a.sz + off - c.length = off by omega]
    rw [show a.sz + off + c'.length = c.length + (off + c'.length) by omega, ← List.drop_drop, List.drop_left' rfl]
    simp
def Fld.iso {t u : T} {off : Nat} {β : Type} {f : β → t.α} {g : t.α → β} {hfg : ∀ y, f (g y) = y} (F : Fld t u off) : Fld (T.iso t β f g hfg) u off where
  get := fun x => F.get (f x)
  put := fun x y => g (F.put (f x) y)
  le := F.le
  getR := fun h => F.getR h
  putR := fun {P H cs x c y} h k => by
    show t.R P H _ (f (g _))
    rw [hfg]
    exact F.putR h k
def Fld.cast {t u : T} {off off' : Nat} (F : Fld t u off) (h : off = off') : Fld t u off' := h ▸ F

def Ar.set {α : Type} {n : Nat} (a : Ar α n) (i : Nat) (x : α) : Ar α n := ⟨a.l.set i x, by rw [List.length_set]; exact a.len⟩

section
variable {tb : Tab} {Γ : Cx} {a b : AO}

theorem SlV.len {t : T} {P : Nat → Prop} {H : Heap} {v : AV} : ∀ {g : GS t.α}, SlV t P H v g → len? v = some g.l.length
  | .nil, h => by rw [show v = _ from h]; rfl
  | .mk l, ⟨bp, els, e, h⟩ => by
    have hl := h.length
    cases v <;> simp only [baseP] at bp <;> simp only [els?] at e <;> simp only [len?, GS.l, Option.some.injEq]
    · split at e
      · cases e; exact hl
      · cases e
    · obtain ⟨r, hr, e⟩ := Option.bind_eq_some_iff.1 e
      split at e
      · rename_i hc
        cases e
        rw [List.length_take, List.length_drop] at hl
        omega
      · cases e
    · obtain ⟨r, hr, e⟩ := Option.bind_eq_some_iff.1 e
      split at e
      · cases e
        rename_i hc
        rw [← hl]
        have : ∀ (n : Nat) (l : List AV) (sz : Nat), (chunks sz n l).length = n := by
          intro n
          induction n with
          | zero => intro l sz; rfl
          | succ n ih => intro l sz; simp [chunks, ih]
        exact (this _ _ _).symm
      · cases e
theorem SlV.els {t : T} {P : Nat → Prop} {H : Heap} {v : AV} : ∀ {g : GS t.α}, SlV t P H v g → ∃ els, els? H t.sz v = some els ∧ AllR t P H els g.l
  | .nil, h => by rw [show v = _ from h]; exact ⟨[], rfl, trivial⟩
  | .mk l, ⟨_, els, e, h⟩ => ⟨els, e, h⟩
theorem h_len {t : T} {g : GS t.α} (ha : OpF tb Γ a (.val (T.sl t) g)) : OpH tb Γ (.len a) (some (g.l.length : Int)) fun z => .val (T.int .i64) z := by
  rintro E rv fp f H R z ⟨⟩
  exact ⟨_, none, by simp only [aop, (T.sl_V.1 (ha E rv fp f H R)).len, Option.map_some], rfl, T.int_V.2 rfl⟩
theorem h_isnil {t : T} {g : GS t.α} {neg : Bool} (ha : OpF tb Γ a (.val (T.sl t) g)) : OpH tb Γ (.eq neg .sl a (.k .nils)) (some (match g with | .nil => !neg | .mk _ => neg)) fun z => .val T.b z := by
  rintro E rv fp f H R z ⟨⟩
  have hv := T.sl_V.1 (ha E rv fp f H R)
  refine ⟨_, none, ?_, rfl, T.b_V.2 rfl⟩
  cases g with
  | nil =>
    have hv' : eval tb f a = .nils := hv
    show val ((eqK .sl (eval tb f a) .nils).map _) = _
    rw [hv']
    cases neg <;> rfl
  | mk l =>
    obtain ⟨hb, _⟩ := hv
    show val ((eqK .sl (eval tb f a) .nils).map _) = _
    cases hx : eval tb f a <;> rw [hx] at hb <;> simp only [baseP] at hb <;> cases neg <;> rfl

theorem chunks_place {sz : Nat} : ∀ {n i : Nat} {l c : List AV}, n * sz ≤ l.length → (chunks sz n l)[i]? = some c → sub l (i * sz) sz = c ∧ i * sz + sz ≤ l.length
  | 0, i, l, c, _, h => by simp [chunks] at h
  | n + 1, 0, l, c, hl, h => by
    simp only [chunks, List.getElem?_cons_zero, Option.some.injEq] at h
    rw [Nat.succ_mul] at hl
    exact ⟨by simpa [sub] using h, by omega⟩
  | n + 1, i + 1, l, c, hl, h => by
    simp only [chunks, List.getElem?_cons_succ] at h
    rw [Nat.succ_mul] at hl
    obtain ⟨h1, h2⟩ := chunks_place (l := l.drop sz) (by simp; omega) h
    simp only [List.length_drop] at h2
    refine ⟨?_, by rw [Nat.succ_mul]; omega⟩
    simp only [sub, List.drop_drop] at h1 ⊢
    rw [show (i + 1) * sz = sz + i * sz by rw [Nat.succ_mul]; omega]; exact h1
/-- an element's address -/
theorem SlV.addr {t : T} {P : Nat → Prop} {H : Heap} {v : AV} {i : Nat} {x : t.α} : ∀ {g : GS t.α}, SlV t P H v g → g.l[i]? = some x → ∃ p, iaddr H t.sz v i = some p ∧ RpV t P H p x
  | .nil, _, h => by simp [GS.l] at h
  | .mk l, ⟨bp, els, e, h⟩, hx => by
    obtain ⟨c, hc, hr⟩ := h.get hx
    have hi : i < els.length := (List.getElem?_eq_some_iff.1 hc).1
    have hlen := t.len hr
    have hsub : ∀ cs : List AV, cs = c → sub cs 0 t.sz = c := fun cs e => by
      subst e; simp only [sub, List.drop_zero]; exact List.take_of_length_le (by omega)
    simp only [iaddr, e, Option.bind_some, if_pos hi]
    cases v <;> simp only [baseP] at bp
    · refine ⟨.ip c 0, by simp [hc], trivial, c, 0, rfl, by omega, by rw [hsub c rfl]; exact hr, fun m hm => ?_⟩
      simpa [ment] using t.men hr hm
    · rename_i id k lo len
      simp only [els?] at e
      obtain ⟨r, hrow, e⟩ := Option.bind_eq_some_iff.1 e
      split at e
      · rename_i hcd
        cases e
        have hc' : r.2.2[lo + i]? = some c := by
          rw [List.getElem?_take] at hc
          split at hc
          · rwa [List.getElem?_drop] at hc
          · cases hc
        refine ⟨.pe id k (lo + i) 0, rfl, bp, c, 0, ?_, by omega, by rw [hsub c rfl]; exact hr, fun m hm => by simp only [ment]; exact hm _ bp⟩
        simp only [place, hrow, Option.bind_some, if_pos hcd.1, hc', Option.map_some]
      · cases e
    · rename_i sz' id off len
      simp only [els?] at e
      obtain ⟨r, hrow, e⟩ := Option.bind_eq_some_iff.1 e
      split at e
      · rename_i hcd
        cases e
        obtain ⟨h1, h2⟩ := chunks_place (by simp; omega) hc
        simp only [List.length_drop] at h2
        refine ⟨.ptr id (off + i * t.sz), rfl, bp, r, off + i * t.sz, by simp [place, hrow], by omega, ?_, fun m hm => by simp only [ment]; exact hm _ bp⟩
        have : sub r (off + i * t.sz) t.sz = c := by
          simp only [sub, List.drop_drop] at h1 ⊢; exact h1
        rw [this]; exact hr
      · cases e
theorem h_ias {t : T} {g : GS t.α} {k : IntKind} {i : Int} {sz : Nat} (hs : sz = t.sz) (ha : OpF tb Γ a (.val (T.sl t) g)) (hb : OpF tb Γ b (.val (T.int k) i)) : OpH tb Γ (.ias sz a b) (idx g.l i) fun x => .rp t x := by
  intro E rv fp f H R x hx
  simp only [idx] at hx
  split at hx
  · rename_i h0
    obtain ⟨p, h1, h2⟩ := (T.sl_V.1 (ha E rv fp f H R)).addr hx
    subst hs
    exact ⟨p, none, by simp only [aop, T.int_V.1 (hb E rv fp f H R), int?, Option.bind_some, if_pos h0, h1, val, Option.map_some], rfl, h2⟩
  · cases hx
theorem RpV.load {t : T} {P : Nat → Prop} {H : Heap} {p : AV} {x : t.α} (h : RpV t P H p x) : ∃ v, load H t.agg t.sz p = some v ∧ t.V P H v x := by
  obtain ⟨_, cs, off, e, l, r, _⟩ := h
  obtain ⟨v, h1, h2⟩ := T.V.of r
  exact ⟨v, by simp only [Am.load, e, Option.bind_some, if_pos l, h1], h2⟩
theorem h_ld {t : T} {x : t.α} {ag : Bool} {n : Nat} (hag : ag = t.agg) (hn : n = t.sz) (ha : OpF tb Γ a (.rp t x)) : OpH tb Γ (.ld ag n a) (some ()) fun _ => .val t x := by
  rintro E rv fp f H R z ⟨⟩
  obtain ⟨v, h1, h2⟩ := RpV.load (ha E rv fp f H R)
  subst hag hn
  exact ⟨v, none, by simp only [aop, h1, val, Option.map_some], rfl, h2⟩
theorem RpV.shift {t u : T} {off : Nat} (F : Fld t u off) {P : Nat → Prop} {H : Heap} {p : AV} {x : t.α} (h : RpV t P H p x) : ∃ v, shift off p = some v ∧ RpV u P H v (F.get x) := by
  obtain ⟨hp, cs, o, e, l, r, hm⟩ := h
  have hle := F.le
  have hr := F.getR r
  have hsub : sub (sub cs o t.sz) off u.sz = sub cs (o + off) u.sz := by
    simp only [sub]
    rw [List.drop_take, List.take_take, List.drop_drop, Nat.min_eq_left (by omega)]
  rw [hsub] at hr
  cases p <;> simp only [ptrP] at hp <;> simp only [place] at e
  · rename_i id o'
    obtain ⟨cs', hc, e⟩ := Option.map_eq_some_iff.1 e
    cases e
    refine ⟨_, rfl, hp, cs, o + off, by simp [place, hc], by omega, hr, fun m hm => by simp only [ment]; exact hm _ hp⟩
  · rename_i id n i o'
    obtain ⟨row, hrow, e⟩ := Option.bind_eq_some_iff.1 e
    split at e
    · rename_i hn
      obtain ⟨cs', hc, e⟩ := Option.map_eq_some_iff.1 e
      cases e
      refine ⟨_, rfl, hp, cs, o + off, by simp [place, hrow, hn, hc], by omega, hr, fun m hm => by simp only [ment]; exact hm _ hp⟩
    · cases e
  · rename_i cs' o'
    cases e
    exact ⟨_, rfl, hp, cs, o + off, rfl, by omega, hr, fun m h => by simpa [ment] using hm m h⟩
theorem h_fa {t u : T} {x : t.α} {off : Nat} (F : Fld t u off) (ha : OpF tb Γ a (.rp t x)) : OpH tb Γ (.fa off a) (some ()) fun _ => .rp u (F.get x) := by
  rintro E rv fp f H R z ⟨⟩
  obtain ⟨v, h1, h2⟩ := RpV.shift F (ha E rv fp f H R)
  exact ⟨v, none, by simp only [aop, h1, val, Option.map_some], rfl, h2⟩
theorem h_fld {t u : T} {x : t.α} {off n : Nat} {ag : Bool} (F : Fld t u off) (hag : ag = u.agg) (hn : n = u.sz) (ht : t.agg = true) (ha : OpF tb Γ a (.val t x)) : OpH tb Γ (.fld ag off n a) (some ()) fun _ => .val u (F.get x) := by
  rintro E rv fp f H R z ⟨⟩
  rcases ha E rv fp f H R with ⟨_, cs, e, r⟩ | ⟨e, _⟩
  · obtain ⟨v, h1, h2⟩ := T.V.of (F.getR r)
    have hl := t.len r
    have hle := F.le
    subst hag hn
    exact ⟨v, none, by simp only [aop, e, if_pos (show off + u.sz ≤ cs.length by omega), h1, val, Option.map_some], rfl, h2⟩
  · rw [ht] at e; cases e
end
end Go.Proofs.YtobejhpigbllpaaGreatDoor.Am
