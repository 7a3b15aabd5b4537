/-
  Each of the machine's operations does what the model's does: what is equal; what is built of parts.
-/
import Derived.Test.YtobejhpigbllpaaGreatDoorAmF
import Derived.ChangeKeysEq
namespace Go.Proofs.YtobejhpigbllpaaGreatDoor.Am

/-- the cells' kinds of a type that == compares, cell by cell -/
def shpF (P : Program) (sh : TypeId → Option (List CK)) : Nat → List Field → Option (List CK)
  | _, [] => some []
  | pos, f :: fs => (sh f.type).bind fun l => if f.offset = pos ∧ f.name ≠ "_" ∧ l.length = P.cellsOf f.type then (shpF P sh (pos + l.length) fs).map (l ++ ·) else none
def shp (P : Program) : Nat → TypeId → Option (List CK)
  | 0, _ => none
  | d + 1, t =>
    match P.underlying t with
    | some .bool => some [.b]
    | some (.int k) => some [.i k]
    | some .string => some [.s]
    | some (.struct fs) => if P.stoodInHeld t then none else shpF P (shp P d) 0 fs.toList
    | some (.array n e) => (shp P d e).bind fun l => if l.length = P.cellsOf e then some (List.replicate n l).flatten else none
    | _ => none

theorem eqS_length : ∀ {l : List CK} {x y : List AV} {b : Bool}, eqS l x y = some b → x.length = l.length ∧ y.length = l.length
  | [], [], [], _, _ => ⟨rfl, rfl⟩
  | [], [], _ :: _, _, h => by simp [eqS] at h
  | [], _ :: _, _, _, h => by simp [eqS] at h
  | _ :: _, [], _, _, h => by simp [eqS] at h
  | _ :: _, _ :: _, [], _, h => by simp [eqS] at h
  | c :: l, v :: x, u :: y, b, h => by
    simp only [eqS] at h
    obtain ⟨a, _, h⟩ := Option.bind_eq_some_iff.1 h
    obtain ⟨d, h, _⟩ := Option.map_eq_some_iff.1 h
    obtain ⟨h1, h2⟩ := eqS_length h
    simp [h1, h2]

theorem eqS_append : ∀ {l m : List CK} {x y : List AV} {b : Bool}, eqS (l ++ m) x y = some b → ∃ a c, eqS l (x.take l.length) (y.take l.length) = some a ∧ eqS m (x.drop l.length) (y.drop l.length) = some c ∧ b = (a && c)
  | [], m, x, y, b, h => ⟨true, b, by simp [eqS], by simpa using h, by simp⟩
  | c :: l, m, [], _, _, h => by simp [eqS] at h
  | c :: l, m, _ :: _, [], _, h => by simp [eqS] at h
  | c :: l, m, v :: x, u :: y, b, h => by
    simp only [List.cons_append, eqS] at h
    obtain ⟨a, ha, h⟩ := Option.bind_eq_some_iff.1 h
    obtain ⟨d, h', hd⟩ := Option.map_eq_some_iff.1 h
    subst hd
    obtain ⟨p, q, h1, h2, hpq⟩ := eqS_append h'
    subst hpq
    refine ⟨a && p, q, ?_, by simpa using h2, by simp [Bool.and_assoc]⟩
    simp only [List.length_cons, List.take_succ_cons, eqS, ha, Option.bind_some, h1, Option.map_some]

section
variable {cl : Nat → List AV → Heap → Out} {P : Program} {tb : Tab} {C : Ctx} {f : Fr} {a : Act} {nt : Nat}

/-- a value of a type, by its cells -/
def IsV (P : Program) (t : TypeId) (cs : List Value) (v : Value) : Prop := if aggT P t = true then v = .agg cs.toArray else cs = [v]

theorem shp_plain {d : Nat} {t : TypeId} {l : List CK} (h : shp P d t = some l) (ha : aggT P t = false) : l.length = 1 := by
  cases d with
  | zero => simp [shp] at h
  | succ d =>
    simp only [shp] at h
    simp only [aggT] at ha
    split at h <;> simp_all
    all_goals (subst h; rfl)
theorem shp_some {d : Nat} {t : TypeId} {l : List CK} (h : shp P d t = some l) : (P.underlying t).isSome = true := by
  cases d with
  | zero => simp [shp] at h
  | succ d =>
    simp only [shp] at h
    cases hu : P.underlying t with
    | none => rw [hu] at h; simp at h
    | some _ => rfl

theorem run_part_is {d : Nat} {t : TypeId} {l : List CK} (h : shp P d t = some l) (hc : l.length = P.cellsOf t) {cs : List Value} {off : Nat} (hle : off + l.length ≤ cs.length) (w : World) :
    ∃ v, (part t cs.toArray off).run P w = .ok v w ∧ IsV P t ((cs.drop off).take l.length) v := by
  have hu := shp_some h
  have hi : (P.info? t).isSome = true := by
    obtain ⟨d, hd⟩ := Option.isSome_iff_exists.1 hu
    exact info_of_underlying hd
  cases ha : aggT P t with
  | true =>
    refine ⟨.agg (cs.toArray.extract off (off + P.cellsOf t)), ?_, ?_⟩
    · simp only [part, Sem.run_bind, run_isAgg' t w hu, ha, Result.andThen_ok, if_true, run_sizeOf' hi, Sem.run_pure]
    · simp only [IsV, ha, if_true]
      congr 1
      rw [← Array.toList_inj, Array.toList_extract, hc]
      simp [List.extract]
  | false =>
    have h1 := shp_plain h ha
    have hlt : off < cs.length := by omega
    refine ⟨cs[off], ?_, ?_⟩
    · simp only [part, Sem.run_bind, run_isAgg' t w hu, ha, Result.andThen_ok, Bool.false_eq_true, if_false]
      simp [hlt]
    · simp only [IsV, ha, Bool.false_eq_true, if_false, h1]
      rw [List.drop_eq_getElem_cons hlt]
      rfl

def ckT : CK → TypeDesc
  | .b => .bool
  | .i k => .int k
  | .s => .string

theorem run_one {c : CK} {x y : AV} {v u : Value} {b : Bool} (h : eq1 c x y = some b) (rx : Rep C x v) (ry : Rep C y u) :
    (∃ p q, c = .b ∧ v = .bool p ∧ u = .bool q ∧ b = (p == q)) ∨ (∃ k p q, c = .i k ∧ v = .int k p ∧ u = .int k q ∧ b = (p == q)) ∨ ∃ p q : List UInt8, c = .s ∧ v = .string ⟨p.toArray⟩ ∧ u = .string ⟨q.toArray⟩ ∧ b = (p == q) := by
  unfold eq1 at h
  split at h
  · rename_i p q
    simp only [Option.some.injEq] at h
    exact .inl ⟨p, q, rfl, rx, ry, h.symm⟩
  · rename_i k k1 p k2 q
    split at h
    · rename_i hk
      obtain ⟨rfl, rfl⟩ := hk
      simp only [Option.some.injEq] at h
      exact .inr (.inl ⟨_, p, q, rfl, rx, ry, h.symm⟩)
    · cases h
  · rename_i p q
    simp only [Option.some.injEq] at h
    exact .inr (.inr ⟨p, q, rfl, rx, ry, h.symm⟩)
  · cases h

theorem run_eq_one (d : Nat) {c : CK} {t : TypeId} {x y : AV} {v u : Value} {b : Bool} (h : eq1 c x y = some b) (rx : Rep C x v) (ry : Rep C y u) (w : World)
    (ht : P.underlying t = some (ckT c)) : (Op.equalIn (d + 1) t v u).run P w = .ok b w := by
  rcases run_one h rx ry with ⟨p, q, rfl, rfl, rfl, rfl⟩ | ⟨k, p, q, rfl, rfl, rfl, rfl⟩ | ⟨p, q, rfl, rfl, rfl, rfl⟩
  · exact run_equalIn_bool' w d t p q ht
  · exact run_equalIn_int w d t k k p q ht
  · rw [run_equalIn_string w d t _ _ ht, bytes_toList, bytes_toList]

theorem one_of {x y : List AV} {cx cy : List Value} {c : CK} {b : Bool} (h : eqS [c] x y = some b) (rx : RepL C x cx) (ry : RepL C y cy) : ∃ a e v u, x = [a] ∧ y = [e] ∧ cx = [v] ∧ cy = [u] ∧ Rep C a v ∧ Rep C e u ∧ eq1 c a e = some b := by
  obtain ⟨h1, h2⟩ := eqS_length h
  match x, y, h1, h2 with
  | [p], [q], _, _ =>
    obtain ⟨v, r, e1, rv, e2⟩ := rx
    obtain ⟨u, r', e3, ru, e4⟩ := ry
    simp only [eqS] at h
    obtain ⟨b', hb, h⟩ := Option.bind_eq_some_iff.1 h
    simp only [Option.map_some, Option.some.injEq, Bool.and_true] at h
    subst h
    exact ⟨p, q, v, u, rfl, rfl, by rw [e1, show r = [] from e2], by rw [e3, show r' = [] from e4], rv, ru, hb⟩

def EqFor (P : Program) (C : Ctx) (dd : Nat) (t : TypeId) (l : List CK) : Prop :=
  ∀ (ax ay : List AV) (cx cy : List Value) (b : Bool) (x y : Value) (w : World), RepL C ax cx → RepL C ay cy → eqS l ax ay = some b → IsV P t cx x → IsV P t cy y → (Op.equalIn dd t x y).run P w = .ok b w

theorem run_fields (dd d : Nat) (IH : ∀ t l, shp P d t = some l → EqFor P C dd t l) : ∀ (fs : List Field) (pos : Nat) (l : List CK), shpF P (shp P d) pos fs = some l → ∀ (ax ay : List AV) (cx cy : List Value) (b : Bool) (w : World),
    RepL C ax (cx.drop pos) → RepL C ay (cy.drop pos) → eqS l ax ay = some b → (Op.eqFields dd cx.toArray cy.toArray fs).run P w = .ok b w
  | [], pos, l, h, ax, ay, cx, cy, b, w, rx, ry, e => by
    simp only [shpF, Option.some.injEq] at h
    subst h
    obtain ⟨h1, h2⟩ := eqS_length e
    match ax, ay, h1, h2 with
    | [], [], _, _ =>
      simp only [eqS, Option.some.injEq] at e
      subst e
      simp [Op.eqFields]
  | f :: fs, pos, l, h, ax, ay, cx, cy, b, w, rx, ry, e => by
    simp only [shpF] at h
    obtain ⟨m, hm, h⟩ := Option.bind_eq_some_iff.1 h
    split at h
    · rename_i hc
      obtain ⟨hoff, hname, hcells⟩ := hc
      obtain ⟨r, hr, rfl⟩ := Option.map_eq_some_iff.1 h
      obtain ⟨p, q, e1, e2, rfl⟩ := eqS_append e
      obtain ⟨n1, n2⟩ := eqS_length e
      rw [List.length_append] at n1 n2
      have lx := rx.length
      have ly := ry.length
      rw [List.length_drop] at lx ly
      by_cases h0 : m.length = 0
      · -- an empty part
        obtain ⟨v, hv, iv⟩ : ∃ v, (part f.type cx.toArray f.offset).run P w = .ok v w ∧ IsV P f.type ((cx.drop f.offset).take m.length) v := by
          cases ha : aggT P f.type with
          | false => have := shp_plain hm ha; omega
          | true =>
            have hu := shp_some hm
            have hi : (P.info? f.type).isSome = true := by
              obtain ⟨d, hd⟩ := Option.isSome_iff_exists.1 hu
              exact info_of_underlying hd
            refine ⟨.agg (cx.toArray.extract f.offset (f.offset + P.cellsOf f.type)), ?_, ?_⟩
            · simp only [part, Sem.run_bind, run_isAgg' f.type w hu, ha, Result.andThen_ok, if_true, run_sizeOf' hi, Sem.run_pure]
            · simp only [IsV, ha, if_true]
              congr 1
              rw [← Array.toList_inj, Array.toList_extract, hcells]
              simp [List.extract]
        obtain ⟨u, hu', iu⟩ : ∃ v, (part f.type cy.toArray f.offset).run P w = .ok v w ∧ IsV P f.type ((cy.drop f.offset).take m.length) v := by
          cases ha : aggT P f.type with
          | false => have := shp_plain hm ha; omega
          | true =>
            have hu := shp_some hm
            have hi : (P.info? f.type).isSome = true := by
              obtain ⟨d, hd⟩ := Option.isSome_iff_exists.1 hu
              exact info_of_underlying hd
            refine ⟨.agg (cy.toArray.extract f.offset (f.offset + P.cellsOf f.type)), ?_, ?_⟩
            · simp only [part, Sem.run_bind, run_isAgg' f.type w hu, ha, Result.andThen_ok, if_true, run_sizeOf' hi, Sem.run_pure]
            · simp only [IsV, ha, if_true]
              congr 1
              rw [← Array.toList_inj, Array.toList_extract, hcells]
              simp [List.extract]
        have hq := IH f.type m hm _ _ _ _ _ v u w (by rw [hoff]; exact rx.take) (by rw [hoff]; exact ry.take) e1 iv iu
        simp only [Op.eqFields, hname, ne_eq, not_false_eq_true, if_true, Sem.run_bind, hv, hu', hq, Result.andThen_ok]
        cases p
        · simp
        · simp only [Bool.not_true, Bool.false_eq_true, if_false, Bool.true_and]
          exact run_fields dd d IH fs _ r hr _ _ cx cy q w (by rw [← List.drop_drop]; exact rx.drop) (by rw [← List.drop_drop]; exact ry.drop) e2
      · obtain ⟨v, hv, iv⟩ := run_part_is (P := P) hm hcells (cs := cx) (off := f.offset) (by omega) w
        obtain ⟨u, hu, iu⟩ := run_part_is (P := P) hm hcells (cs := cy) (off := f.offset) (by omega) w
        have hq := IH f.type m hm _ _ _ _ _ v u w (by rw [hoff]; exact rx.take) (by rw [hoff]; exact ry.take) e1 iv iu
        simp only [Op.eqFields, hname, ne_eq, not_false_eq_true, if_true, Sem.run_bind, hv, hu, hq, Result.andThen_ok]
        cases p
        · simp
        · simp only [Bool.not_true, Bool.false_eq_true, if_false, Bool.true_and]
          exact run_fields dd d IH fs _ r hr _ _ cx cy q w (by rw [← List.drop_drop]; exact rx.drop) (by rw [← List.drop_drop]; exact ry.drop) e2
    · cases h

theorem run_items (dd : Nat) {e : TypeId} {d : Nat} {m : List CK} (hm : shp P d e = some m) (hc : m.length = P.cellsOf e) (hz : aggT P e = true ∨ 0 < m.length) (IH : EqFor P C dd e m) : ∀ (n pos : Nat) (ax ay : List AV) (cx cy : List Value) (b : Bool) (w : World),
    RepL C ax (cx.drop (pos * m.length)) → RepL C ay (cy.drop (pos * m.length)) → eqS (List.replicate n m).flatten ax ay = some b → (Op.eqItems dd e (P.cellsOf e) cx.toArray cy.toArray (List.range' pos n)).run P w = .ok b w
  | 0, pos, ax, ay, cx, cy, b, w, rx, ry, h => by
    simp only [List.replicate_zero, List.flatten_nil] at h
    obtain ⟨h1, h2⟩ := eqS_length h
    match ax, ay, h1, h2 with
    | [], [], _, _ =>
      simp only [eqS, Option.some.injEq] at h
      subst h
      simp [Op.eqItems]
  | n + 1, pos, ax, ay, cx, cy, b, w, rx, ry, h => by
    rw [List.replicate_succ, List.flatten_cons] at h
    obtain ⟨p, q, e1, e2, rfl⟩ := eqS_append h
    obtain ⟨n1, n2⟩ := eqS_length h
    rw [List.length_append] at n1 n2
    have lx := rx.length
    have ly := ry.length
    rw [List.length_drop] at lx ly
    have prt : ∀ cs : List Value, pos * m.length + m.length ≤ cs.length ∨ (m.length = 0 ∧ aggT P e = true) → ∃ v, (part e cs.toArray (pos * P.cellsOf e)).run P w = .ok v w ∧ IsV P e ((cs.drop (pos * m.length)).take m.length) v := by
      intro cs hcs
      rw [← hc]
      rcases hcs with hcs | ⟨h0, ha⟩
      · exact run_part_is (P := P) hm hc hcs w
      · have hu := shp_some hm
        have hi : (P.info? e).isSome = true := by
          obtain ⟨d, hd⟩ := Option.isSome_iff_exists.1 hu
          exact info_of_underlying hd
        refine ⟨.agg (cs.toArray.extract (pos * m.length) (pos * m.length + P.cellsOf e)), ?_, ?_⟩
        · simp only [part, Sem.run_bind, run_isAgg' e w hu, ha, Result.andThen_ok, if_true, run_sizeOf' hi, Sem.run_pure]
        · simp only [IsV, ha, if_true]
          congr 1
          rw [← Array.toList_inj, Array.toList_extract, ← hc]
          simp [List.extract]
    obtain ⟨v, hv, iv⟩ := prt cx (by
      rcases Nat.eq_zero_or_pos m.length with h0 | h0
      · exact .inr ⟨h0, hz.resolve_right (by omega)⟩
      · left; omega)
    obtain ⟨u, hu, iu⟩ := prt cy (by
      rcases Nat.eq_zero_or_pos m.length with h0 | h0
      · exact .inr ⟨h0, hz.resolve_right (by omega)⟩
      · left; omega)
    have hq := IH _ _ _ _ _ v u w rx.take ry.take e1 iv iu
    simp only [List.range'_succ, Op.eqItems, Sem.run_bind, hv, hu, hq, Result.andThen_ok]
    cases p
    · simp
    · simp only [Bool.not_true, Bool.false_eq_true, if_false, Bool.true_and]
      refine run_items dd hm hc hz IH n (pos + 1) _ _ cx cy q w ?_ ?_ e2
      · rw [Nat.succ_mul, ← List.drop_drop]; exact rx.drop
      · rw [Nat.succ_mul, ← List.drop_drop]; exact ry.drop

theorem eq_sound (k : Nat) : ∀ (d : Nat) (t : TypeId) (l : List CK), shp P d t = some l → EqFor P C (k + d) t l
  | 0, _, _, h => by simp [shp] at h
  | d + 1, t, l, h => by
    intro ax ay cx cy b x y w rx ry e ix iy
    simp only [shp] at h
    have plain : ∀ c : CK, l = [c] → P.underlying t = some (ckT c) → (Op.equalIn (k + (d + 1)) t x y).run P w = .ok b w := by
      intro c hl hu
      subst hl
      obtain ⟨p, q, v, u, rfl, rfl, rfl, rfl, rv, ru, h1⟩ := one_of e rx ry
      have hag : aggT P t = false := by
        simp only [aggT, hu]
        cases c <;> rfl
      simp only [IsV, hag, Bool.false_eq_true, if_false, List.cons.injEq, and_true] at ix iy
      subst ix; subst iy
      exact run_eq_one (k + d) h1 rv ru w hu
    split at h
    · rename_i hu; exact plain .b (by simpa using h.symm) hu
    · rename_i q hu; exact plain (.i q) (by simpa using h.symm) hu
    · rename_i hu; exact plain .s (by simpa using h.symm) hu
    · rename_i fs hu
      split at h
      · cases h
      · rename_i hst
        have hag : aggT P t = true := by simp only [aggT, hu]
        simp only [IsV, hag, if_true] at ix iy
        subst ix; subst iy
        have hf : P.fieldsOf t = fs := by simp only [Program.fieldsOf, hu]
        rw [show k + (d + 1) = (k + d) + 1 from rfl, run_equalIn_struct w (k + d) t _ _ (by rw [hf]; exact hu) (by simpa using hst), hf]
        exact run_fields (k + d) d (fun t l => eq_sound k d t l) fs.toList 0 l h _ _ cx cy b w (by simpa using rx) (by simpa using ry) e
    · rename_i n el hu
      obtain ⟨m, hm, h⟩ := Option.bind_eq_some_iff.1 h
      split at h
      · rename_i hc
        obtain rfl := Option.some.inj h
        have hag : aggT P t = true := by simp only [aggT, hu]
        simp only [IsV, hag, if_true] at ix iy
        subst ix; subst iy
        obtain ⟨i, hi⟩ : ∃ i, P.info? el = some i := by
          obtain ⟨dd, hd⟩ := Option.isSome_iff_exists.1 (shp_some hm)
          exact Option.isSome_iff_exists.1 (info_of_underlying hd)
        rw [show k + (d + 1) = (k + d) + 1 from rfl, run_equalIn_array w (k + d) _ _ hu hi, List.range_eq_range']
        refine run_items (k + d) hm hc ?_ (eq_sound k d el m hm) n 0 _ _ cx cy b w (by simpa using rx) (by simpa using ry) e
        cases ha : aggT P el with
        | true => exact .inl rfl
        | false => right; have := shp_plain hm ha; omega
      · cases h
    · cases h

end
end Go.Proofs.YtobejhpigbllpaaGreatDoor.Am
