/-
  Each of the machine's operations does what the model's does: ==, what is built of parts, copies.
-/
import Derived.Test.YtobejhpigbllpaaGreatDoorAmG
namespace Go.Proofs.YtobejhpigbllpaaGreatDoor.Am
section
variable {cl : Nat → List AV → Heap → Out} {P : Program} {tb : Tab} {C : Ctx} {f : Fr} {a : Act} {nt : Nat}

/-- what == is used at -/
def okEK (P : Program) (ek : EK) (t : TypeId) : Bool :=
  match ek, P.underlying t with
  | .one .b, some .bool => true
  | .agg l, some (.struct _) => decide (shp P 50 t = some l) && !P.eqGuardType P.depth t
  | .agg l, some (.array _ _) => decide (shp P 50 t = some l) && !P.eqGuardType P.depth t
  | .p, some (.pointer _) => true
  | .m, some (.map _ _) => true
  | .f, some (.func _ _ _) => true
  | .n, some (.interface _) => true
  | .sl, some (.slice _) => true
  | _, _ => false

theorem run_equal_of {op : BinOp} {t : TypeId} {x y : Value} {b : Bool} {w : World} (h : (Op.equalIn 10000 t x y).run P w = .ok b w) (hb : (∃ p q, x = .bool p ∧ y = .bool q) ∨ (∃ p q, x = .agg p ∧ y = .agg q) ∨ (∃ p q, x = .pointer p ∧ y = .pointer q) ∨
    (∃ p q, x = .map p ∧ y = .map q) ∨ (x = .nilFunc ∨ y = .nilFunc) ∧ (∀ k n, x ≠ .int k n ∧ y ≠ .int k n) ∨ (x = .nilIface ∨ y = .nilIface) ∧ (∀ k n, x ≠ .int k n ∧ y ≠ .int k n) ∨ (∃ p l c q l' c', x = .slice p l c ∧ y = .slice q l' c')) :
    (op = .eql → (Go.binOp op t x y).run P w = .ok (.bool b) w) ∧ (op = .neq → (Go.binOp op t x y).run P w = .ok (.bool (!b)) w) := by
  have h' : (Op.equal t x y).run P w = .ok b w := h
  constructor <;> rintro rfl
  · rcases hb with ⟨p, q, rfl, rfl⟩ | ⟨p, q, rfl, rfl⟩ | ⟨p, q, rfl, rfl⟩ | ⟨p, q, rfl, rfl⟩ | ⟨rfl | rfl, _⟩ | ⟨rfl | rfl, _⟩ | ⟨p, l, c, q, l', c', rfl, rfl⟩ <;>
      first
      | (simp only [Go.binOp, Sem.run_bind, h', Result.andThen_ok, Sem.run_pure]; done)
      | (cases x <;> simp only [Go.binOp, Sem.run_bind, h', Result.andThen_ok, Sem.run_pure])
      | (cases y <;> simp only [Go.binOp, Sem.run_bind, h', Result.andThen_ok, Sem.run_pure])
  · rcases hb with ⟨p, q, rfl, rfl⟩ | ⟨p, q, rfl, rfl⟩ | ⟨p, q, rfl, rfl⟩ | ⟨p, q, rfl, rfl⟩ | ⟨rfl | rfl, _⟩ | ⟨rfl | rfl, _⟩ | ⟨p, l, c, q, l', c', rfl, rfl⟩ <;>
      first
      | (simp only [Go.binOp, Sem.run_bind, h', Result.andThen_ok, Sem.run_pure]; done)
      | (cases x <;> simp only [Go.binOp, Sem.run_bind, h', Result.andThen_ok, Sem.run_pure])
      | (cases y <;> simp only [Go.binOp, Sem.run_bind, h', Result.andThen_ok, Sem.run_pure])

theorem agg_sound {t : TypeId} {l : List CK} {x y : List AV} {v u : Value} {b : Bool} (hu : aggT P t = true) (hk : shp P 50 t = some l) (hg : P.eqGuardType P.depth t = false) (h : eqS l x y = some b) (rx : Rep C (.agg x) v) (ry : Rep C (.agg y) u) (p q : Operand) (w : World) :
    (∀ op, (eqGuard op t p q v u).run P w = .ok () w) ∧ ∀ op, (op = .eql → (Go.binOp op t v u).run P w = .ok (.bool b) w) ∧ (op = .neq → (Go.binOp op t v u).run P w = .ok (.bool (!b)) w) := by
  obtain ⟨cx, rfl, _, r1⟩ := rx
  obtain ⟨cy, rfl, _, r2⟩ := ry
  refine ⟨fun op => run_eqGuard_agg w op t p q _ _ hg, fun op => run_equal_of (eq_sound (C := C) 9950 50 t l hk _ _ cx cy b _ _ w r1 r2 h ?_ ?_) (.inr (.inl ⟨_, _, rfl, rfl⟩))⟩
  · simp only [IsV, hu, if_true]
  · simp only [IsV, hu, if_true]

theorem guard_of {t : TypeId} {v u : Value} (p q : Operand) (w : World) (h1 : ∀ l, v ≠ .agg l) (h2 : v ≠ .nilIface ∨ u ≠ .nilIface) : ∀ op, (eqGuard op t p q v u).run P w = .ok () w := by
  intro op
  cases v <;> first
    | exact absurd rfl (h1 _)
    | (simp only [eqGuard]; split <;> rfl)
    | (cases u <;> first
        | exact absurd rfl (h2.resolve_left fun h => h rfl)
        | (simp only [eqGuard]; split <;> rfl))

theorem eqIn_ptr (d : Nat) {t e : TypeId} (hu : P.underlying t = some (.pointer e)) {o1 o2 : Option Addr} {b : Bool} (h : (o1 = none ∧ b = o2.isNone) ∨ (o2 = none ∧ o1.isSome = true ∧ b = false)) (w : World) :
    (Op.equalIn (d + 1) t (.pointer o1) (.pointer o2)).run P w = .ok b w := by
  rcases h with ⟨rfl, rfl⟩ | ⟨rfl, h1, rfl⟩
  · simp only [Op.equalIn, Sem.run_bind, run_underlying' hu, Result.andThen_ok, Sem.run_pure]
  · cases o1 with
    | none => cases h1
    | some a => simp only [Op.equalIn, Sem.run_bind, run_underlying' hu, Result.andThen_ok, Sem.run_pure]
theorem eqIn_map (d : Nat) {t k e : TypeId} (hu : P.underlying t = some (.map k e)) {o1 o2 : Option Nat} {b : Bool} (h : (o1 = none ∧ b = o2.isNone) ∨ (o2 = none ∧ o1.isSome = true ∧ b = false)) (w : World) :
    (Op.equalIn (d + 1) t (.map o1) (.map o2)).run P w = .ok b w := by
  rcases h with ⟨rfl, rfl⟩ | ⟨rfl, h1, rfl⟩
  · simp only [Op.equalIn, Sem.run_bind, run_underlying' hu, Result.andThen_ok, Sem.run_pure]
  · cases o1 with
    | none => cases h1
    | some a => simp only [Op.equalIn, Sem.run_bind, run_underlying' hu, Result.andThen_ok, Sem.run_pure]
theorem eqIn_fnn (d : Nat) {t : TypeId} {x1 x2 x3} (hu : P.underlying t = some (.func x1 x2 x3)) (w : World) : (Op.equalIn (d + 1) t .nilFunc .nilFunc).run P w = .ok true w := by
  simp only [Op.equalIn, Sem.run_bind, run_underlying' hu, Result.andThen_ok, Sem.run_pure]
theorem eqIn_fnf (d : Nat) {t : TypeId} {x1 x2 x3} (hu : P.underlying t = some (.func x1 x2 x3)) {p q r} (w : World) : (Op.equalIn (d + 1) t .nilFunc (.func p q r)).run P w = .ok false w := by
  simp only [Op.equalIn, Sem.run_bind, run_underlying' hu, Result.andThen_ok, Sem.run_pure]
theorem eqIn_ffn (d : Nat) {t : TypeId} {x1 x2 x3} (hu : P.underlying t = some (.func x1 x2 x3)) {p q r} (w : World) : (Op.equalIn (d + 1) t (.func p q r) .nilFunc).run P w = .ok false w := by
  simp only [Op.equalIn, Sem.run_bind, run_underlying' hu, Result.andThen_ok, Sem.run_pure]
theorem eqIn_ni (d : Nat) {t : TypeId} {x1} (hu : P.underlying t = some (.interface x1)) {p q} (w : World) : (Op.equalIn (d + 1) t .nilIface (.iface p q)).run P w = .ok false w := by
  simp only [Op.equalIn, Sem.run_bind, run_underlying' hu, Result.andThen_ok, Sem.run_pure]
theorem eqIn_in (d : Nat) {t : TypeId} {x1} (hu : P.underlying t = some (.interface x1)) {p q} (w : World) : (Op.equalIn (d + 1) t (.iface p q) .nilIface).run P w = .ok false w := by
  simp only [Op.equalIn, Sem.run_bind, run_underlying' hu, Result.andThen_ok, Sem.run_pure]
theorem eqIn_sl (d : Nat) {t e : TypeId} (hu : P.underlying t = some (.slice e)) {o1 o2 : Option Addr} {l c l' c' : Nat} {b : Bool} (h : (o1 = none ∧ b = o2.isNone) ∨ (o2 = none ∧ o1.isSome = true ∧ b = false)) (w : World) :
    (Op.equalIn (d + 1) t (.slice o1 l c) (.slice o2 l' c')).run P w = .ok b w := by
  rcases h with ⟨rfl, rfl⟩ | ⟨rfl, h1, rfl⟩
  · simp only [Op.equalIn, Sem.run_bind, run_underlying' hu, Result.andThen_ok, Sem.run_pure]
  · cases o1 with
    | none => cases h1
    | some a => simp only [Op.equalIn, Sem.run_bind, run_underlying' hu, Result.andThen_ok, Sem.run_pure]

theorem eqK_sound {ek : EK} {t : TypeId} {x y : AV} {v u : Value} {b : Bool} (hk : okEK P ek t = true) (h : eqK ek x y = some b) (rx : Rep C x v) (ry : Rep C y u) (p q : Operand) (w : World) :
    (∀ op, (eqGuard op t p q v u).run P w = .ok () w) ∧ ∀ op, (op = .eql → (Go.binOp op t v u).run P w = .ok (.bool b) w) ∧ (op = .neq → (Go.binOp op t v u).run P w = .ok (.bool (!b)) w) := by
  unfold okEK at hk
  split at hk
  · rename_i hu
    simp only [eqK] at h
    rcases run_one h rx ry with ⟨p, q, _, rfl, rfl, rfl⟩ | ⟨k, p, q, e, _⟩ | ⟨p, q, e, _⟩
    · exact ⟨fun op => by cases op <;> rfl, fun op => run_equal_of (run_equalIn_bool' w 9999 t p q hu) (.inl ⟨_, _, rfl, rfl⟩)⟩
    · cases e
    · cases e
  · rename_i l fs hu
    simp only [Bool.and_eq_true, decide_eq_true_eq, Bool.not_eq_true'] at hk
    unfold eqK at h
    split at h <;> first | contradiction | skip
    rename_i l' cx cy e
    cases e
    exact agg_sound (by simp only [aggT, hu]) hk.1 hk.2 h rx ry p q w
  · rename_i l n e hu
    simp only [Bool.and_eq_true, decide_eq_true_eq, Bool.not_eq_true'] at hk
    unfold eqK at h
    split at h <;> first | contradiction | skip
    rename_i l' cx cy e
    cases e
    exact agg_sound (by simp only [aggT, hu]) hk.1 hk.2 h rx ry p q w
  · rename_i e hu
    have fin : ∀ (o1 o2 : Option Addr), v = .pointer o1 → u = .pointer o2 → ((o1 = none ∧ b = o2.isNone) ∨ (o2 = none ∧ o1.isSome = true ∧ b = false)) →
        (∀ op, (eqGuard op t p q v u).run P w = .ok () w) ∧ ∀ op, (op = .eql → (Go.binOp op t v u).run P w = .ok (.bool b) w) ∧ (op = .neq → (Go.binOp op t v u).run P w = .ok (.bool (!b)) w) := by
      rintro o1 o2 rfl rfl hh
      refine ⟨guard_of p q w (fun l e => by cases e) (.inl fun e => by cases e), fun op => run_equal_of ?_ (.inr (.inr (.inl ⟨_, _, rfl, rfl⟩)))⟩
      exact eqIn_ptr 9999 hu hh w
    unfold eqK at h
    split at h <;> first | contradiction | (simp only [Option.some.injEq] at h; subst h)
    · exact fin none none rx ry (.inl ⟨rfl, rfl⟩)
    · exact fin none _ rx ry.2 (.inl ⟨rfl, rfl⟩)
    · obtain ⟨⟨a, e⟩, _⟩ := ry; exact fin none _ rx e (.inl ⟨rfl, rfl⟩)
    · obtain ⟨_, _, _, e, _⟩ := ry; exact fin none _ rx e (.inl ⟨rfl, rfl⟩)
    · exact fin _ none rx.2 ry (.inr ⟨rfl, rfl, rfl⟩)
    · obtain ⟨⟨a, e⟩, _⟩ := rx; exact fin _ none e ry (.inr ⟨rfl, rfl, rfl⟩)
    · obtain ⟨_, _, _, e, _⟩ := rx; exact fin _ none e ry (.inr ⟨rfl, rfl, rfl⟩)
  · rename_i k e hu
    have fin : ∀ (o1 o2 : Option Nat), v = .map o1 → u = .map o2 → ((o1 = none ∧ b = o2.isNone) ∨ (o2 = none ∧ o1.isSome = true ∧ b = false)) →
        (∀ op, (eqGuard op t p q v u).run P w = .ok () w) ∧ ∀ op, (op = .eql → (Go.binOp op t v u).run P w = .ok (.bool b) w) ∧ (op = .neq → (Go.binOp op t v u).run P w = .ok (.bool (!b)) w) := by
      rintro o1 o2 rfl rfl hh
      refine ⟨guard_of p q w (fun l e => by cases e) (.inl fun e => by cases e), fun op => run_equal_of ?_ (.inr (.inr (.inr (.inl ⟨_, _, rfl, rfl⟩))))⟩
      exact eqIn_map 9999 hu hh w
    unfold eqK at h
    split at h <;> first | contradiction | (simp only [Option.some.injEq] at h; subst h)
    · exact fin none none rx ry (.inl ⟨rfl, rfl⟩)
    · exact fin none _ rx ry.2 (.inl ⟨rfl, rfl⟩)
    · exact fin _ none rx.2 ry (.inr ⟨rfl, rfl, rfl⟩)
  · rename_i x1 x2 x3 hu
    have fin : (Op.equalIn 10000 t v u).run P w = .ok b w → (v = .nilFunc ∨ u = .nilFunc) ∧ (∀ k n, v ≠ .int k n ∧ u ≠ .int k n) → (∀ l, v ≠ .agg l) → v ≠ .nilIface →
        (∀ op, (eqGuard op t p q v u).run P w = .ok () w) ∧ ∀ op, (op = .eql → (Go.binOp op t v u).run P w = .ok (.bool b) w) ∧ (op = .neq → (Go.binOp op t v u).run P w = .ok (.bool (!b)) w) :=
      fun h1 h2 h3 h4 => ⟨guard_of p q w h3 (.inl h4), fun op => run_equal_of h1 (.inr (.inr (.inr (.inr (.inl h2)))))⟩
    unfold eqK at h
    split at h <;> first | contradiction | (simp only [Option.some.injEq] at h; subst h)
    · obtain rfl := show v = .nilFunc from rx
      obtain rfl := show u = .nilFunc from ry
      exact fin (eqIn_fnn 9999 hu w) ⟨.inl rfl, fun _ _ => ⟨fun e => (by cases e), fun e => (by cases e)⟩⟩ (fun _ e => by cases e) (fun e => by cases e)
    · obtain rfl := show v = .nilFunc from rx
      obtain ⟨_, _, rfl, _⟩ := ry
      exact fin (eqIn_fnf 9999 hu w) ⟨.inl rfl, fun _ _ => ⟨fun e => (by cases e), fun e => (by cases e)⟩⟩ (fun _ e => by cases e) (fun e => by cases e)
    · obtain rfl := show u = .nilFunc from ry
      obtain ⟨_, _, rfl, _⟩ := rx
      exact fin (eqIn_ffn 9999 hu w) ⟨.inr rfl, fun _ _ => ⟨fun e => (by cases e), fun e => (by cases e)⟩⟩ (fun _ e => by cases e) (fun e => by cases e)
  · rename_i x1 hu
    have fin : (Op.equalIn 10000 t v u).run P w = .ok b w → (v = .nilIface ∨ u = .nilIface) ∧ (∀ k n, v ≠ .int k n ∧ u ≠ .int k n) → (∀ l, v ≠ .agg l) → (v ≠ .nilIface ∨ u ≠ .nilIface) →
        (∀ op, (eqGuard op t p q v u).run P w = .ok () w) ∧ ∀ op, (op = .eql → (Go.binOp op t v u).run P w = .ok (.bool b) w) ∧ (op = .neq → (Go.binOp op t v u).run P w = .ok (.bool (!b)) w) :=
      fun h1 h2 h3 h4 => ⟨guard_of p q w h3 h4, fun op => run_equal_of h1 (.inr (.inr (.inr (.inr (.inr (.inl h2))))))⟩
    unfold eqK at h
    split at h <;> first | contradiction | (simp only [Option.some.injEq] at h; subst h)
    · obtain rfl := show v = .nilIface from rx
      obtain ⟨_, _, rfl, _⟩ := ry
      exact fin (eqIn_ni 9999 hu w) ⟨.inl rfl, fun _ _ => ⟨fun e => (by cases e), fun e => (by cases e)⟩⟩ (fun _ e => by cases e) (.inr fun e => by cases e)
    · obtain rfl := show u = .nilIface from ry
      obtain ⟨_, _, rfl, _⟩ := rx
      exact fin (eqIn_in 9999 hu w) ⟨.inr rfl, fun _ _ => ⟨fun e => (by cases e), fun e => (by cases e)⟩⟩ (fun _ e => by cases e) (.inl fun e => by cases e)
  · rename_i x1 hu
    have fin : ∀ (o1 o2 : Option Addr) (l c l' c' : Nat), v = .slice o1 l c → u = .slice o2 l' c' → ((o1 = none ∧ b = o2.isNone) ∨ (o2 = none ∧ o1.isSome = true ∧ b = false)) →
        (∀ op, (eqGuard op t p q v u).run P w = .ok () w) ∧ ∀ op, (op = .eql → (Go.binOp op t v u).run P w = .ok (.bool b) w) ∧ (op = .neq → (Go.binOp op t v u).run P w = .ok (.bool (!b)) w) := by
      rintro o1 o2 l c l' c' rfl rfl hh
      refine ⟨guard_of p q w (fun l e => by cases e) (.inl fun e => by cases e), fun op => run_equal_of ?_ (.inr (.inr (.inr (.inr (.inr (.inr ⟨_, _, _, _, _, _, rfl, rfl⟩))))))⟩
      exact eqIn_sl 9999 hu hh w
    have some_sl : ∀ {sz els y}, Rep C (.sl sz els) y → ∃ o l c, y = .slice (some o) l c := by
      intro sz els y r
      rcases r with ⟨_, _, _, _, e, _⟩ | ⟨_, _, _, e⟩ <;> exact ⟨_, _, _, e⟩
    have some_or : ∀ {id n lo len y}, Rep C (.orow id n lo len) y → ∃ o l c, y = .slice (some o) l c := by
      intro id n lo len y r
      obtain ⟨⟨_, _, e⟩, _⟩ := r
      exact ⟨_, _, _, e⟩
    have some_oc : ∀ {id n lo len y}, Rep C (.ocel id n lo len) y → ∃ o l c, y = .slice (some o) l c := by
      intro id n lo len y r
      obtain ⟨_, _, _, e, _⟩ := r
      exact ⟨_, _, _, e⟩
    unfold eqK at h
    split at h <;> first | contradiction | (simp only [Option.some.injEq] at h; subst h)
    · exact fin none none _ _ _ _ rx ry (.inl ⟨rfl, rfl⟩)
    · obtain ⟨o, l, c, e⟩ := some_sl rx; exact fin _ none _ _ _ _ e ry (.inr ⟨rfl, rfl, rfl⟩)
    · obtain ⟨o, l, c, e⟩ := some_or rx; exact fin _ none _ _ _ _ e ry (.inr ⟨rfl, rfl, rfl⟩)
    · obtain ⟨o, l, c, e⟩ := some_oc rx; exact fin _ none _ _ _ _ e ry (.inr ⟨rfl, rfl, rfl⟩)
    · obtain ⟨o, l, c, e⟩ := some_sl ry; exact fin none _ _ _ _ _ rx e (.inl ⟨rfl, rfl⟩)
    · obtain ⟨o, l, c, e⟩ := some_or ry; exact fin none _ _ _ _ _ rx e (.inl ⟨rfl, rfl⟩)
    · obtain ⟨o, l, c, e⟩ := some_oc ry; exact fin none _ _ _ _ _ rx e (.inl ⟨rfl, rfl⟩)
  · cases hk

theorem sim_eq (I : Inv tb C) (F : FrRel C f a nt) {o : Oper} {op : BinOp} {t u : TypeId} {ek : EK} {neg : Bool} {x1 x2 : AO} {y1 y2 : Operand} (ho : o.op = .binOp op t y1 y2 u) (hop : op = if neg then .neq else .eql) (hk : okEK P ek t = true)
    (h1 : okAO x1 y1 = true) (h2 : okAO x2 y2 = true) {b : Bool} (h : eqK ek (eval tb f x1) (eval tb f x2) = some b) : Yields tb C (.b (if neg then !b else b), none) ((execOp a.eval o).run P C.w) := by
  obtain ⟨q1, q2⟩ := eqK_sound hk h (rep_eval I F h1) (rep_eval I F h2) y1 y2 C.w
  cases neg with
  | true =>
    simp only [if_true] at hop
    refine yields_pure I (v := .bool (!b)) ?_ rfl
    simp only [execOp, ho, Sem.run_bind, q1 op, Result.andThen_ok, (q2 op).2 hop, Sem.run_pure]
  | false =>
    simp only [Bool.false_eq_true, if_false] at hop
    refine yields_pure I (v := .bool b) ?_ rfl
    simp only [execOp, ho, Sem.run_bind, q1 op, Result.andThen_ok, (q2 op).1 hop, Sem.run_pure]

end
end Go.Proofs.YtobejhpigbllpaaGreatDoor.Am
