/-
  What operations come to, on typed values: numbers, texts, tests.
-/
import Derived.Test.YtobejhpigbllpaaGreatDoorSmE
namespace Go.Proofs.YtobejhpigbllpaaGreatDoor.Am

section
variable {tb : Tab} {Γ : Cx}

/-! operands -/
theorem o_t {n : Nat} {φ : Fact} (h : findT Γ.ts n = some φ) : OpF tb Γ (.t n) φ := fun _ _ _ _ _ I => I.temps n φ h
theorem o_i {k : IntKind} {n : Int} : OpF tb Γ (.k (.i k n)) (.val (T.int k) n) := fun _ _ _ _ _ _ => T.int_V.2 rfl
theorem o_b {x : Bool} : OpF tb Γ (.k (.b x)) (.val T.b x) := fun _ _ _ _ _ _ => T.b_V.2 rfl
theorem o_s {x : Str} : OpF tb Γ (.k (.s x)) (.val T.str x) := fun _ _ _ _ _ _ => T.str_V.2 rfl
theorem o_u8 {n : Int} (x : UInt8) (h : n = x.toNat) : OpF tb Γ (.k (.i .u8 n)) (.val T.u8 x) := fun _ _ _ _ _ _ => T.u8_V.2 (by rw [h]; rfl)
theorem o_u16 {n : Int} (x : UInt16) (h : n = x.toNat) : OpF tb Γ (.k (.i .u16 n)) (.val T.u16 x) := fun _ _ _ _ _ _ => T.u16_V.2 (by rw [h]; rfl)
theorem o_u32 {n : Int} (x : UInt32) (h : n = x.toNat) : OpF tb Γ (.k (.i .u32 n)) (.val T.u32 x) := fun _ _ _ _ _ _ => T.u32_V.2 (by rw [h]; rfl)
theorem o_u64 {n : Int} (x : UInt64) (h : n = x.toNat) : OpF tb Γ (.k (.i .u64 n)) (.val T.u64 x) := fun _ _ _ _ _ _ => T.u64_V.2 (by rw [h]; rfl)
theorem o_nils {t : T} : OpF tb Γ (.k .nils) (.val (T.sl t) .nil) := fun _ _ _ _ _ _ => T.sl_V.2 rfl
theorem o_z {t : T} {cs : List AV} (ha : t.agg = true) (h : cs = t.zc) : OpF tb Γ (.k (.agg cs)) (.val t t.z) := fun _ _ _ _ _ _ => .inl ⟨ha, cs, rfl, by rw [h]; exact t.hz _ _⟩

theorem h_mv {a : AO} {φ : Fact} (h : OpF tb Γ a φ) : OpH tb Γ (.mv a) (some ()) fun _ => φ :=
  fun E rv fp f H I _ _ => ⟨_, none, rfl, rfl, h E rv fp f H I⟩

/-! whole numbers -/
structure IT where
  t : T
  k : IntKind
  toI : t.α → Int
  ofI : Int → t.α
  V : ∀ {P : Nat → Prop} {H : Heap} {v : AV} {x : t.α}, t.V P H v x ↔ v = .i k (toI x)
  h : ∀ n, toI (ofI n) = k.wrap n

theorem wrap_u8 (n : Int) : IntKind.u8.wrap n = n % 256 := by simp [IntKind.wrap, IntKind.bits, IntKind.signed]
theorem wrap_u16 (n : Int) : IntKind.u16.wrap n = n % 65536 := by simp [IntKind.wrap, IntKind.bits, IntKind.signed]
theorem wrap_u32 (n : Int) : IntKind.u32.wrap n = n % 4294967296 := by simp [IntKind.wrap, IntKind.bits, IntKind.signed]
theorem wrap_u64 (n : Int) : IntKind.u64.wrap n = n % 18446744073709551616 := by simp [IntKind.wrap, IntKind.bits, IntKind.signed]
theorem wrap_i64 {n : Int} (h0 : -9223372036854775808 ≤ n) (h1 : n < 9223372036854775808) : IntKind.i64.wrap n = n := by
  unfold IntKind.wrap
  simp [IntKind.bits, IntKind.signed]
  omega

def IT.int (k : IntKind) : IT := ⟨T.int k, k, fun x => x, k.wrap, T.int_V, fun _ => rfl⟩
def IT.u8 : IT := ⟨T.u8, .u8, fun x : UInt8 => (x.toNat : Int), fun n => UInt8.ofNat (n % 256).toNat, T.u8_V, fun n => by
  rw [wrap_u8, UInt8.toNat_ofNat']; omega⟩
def IT.u16 : IT := ⟨T.u16, .u16, fun x : UInt16 => (x.toNat : Int), fun n => UInt16.ofNat (n % 65536).toNat, T.u16_V, fun n => by
  rw [wrap_u16, UInt16.toNat_ofNat']; omega⟩
def IT.u32 : IT := ⟨T.u32, .u32, fun x : UInt32 => (x.toNat : Int), fun n => UInt32.ofNat (n % 4294967296).toNat, T.u32_V, fun n => by
  rw [wrap_u32, UInt32.toNat_ofNat']; omega⟩
def IT.u64 : IT := ⟨T.u64, .u64, fun x : UInt64 => (x.toNat : Int), fun n => UInt64.ofNat (n % 18446744073709551616).toNat, T.u64_V, fun n => by
  rw [wrap_u64, UInt64.toNat_ofNat']; omega⟩

theorem fr_i {rv : Nat → AV} {ss : Ss} {P : Nat → Prop} {H : Heap} {I : IT} {x : I.t.α} {v : AV} (h : FR rv ss P H (.val I.t x) v) : v = .i I.k (I.toI x) := I.V.1 h
theorem fr_i' {rv : Nat → AV} {ss : Ss} {P : Nat → Prop} {H : Heap} (I : IT) {n : Int} : FR rv ss P H (.val I.t (I.ofI n)) (.i I.k (I.k.wrap n)) := I.V.2 (by rw [I.h])

section
variable {I J : IT} {x y : I.t.α} {a b : AO}
theorem h_add (ha : OpF tb Γ a (.val I.t x)) (hb : OpF tb Γ b (.val I.t y)) : OpH tb Γ (.bin .add a b) (some (I.ofI (I.toI x + I.toI y))) fun z => .val I.t z := by
  rintro E rv fp f H R z ⟨⟩
  exact ⟨_, none, by simp only [aop, fr_i (ha E rv fp f H R), fr_i (hb E rv fp f H R), bin, if_true]; rfl, rfl, fr_i' I⟩
theorem h_sub (ha : OpF tb Γ a (.val I.t x)) (hb : OpF tb Γ b (.val I.t y)) : OpH tb Γ (.bin .sub a b) (some (I.ofI (I.toI x - I.toI y))) fun z => .val I.t z := by
  rintro E rv fp f H R z ⟨⟩
  exact ⟨_, none, by simp only [aop, fr_i (ha E rv fp f H R), fr_i (hb E rv fp f H R), bin, if_true]; rfl, rfl, fr_i' I⟩
theorem h_mul (ha : OpF tb Γ a (.val I.t x)) (hb : OpF tb Γ b (.val I.t y)) : OpH tb Γ (.bin .mul a b) (some (I.ofI (I.toI x * I.toI y))) fun z => .val I.t z := by
  rintro E rv fp f H R z ⟨⟩
  exact ⟨_, none, by simp only [aop, fr_i (ha E rv fp f H R), fr_i (hb E rv fp f H R), bin, if_true]; rfl, rfl, fr_i' I⟩
theorem h_quo (ha : OpF tb Γ a (.val I.t x)) (hb : OpF tb Γ b (.val I.t y)) : OpH tb Γ (.bin .quo a b) (if I.toI y = 0 then none else some (I.ofI ((I.toI x).tdiv (I.toI y)))) fun z => .val I.t z := by
  intro E rv fp f H R z hz
  split at hz
  · cases hz
  · rename_i h0
    cases hz
    exact ⟨_, none, by simp only [aop, fr_i (ha E rv fp f H R), fr_i (hb E rv fp f H R), bin, if_true, if_neg h0]; rfl, rfl, fr_i' I⟩
def bitsR (op : BinOp) (k : IntKind) (x y : Int) : Int :=
  match op with
  | .and => (BitVec.ofInt k.bits x &&& BitVec.ofInt k.bits y).toNat
  | .or => (BitVec.ofInt k.bits x ||| BitVec.ofInt k.bits y).toNat
  | .xor => (BitVec.ofInt k.bits x ^^^ BitVec.ofInt k.bits y).toNat
  | _ => (BitVec.ofInt k.bits x &&& ~~~(BitVec.ofInt k.bits y)).toNat
theorem h_and (ha : OpF tb Γ a (.val I.t x)) (hb : OpF tb Γ b (.val I.t y)) : OpH tb Γ (.bin .and a b) (some (I.ofI (bitsR .and I.k (I.toI x) (I.toI y)))) fun z => .val I.t z := by
  rintro E rv fp f H R z ⟨⟩
  exact ⟨_, none, by simp only [aop, fr_i (ha E rv fp f H R), fr_i (hb E rv fp f H R), bin, if_true]; rfl, rfl, fr_i' I⟩
theorem h_or (ha : OpF tb Γ a (.val I.t x)) (hb : OpF tb Γ b (.val I.t y)) : OpH tb Γ (.bin .or a b) (some (I.ofI (bitsR .or I.k (I.toI x) (I.toI y)))) fun z => .val I.t z := by
  rintro E rv fp f H R z ⟨⟩
  exact ⟨_, none, by simp only [aop, fr_i (ha E rv fp f H R), fr_i (hb E rv fp f H R), bin, if_true]; rfl, rfl, fr_i' I⟩
theorem h_xor (ha : OpF tb Γ a (.val I.t x)) (hb : OpF tb Γ b (.val I.t y)) : OpH tb Γ (.bin .xor a b) (some (I.ofI (bitsR .xor I.k (I.toI x) (I.toI y)))) fun z => .val I.t z := by
  rintro E rv fp f H R z ⟨⟩
  exact ⟨_, none, by simp only [aop, fr_i (ha E rv fp f H R), fr_i (hb E rv fp f H R), bin, if_true]; rfl, rfl, fr_i' I⟩
theorem h_andNot (ha : OpF tb Γ a (.val I.t x)) (hb : OpF tb Γ b (.val I.t y)) : OpH tb Γ (.bin .andNot a b) (some (I.ofI (bitsR .andNot I.k (I.toI x) (I.toI y)))) fun z => .val I.t z := by
  rintro E rv fp f H R z ⟨⟩
  exact ⟨_, none, by simp only [aop, fr_i (ha E rv fp f H R), fr_i (hb E rv fp f H R), bin, if_true]; rfl, rfl, fr_i' I⟩
theorem h_shl {y : J.t.α} (ha : OpF tb Γ a (.val I.t x)) (hb : OpF tb Γ b (.val J.t y)) : OpH tb Γ (.bin .shl a b) (if J.toI y < 0 then none else some (I.ofI (I.toI x * 2 ^ (min (J.toI y).toNat I.k.bits)))) fun z => .val I.t z := by
  intro E rv fp f H R z hz
  split at hz
  · cases hz
  · rename_i h0
    cases hz
    exact ⟨_, none, by simp only [aop, fr_i (ha E rv fp f H R), fr_i (hb E rv fp f H R), bin, if_neg h0]; rfl, rfl, fr_i' I⟩

def cmpI : BinOp → Int → Int → Bool
  | .eql, x, y => decide (x = y)
  | .neq, x, y => !decide (x = y)
  | .lss, x, y => decide (x < y)
  | .leq, x, y => decide (x ≤ y)
  | .gtr, x, y => decide (y < x)
  | _, x, y => decide (y ≤ x)
def isCmp : BinOp → Bool
  | .eql | .neq | .lss | .leq | .gtr | .geq => true
  | _ => false
theorem bin_cmp {op : BinOp} {k : IntKind} {x y : Int} (h : isCmp op = true) : bin op (.i k x) (.i k y) = some (.b (cmpI op x y)) := by
  cases op <;> simp only [isCmp, Bool.false_eq_true] at h <;> simp only [bin, if_true, cmpI] <;> rfl
theorem h_cmp {op : BinOp} (h : isCmp op = true) (ha : OpF tb Γ a (.val I.t x)) (hb : OpF tb Γ b (.val I.t y)) : OpH tb Γ (.bin op a b) (some (cmpI op (I.toI x) (I.toI y))) fun z => .val T.b z := by
  rintro E rv fp f H R z ⟨⟩
  exact ⟨_, none, by simp only [aop, fr_i (ha E rv fp f H R), fr_i (hb E rv fp f H R), bin_cmp h]; rfl, rfl, T.b_V.2 rfl⟩
theorem h_cvi {k : IntKind} (hk : k = J.k) (ha : OpF tb Γ a (.val I.t x)) : OpH tb Γ (.cvi k a) (some (J.ofI (I.toI x))) fun z => .val J.t z := by
  rintro E rv fp f H R z ⟨⟩
  subst hk
  exact ⟨_, none, by simp only [aop, fr_i (ha E rv fp f H R)], rfl, fr_i' J⟩
theorem h_neg (ha : OpF tb Γ a (.val I.t x)) : OpH tb Γ (.un .neg a) (some (I.ofI (0 - I.toI x))) fun z => .val I.t z := by
  rintro E rv fp f H R z ⟨⟩
  exact ⟨_, none, by simp only [aop, fr_i (ha E rv fp f H R), un]; rfl, rfl, fr_i' I⟩
theorem h_compl (ha : OpF tb Γ a (.val I.t x)) : OpH tb Γ (.un .xor a) (some (I.ofI (bitsR .xor I.k (if I.k.signed then -1 else I.k.max) (I.toI x)))) fun z => .val I.t z := by
  rintro E rv fp f H R z ⟨⟩
  exact ⟨_, none, by simp only [aop, fr_i (ha E rv fp f H R), un]; rfl, rfl, fr_i' I⟩
theorem h_max {mx : Bool} (ha : OpF tb Γ a (.val I.t x)) (hb : OpF tb Γ b (.val I.t y)) : OpH tb Γ (.mnx mx a b) (some (if mx then (if I.toI y > I.toI x then y else x) else (if I.toI y < I.toI x then y else x))) fun z => .val I.t z := by
  rintro E rv fp f H R z ⟨⟩
  refine ⟨_, none, by simp only [aop, fr_i (ha E rv fp f H R), fr_i (hb E rv fp f H R), if_true]; rfl, rfl, I.V.2 ?_⟩
  cases mx <;> simp only [if_true, Bool.false_eq_true, if_false] <;> split <;> rfl
end
theorem h_rem {k : IntKind} {x y : Int} {a b : AO} (ha : OpF tb Γ a (.val (T.int k) x)) (hb : OpF tb Γ b (.val (T.int k) y)) : OpH tb Γ (.bin .rem a b) (if y = 0 then none else some (x.tmod y)) fun z => .val (T.int k) z := by
  intro E rv fp f H R z hz
  split at hz
  · cases hz
  · rename_i h0
    cases hz
    exact ⟨_, none, by simp only [aop, T.int_V.1 (ha E rv fp f H R), T.int_V.1 (hb E rv fp f H R), bin, if_true, if_neg h0]; rfl, rfl, T.int_V.2 rfl⟩
theorem h_shr {k : IntKind} {J : IT} {x : Int} {y : J.t.α} {a b : AO} (ha : OpF tb Γ a (.val (T.int k) x)) (hb : OpF tb Γ b (.val J.t y)) : OpH tb Γ (.bin .shr a b) (if J.toI y < 0 then none else some (x.fdiv (2 ^ (min (J.toI y).toNat k.bits)))) fun z => .val (T.int k) z := by
  intro E rv fp f H R z hz
  split at hz
  · cases hz
  · rename_i h0
    cases hz
    exact ⟨_, none, by simp only [aop, T.int_V.1 (ha E rv fp f H R), fr_i (hb E rv fp f H R), bin, if_neg h0]; rfl, rfl, T.int_V.2 rfl⟩
/-- numbers that are not below 0 and that have few bits -/
structure NT extends IT where
  lt : ∀ x, 0 ≤ toI x ∧ toI x < 2 ^ k.bits
  w : ∀ n, 0 ≤ n → n < 2 ^ k.bits → k.wrap n = n
def NT.u8 : NT := ⟨IT.u8, fun x => ⟨by simp [IT.u8], by have : x.toNat < 256 := UInt8.toNat_lt x; simp only [IT.u8, IntKind.bits]; omega⟩, fun n h0 h1 => by simp only [IT.u8, IntKind.bits] at *; rw [wrap_u8]; omega⟩
def NT.u16 : NT := ⟨IT.u16, fun x => ⟨by simp [IT.u16], by have : x.toNat < 65536 := UInt16.toNat_lt x; simp only [IT.u16, IntKind.bits]; omega⟩, fun n h0 h1 => by simp only [IT.u16, IntKind.bits] at *; rw [wrap_u16]; omega⟩
def NT.u32 : NT := ⟨IT.u32, fun x => ⟨by simp [IT.u32], by have : x.toNat < 4294967296 := UInt32.toNat_lt x; simp only [IT.u32, IntKind.bits]; omega⟩, fun n h0 h1 => by simp only [IT.u32, IntKind.bits] at *; rw [wrap_u32]; omega⟩
def NT.u64 : NT := ⟨IT.u64, fun x => ⟨by simp [IT.u64], by have : x.toNat < 18446744073709551616 := UInt64.toNat_lt x; simp only [IT.u64, IntKind.bits]; omega⟩, fun n h0 h1 => by simp only [IT.u64, IntKind.bits] at *; rw [wrap_u64]; omega⟩
theorem h_remN {I : NT} {x y : I.t.α} {a b : AO} (ha : OpF tb Γ a (.val I.t x)) (hb : OpF tb Γ b (.val I.t y)) : OpH tb Γ (.bin .rem a b) (if I.toI y = 0 then none else some (I.ofI ((I.toI x).tmod (I.toI y)))) fun z => .val I.t z := by
  intro E rv fp f H R z hz
  split at hz
  · cases hz
  · rename_i h0
    cases hz
    have h1 := I.lt x
    have h2 := I.lt y
    have hm : (I.toI x).tmod (I.toI y) = (I.toI x) % (I.toI y) := Int.tmod_eq_emod_of_nonneg h1.1
    have hw := I.w ((I.toI x).tmod (I.toI y)) (by rw [hm]; exact Int.emod_nonneg _ h0) (by rw [hm]; exact Int.lt_of_lt_of_le (Int.emod_lt_of_pos _ (by omega)) (by omega))
    refine ⟨_, none, by simp only [aop, fr_i (I := I.toIT) (ha E rv fp f H R), fr_i (I := I.toIT) (hb E rv fp f H R), bin, if_true, if_neg h0]; rfl, rfl, ?_⟩
    have := fr_i' (rv := rv) (ss := Γ.ss) (P := Pf E Γ.ss fp H) (H := H) I.toIT (n := (I.toI x).tmod (I.toI y))
    rwa [hw] at this
theorem h_shrN {I : NT} {J : IT} {x : I.t.α} {y : J.t.α} {a b : AO} (ha : OpF tb Γ a (.val I.t x)) (hb : OpF tb Γ b (.val J.t y)) : OpH tb Γ (.bin .shr a b) (if J.toI y < 0 then none else some (I.ofI ((I.toI x).fdiv (2 ^ (min (J.toI y).toNat I.k.bits))))) fun z => .val I.t z := by
  intro E rv fp f H R z hz
  split at hz
  · cases hz
  · rename_i h0
    cases hz
    have h1 := I.lt x
    have hp : (0 : Int) < 2 ^ (min (J.toI y).toNat I.k.bits) := by exact_mod_cast Nat.two_pow_pos _
    have hm : (I.toI x).fdiv (2 ^ (min (J.toI y).toNat I.k.bits)) = (I.toI x) / (2 ^ (min (J.toI y).toNat I.k.bits)) := Int.fdiv_eq_ediv_of_nonneg _ (by omega)
    have hw := I.w ((I.toI x).fdiv (2 ^ (min (J.toI y).toNat I.k.bits))) (by rw [hm]; exact Int.ediv_nonneg h1.1 (by omega)) (by rw [hm]; exact Int.lt_of_le_of_lt (Int.ediv_le_self _ h1.1) h1.2)
    refine ⟨_, none, by simp only [aop, fr_i (I := I.toIT) (ha E rv fp f H R), fr_i (hb E rv fp f H R), bin, if_neg h0]; rfl, rfl, ?_⟩
    have := fr_i' (rv := rv) (ss := Γ.ss) (P := Pf E Γ.ss fp H) (H := H) I.toIT (n := (I.toI x).fdiv (2 ^ (min (J.toI y).toNat I.k.bits)))
    rwa [hw] at this

/-! truth -/
section
variable {a b : AO}
theorem h_not {x : Bool} (ha : OpF tb Γ a (.val T.b x)) : OpH tb Γ (.un .not a) (some (!x)) fun z => .val T.b z := by
  rintro E rv fp f H R z ⟨⟩
  exact ⟨_, none, by simp only [aop, T.b_V.1 (ha E rv fp f H R), un]; rfl, rfl, T.b_V.2 rfl⟩

/-! texts -/
def idx {α : Type} (l : List α) (i : Int) : Option α := if 0 ≤ i then l[i.toNat]? else none
def bnd (len : Nat) (lo hi : Option Int) : Option (Nat × Nat) :=
  (match hi with
    | none => some len
    | some n => if 0 ≤ n ∧ n ≤ len then some n.toNat else none).bind fun h =>
  (match lo with
    | none => some 0
    | some n => if 0 ≤ n ∧ n ≤ h then some n.toNat else none).bind fun l => some (l, h)
def subL {α : Type} (l : List α) (lo hi : Option Int) : Option (List α) := (bnd l.length lo hi).map fun p => (l.take p.2).drop p.1
/-- an operand that may be left out -/
inductive OpO (tb : Tab) (Γ : Cx) : Option AO → Option Int → Prop where
  | none : OpO tb Γ none none
  | some {a : AO} {k : IntKind} {n : Int} : OpF tb Γ a (.val (T.int k) n) → OpO tb Γ (some a) (some n)
theorem bounds_of {lo hi : Option AO} {l h : Option Int} (hl : OpO tb Γ lo l) (hh : OpO tb Γ hi h) {E : Env} {rv : Nat → AV} {fp : Fp} {f : Fr} {H : Heap} (R : RelI E Γ rv fp f H) (len : Nat) : bounds (eval tb f) len lo hi = bnd len l h := by
  cases hl with
  | none =>
    cases hh with
    | none => rfl
    | some hh => simp only [bounds, bnd, bound?, T.int_V.1 (hh E rv fp f H R), int?, Option.bind_some]
  | some hl =>
    cases hh with
    | none => simp only [bounds, bnd, bound?, T.int_V.1 (hl E rv fp f H R), int?, Option.bind_some]
    | some hh => simp only [bounds, bnd, bound?, T.int_V.1 (hl E rv fp f H R), T.int_V.1 (hh E rv fp f H R), int?, Option.bind_some]

variable {x y : Str}
theorem h_sadd (ha : OpF tb Γ a (.val T.str x)) (hb : OpF tb Γ b (.val T.str y)) : OpH tb Γ (.bin .add a b) (if x.length + y.length ≤ 2 * most then some (x ++ y) else none) fun z => .val T.str z := by
  intro E rv fp f H R z hz
  split at hz
  · rename_i h0
    cases hz
    exact ⟨_, none, by simp only [aop, T.str_V.1 (ha E rv fp f H R), T.str_V.1 (hb E rv fp f H R), bin, if_pos h0]; rfl, rfl, T.str_V.2 rfl⟩
  · cases hz
theorem h_seql (ha : OpF tb Γ a (.val T.str x)) (hb : OpF tb Γ b (.val T.str y)) : OpH tb Γ (.bin .eql a b) (some (decide (x = y))) fun z => .val T.b z := by
  rintro E rv fp f H R z ⟨⟩
  exact ⟨_, none, by simp only [aop, T.str_V.1 (ha E rv fp f H R), T.str_V.1 (hb E rv fp f H R), bin]; rfl, rfl, T.b_V.2 (by congr 1; rw [Bool.eq_iff_iff]; simp)⟩
theorem h_sneq (ha : OpF tb Γ a (.val T.str x)) (hb : OpF tb Γ b (.val T.str y)) : OpH tb Γ (.bin .neq a b) (some (!decide (x = y))) fun z => .val T.b z := by
  rintro E rv fp f H R z ⟨⟩
  exact ⟨_, none, by simp only [aop, T.str_V.1 (ha E rv fp f H R), T.str_V.1 (hb E rv fp f H R), bin]; rfl, rfl, T.b_V.2 (by congr 2; rw [Bool.eq_iff_iff]; simp)⟩
theorem h_lens (ha : OpF tb Γ a (.val T.str x)) : OpH tb Γ (.lens a) (some (x.length : Int)) fun z => .val (T.int .i64) z := by
  rintro E rv fp f H R z ⟨⟩
  exact ⟨_, none, by simp only [aop, T.str_V.1 (ha E rv fp f H R)], rfl, T.int_V.2 rfl⟩
theorem h_ixs {k : IntKind} {n : Int} (ha : OpF tb Γ a (.val T.str x)) (hb : OpF tb Γ b (.val (T.int k) n)) : OpH tb Γ (.ixs a b) (idx x n) fun z => .val T.u8 z := by
  intro E rv fp f H R z hz
  simp only [idx] at hz
  split at hz
  · rename_i h0
    exact ⟨_, none, by simp only [aop, T.str_V.1 (ha E rv fp f H R), T.int_V.1 (hb E rv fp f H R), int?, Option.bind_some, if_pos h0, hz, Option.map_some], rfl, T.u8_V.2 rfl⟩
  · cases hz
theorem h_sls {lo hi : Option AO} {l h : Option Int} (ha : OpF tb Γ a (.val T.str x)) (hl : OpO tb Γ lo l) (hh : OpO tb Γ hi h) : OpH tb Γ (.sls a lo hi) (subL x l h) fun z => .val T.str z := by
  intro E rv fp f H R z hz
  obtain ⟨p, hp, rfl⟩ := Option.map_eq_some_iff.1 hz
  exact ⟨_, none, by simp only [aop, T.str_V.1 (ha E rv fp f H R), bounds_of hl hh R, hp, Option.map_some], rfl, T.str_V.2 rfl⟩
theorem h_cvid (ha : OpF tb Γ a (.val T.str x)) : OpH tb Γ (.cvid a) (some ()) fun _ => .val T.str x := by
  rintro E rv fp f H R z ⟨⟩
  exact ⟨_, none, by simp only [aop, T.str_V.1 (ha E rv fp f H R)], rfl, T.str_V.2 rfl⟩
theorem h_cvc {k : IntKind} {n : Int} (ha : OpF tb Γ a (.val (T.int k) n)) : OpH tb Γ (.cvc a) (some (Utf8.encode n).data.toList) fun z => .val T.str z := by
  rintro E rv fp f H R z ⟨⟩
  exact ⟨_, none, by simp only [aop, T.int_V.1 (ha E rv fp f H R)], rfl, T.str_V.2 rfl⟩
end

/-! what is done only if something holds -/
def gd (g : Nat) (w : Bool) (o : AOper) : AOper := match o.g with
  | none => { o with g := some (g, w) }
  | some _ => o
/-- where something is tried, all of it waits for an earlier test -/
def skips : List Nat → List AOper → Bool
  | _, [] => true
  | seen, o :: r => (match o.g with
    | none => true
    | some (t, _) => seen.any (Nat.beq t)) && skips (match o.d with | some d => d :: seen | none => seen) r
def dsts (l : List AOper) : List Nat := l.filterMap (·.d)

/-- the test of a group of operations: what they come to -/
structure Grp (tb : Tab) (Γ : Cx) (q : Bool) (l : List AOper) (t : Nat) where
  m : Option Bool
  ok : ∀ E rv fp f H, RelI E Γ rv fp f H → ∀ b, m = some b → ∃ f', exec tb (den tb) (rg q l) f H = some (.normal, f', H) ∧ get f' t = .b b ∧ ∀ u, u ∉ dsts l → get f' u = get f u

def Grp.nil {q : Bool} {t : Nat} {b : Bool} (h : OpF tb Γ (.t t) (.val T.b b)) : Grp tb Γ q [] t :=
  ⟨some b, fun E rv fp f H I _ hb => by
    cases hb
    exact ⟨f, exec_rg_nil, T.b_V.1 (h E rv fp f H I), fun _ _ => rfl⟩⟩
def Grp.op {q : Bool} {t d : Nat} {o : AOp} {l : List AOper} {β : Type} {a : Option β} {φ : β → Fact} (h : OpH tb Γ o a φ) (k : (b : β) → Grp tb (Γ.push d (φ b)) q l t) : Grp tb Γ q (⟨some d, none, o⟩ :: l) t :=
  ⟨a.bind fun b => (k b).m, fun E rv fp f H I r hr => by
    obtain ⟨b, hb, hr⟩ := Option.bind_eq_some_iff.1 hr
    obtain ⟨v, u, h1, h2, h3⟩ := h E rv fp f H I b hb
    obtain ⟨f', h4, h5, h6⟩ := (k b).ok E rv fp (put f (some d) v) H (I.push h3) r hr
    refine ⟨f', by rw [exec_rg_cons h1 h2]; exact h4, h5, fun u hu => ?_⟩
    simp only [dsts, List.filterMap_cons, List.mem_cons, not_or] at hu
    rw [h6 u hu.2]
    simp only [put, get]
    rw [if_neg (Ne.symm hu.1)]⟩
def Grp.opn {q : Bool} {t d : Nat} {o : AOp} {l : List AOper} {u : T} {x : u.α} (h : OpH tb Γ o (some ()) fun _ => .val u x) (k : (y : u.α) → Grp tb (Γ.push d (.val u y)) q l t) : Grp tb Γ q (⟨some d, none, o⟩ :: l) t :=
  ⟨(k x).m, (Grp.op (a := some ()) (φ := fun _ => .val u x) h fun _ => k x).ok⟩
def Grp.opr {q : Bool} {t d : Nat} {o : AOp} {l : List AOper} {u : T} {x : u.α} (h : OpH tb Γ o (some ()) fun _ => .rp u x) (k : (y : u.α) → Grp tb (Γ.push d (.rp u y)) q l t) : Grp tb Γ q (⟨some d, none, o⟩ :: l) t :=
  ⟨(k x).m, (Grp.op (a := some ()) (φ := fun _ => .rp u x) h fun _ => k x).ok⟩
def Grp.op1 {q : Bool} {t d : Nat} {o : AOp} {l : List AOper} {φ : Fact} (h : OpH tb Γ o (some ()) fun _ => φ) (k : Grp tb (Γ.push d φ) q l t) : Grp tb Γ q (⟨some d, none, o⟩ :: l) t :=
  ⟨k.m, (Grp.op (a := some ()) (φ := fun _ => φ) h fun _ => k).ok⟩

theorem exec_rg_app {q : Bool} : ∀ {l r : List AOper} {f f' : Fr} {H H' : Heap}, exec tb (den tb) (rg q l) f H = some (.normal, f', H') → exec tb (den tb) (rg q (l ++ r)) f H = exec tb (den tb) (rg q r) f' H'
  | [], r, f, f', H, H', h => by rw [exec_rg_nil] at h; cases h; rfl
  | o :: l, r, f, f', H, H', h => by
    cases q with
    | true =>
      simp only [rg, if_true, exec, List.cons_append, opsQ] at h ⊢
      cases hw : wanted f o.g with
      | none => rw [hw] at h; simp at h
      | some w =>
        rw [hw] at h
        simp only [Option.bind_some] at h ⊢
        cases w with
        | false =>
          simp only [Bool.false_eq_true, if_false] at h ⊢
          exact exec_rg_app (q := true) (l := l) (r := r) (by simpa [rg, exec] using h)
        | true =>
          simp only [if_true] at h ⊢
          cases hp : aop tb (den tb) (eval tb f) H o.o with
          | none => rw [hp] at h; simp at h
          | some p =>
            rw [hp] at h
            simp only [Option.bind_some] at h ⊢
            split at h
            · rename_i hs
              rw [if_pos hs]
              exact exec_rg_app (q := true) (l := l) (r := r) (by simpa [rg, exec] using h)
            · simp at h
    | false =>
      simp only [rg, Bool.false_eq_true, if_false, exec, List.cons_append, ops] at h ⊢
      cases hw : wanted f o.g with
      | none => rw [hw] at h; simp at h
      | some w =>
        rw [hw] at h
        simp only [Option.bind_some] at h ⊢
        cases w with
        | false =>
          simp only [Bool.false_eq_true, if_false] at h ⊢
          exact exec_rg_app (q := false) (l := l) (r := r) (by simpa [rg, exec] using h)
        | true =>
          simp only [if_true] at h ⊢
          cases hp : aop tb (den tb) (eval tb f) H o.o with
          | none => rw [hp] at h; simp at h
          | some p =>
            rw [hp] at h
            simp only [Option.bind_some] at h ⊢
            exact exec_rg_app (q := false) (l := l) (r := r) (by simpa [rg, exec] using h)

/-- the first n operations, that wait for a test -/
def splitG (g : Nat) (w : Bool) : Nat → List AOper → Option (List AOper × List AOper)
  | 0, L => some ([], L)
  | n + 1, ⟨d, some (g', w'), o⟩ :: r => (splitG g w n r).map fun p => (if Nat.beq g' g && (w' == w) then ⟨d, none, o⟩ :: p.1 else ⟨d, some (g', w'), o⟩ :: p.1, p.2)
  | _, _ => none
theorem splitG_spec {g : Nat} {w : Bool} : ∀ {n : Nat} {L l R : List AOper}, splitG g w n L = some (l, R) → L = l.map (gd g w) ++ R
  | 0, L, l, R, h => by simp only [splitG, Option.some.injEq, Prod.mk.injEq] at h; rw [← h.1, ← h.2]; rfl
  | n + 1, [], l, R, h => by simp [splitG] at h
  | n + 1, ⟨d, none, o⟩ :: r, l, R, h => by simp [splitG] at h
  | n + 1, ⟨d, some (g', w'), o⟩ :: r, l, R, h => by
    simp only [splitG] at h
    obtain ⟨p, hp, h⟩ := Option.map_eq_some_iff.1 h
    have ih := splitG_spec (l := p.1) (R := p.2) hp
    simp only [Prod.mk.injEq] at h
    obtain ⟨h1, rfl⟩ := h
    split at h1
    · rename_i hc
      simp only [Bool.and_eq_true, beq_iff_eq] at hc
      obtain ⟨hc, rfl⟩ := hc
      have hc := Nat.eq_of_beq_eq_true hc
      subst hc
      rw [← h1, ih]; rfl
    · rw [← h1, ih]; rfl

theorem wanted_put {f : Fr} {g : Nat} {w : Bool} {v : AV} {d : Option Nat} (h : d ≠ some g) : get (put f d v) g = get f g := by
  cases d with
  | none => rfl
  | some d => simp only [put, get]; rw [if_neg (fun e => h (by rw [e]))]

/-- the test holds -/
theorem run_gd {q : Bool} {g : Nat} {w : Bool} : ∀ {l : List AOper} {f : Fr} {H : Heap}, get f g = .b w → g ∉ dsts l → exec tb (den tb) (rg q (l.map (gd g w))) f H = exec tb (den tb) (rg q l) f H
  | [], _, _, _, _ => rfl
  | o :: l, f, H, h, hn => by
    have hd : o.d ≠ some g := fun e => hn (by simp [dsts, e])
    have hn' : g ∉ dsts l := fun e => hn (by
      simp only [dsts, List.filterMap_cons] at e ⊢
      cases o.d <;> simp [e])
    have hwt : wanted f (gd g w o).g = wanted f o.g := by
      cases ho : o.g with
      | none => simp [gd, ho, wanted, h]
      | some p => simp [gd, ho]
    have hoo : (gd g w o).o = o.o := by cases ho : o.g <;> simp [gd, ho]
    have hod : (gd g w o).d = o.d := by cases ho : o.g <;> simp [gd, ho]
    have ih : ∀ v H', exec tb (den tb) (rg q (l.map (gd g w))) (put f o.d v) H' = exec tb (den tb) (rg q l) (put f o.d v) H' := fun v H' => run_gd (by rw [wanted_put (w := w) hd]; exact h) hn'
    cases q with
    | true =>
      have ih' : ∀ v H', opsQ tb (den tb) H' (l.map (gd g w)) (put f o.d v) = opsQ tb (den tb) H' l (put f o.d v) := fun v H' => by
        have := ih v H'
        simp only [rg, if_true, exec] at this
        cases h1 : opsQ tb (den tb) H' (l.map (gd g w)) (put f o.d v) <;> cases h2 : opsQ tb (den tb) H' l (put f o.d v) <;> simp_all
      simp only [rg, if_true, exec, List.map_cons, opsQ, hwt, hoo, hod, ih']
    | false =>
      have ih' : ∀ v H', ops tb (den tb) (l.map (gd g w)) (put f o.d v) H' = ops tb (den tb) l (put f o.d v) H' := fun v H' => by
        have := ih v H'
        simp only [rg, Bool.false_eq_true, if_false, exec] at this
        cases h1 : ops tb (den tb) (l.map (gd g w)) (put f o.d v) H' <;> cases h2 : ops tb (den tb) l (put f o.d v) H' <;> simp_all [Prod.ext_iff]
      simp only [rg, Bool.false_eq_true, if_false, exec, List.map_cons, ops, hwt, hoo, hod, ih']

/-- the test fails -/
theorem skip_gd {q : Bool} {g : Nat} {w : Bool} : ∀ {l : List AOper} {seen : List Nat} {f : Fr} {H : Heap}, get f g = .b (!w) → g ∉ dsts l → skips seen l = true → (∀ t ∈ seen, get f t = .tup []) →
    ∃ f', exec tb (den tb) (rg q (l.map (gd g w))) f H = some (.normal, f', H) ∧ ∀ u, u ∉ dsts l → get f' u = get f u
  | [], seen, f, H, _, _, _, _ => ⟨f, exec_rg_nil, fun _ _ => rfl⟩
  | o :: l, seen, f, H, h, hn, hs, hseen => by
    have hd : o.d ≠ some g := fun e => hn (by simp [dsts, e])
    have hn' : g ∉ dsts l := fun e => hn (by
      simp only [dsts, List.filterMap_cons] at e ⊢
      cases o.d <;> simp [e])
    simp only [skips, Bool.and_eq_true] at hs
    have hwt : wanted f (gd g w o).g = some false := by
      cases ho : o.g with
      | none => simp [gd, ho, wanted, h]
      | some p =>
        obtain ⟨t, b⟩ := p
        simp only [gd, ho, wanted]
        have := hs.1
        rw [ho] at this
        obtain ⟨x, hx, hb⟩ := List.any_eq_true.1 this
        have hb := Nat.eq_of_beq_eq_true hb
        subst hb
        rw [hseen _ hx]
    have hod : (gd g w o).d = o.d := by cases ho : o.g <;> simp [gd, ho]
    obtain ⟨f', h1, h2⟩ := skip_gd (q := q) (w := w) (l := l) (seen := match o.d with | some d => d :: seen | none => seen) (f := put f o.d (.tup [])) (H := H)
      (by rw [wanted_put (w := w) hd]; exact h) hn' hs.2 (fun t ht => by
        cases hdd : o.d with
        | none => rw [hdd] at ht; exact hseen t ht
        | some d =>
          rw [hdd] at ht
          simp only [put, get]
          by_cases e : d = t
          · rw [if_pos e]
          · rw [if_neg e]
            rcases List.mem_cons.1 ht with e' | ht
            · exact absurd e'.symm e
            · exact hseen t ht)
    refine ⟨f', ?_, fun u hu => ?_⟩
    · cases q with
      | true =>
        simp only [rg, if_true, exec] at h1 ⊢
        simp only [List.map_cons, opsQ, hwt, Option.bind_some, Bool.false_eq_true, if_false, hod]; exact h1
      | false =>
        simp only [rg, Bool.false_eq_true, if_false, exec] at h1 ⊢
        simp only [List.map_cons, ops, hwt, Option.bind_some, Bool.false_eq_true, if_false, hod]; exact h1
    · have hu' : u ∉ dsts l := fun e => hu (by
        simp only [dsts, List.filterMap_cons] at e ⊢
        cases o.d <;> simp [e])
      rw [h2 u hu']
      exact wanted_put (w := w) fun e => hu (by simp [dsts, e])

def memN (l : List Nat) (n : Nat) : Bool := l.any (Nat.beq n)
theorem memN_spec {l : List Nat} {n : Nat} (h : memN l n = false) : n ∉ l := by
  intro hm
  rw [memN, List.any_eq_false] at h
  exact h n hm (by simp)
def apart (l : List Nat) (ts : Ts) : Bool := ts.all fun p => !memN l p.1
theorem apart_find {l : List Nat} : ∀ {ts : Ts} {t : Nat} {φ : Fact}, apart l ts = true → findT ts t = some φ → t ∉ l
  | [], _, _, _, e => by simp [findT] at e
  | (u, ψ) :: r, t, φ, h, e => by
    simp only [apart, List.all_cons, Bool.and_eq_true, Bool.not_eq_true'] at h
    simp only [findT] at e
    split at e
    · rename_i hu; subst hu; exact memN_spec h.1
    · exact apart_find (by simpa [apart] using h.2) e
def chkG (g : Nat) (l : List AOper) (ts : Ts) : Bool := skips [] l && (!memN (dsts l) g && apart (dsts l) ts)

theorem put_b {f : Fr} {H : Heap} {E : Env} {rv : Nat → AV} {fp : Fp} (I : RelI E Γ rv fp f H) {d : Nat} {z : Bool} : RelI E (Γ.push d (.val T.b z)) rv fp (put f (some d) (.b z)) H := I.push (T.b_V.2 rfl)

def andO (b : Bool) (m : Option Bool) : Option Bool := if b = true then m else some false
def orO (b : Bool) (m : Option Bool) : Option Bool := if b = true then some true else m
variable {ks : List Kf} {ρ : Type} {Q : Post ρ}
/-- both of two tests -/
def Sim.and {q : Bool} {L l rest : List AOper} {g t d : Nat} {b : Bool} (n : Nat) (og : findT Γ.ts g = some (.val T.b b)) (h : splitG g true n L = some (l, ⟨some d, none, .pick (.t g) (.t t) (.k (.b false))⟩ :: rest)) (hc : chkG g l Γ.ts = true)
    (grp : Grp tb Γ q l t) (k : (z : Bool) → Sim tb (Γ.push d (.val T.b z)) (rg q rest) ks Q) : Sim tb Γ (rg q L) ks Q :=
  ⟨(andO b grp.m).bind fun z => (k z).m, fun E f H ⟨rv, fp, I⟩ r hr => by
    obtain ⟨z, hz, hr⟩ := Option.bind_eq_some_iff.1 hr
    have hL := splitG_spec h
    simp only [chkG, Bool.and_eq_true, Bool.not_eq_true'] at hc
    obtain ⟨hc1, hc2, hc3⟩ := hc
    have hg := T.b_V.1 (I.temps g _ og)
    have hng := memN_spec hc2
    have fin : ∃ f', exec tb (den tb) (rg q (l.map (gd g true))) f H = some (.normal, f', H) ∧ (∀ u, u ∉ dsts l → get f' u = get f u) ∧ (if b then get f' t else .b false) = .b z := by
      cases b with
      | true =>
        obtain ⟨f', h1, h2, h3⟩ := grp.ok E rv fp f H I z (by simpa [andO, orO] using hz)
        exact ⟨f', by rw [run_gd hg hng]; exact h1, h3, by simpa using h2⟩
      | false =>
        obtain ⟨f', h1, h2⟩ := skip_gd (tb := tb) (q := q) (w := true) (H := H) hg hng hc1 (by simp)
        exact ⟨f', h1, h2, by simpa [andO, orO] using hz⟩
    obtain ⟨f', h1, h2, h3⟩ := fin
    have hp : aop tb (den tb) (eval tb f') H (.pick (.t g) (.t t) (.k (.b false))) = some (.b z, none) := by
      simp only [aop, eval, h2 g hng, hg]
      rw [← h3]
    have I' : RelI E Γ rv fp f' H := I.fr fun u φ e => h2 u (apart_find hc3 e)
    obtain ⟨e, f2, H2, h4, h5⟩ := (k z).ok E _ H ⟨rv, fp, put_b I'⟩ r hr
    exact ⟨e, f2, H2, by rw [hL, exec_rg_app h1, exec_rg_cons hp rfl]; exact h4, h5⟩⟩
/-- one of two tests -/
def Sim.or {q : Bool} {L l rest : List AOper} {g t d : Nat} {b : Bool} (n : Nat) (og : findT Γ.ts g = some (.val T.b b)) (h : splitG g false n L = some (l, ⟨some d, none, .pick (.t g) (.k (.b true)) (.t t)⟩ :: rest)) (hc : chkG g l Γ.ts = true)
    (grp : Grp tb Γ q l t) (k : (z : Bool) → Sim tb (Γ.push d (.val T.b z)) (rg q rest) ks Q) : Sim tb Γ (rg q L) ks Q :=
  ⟨(orO b grp.m).bind fun z => (k z).m, fun E f H ⟨rv, fp, I⟩ r hr => by
    obtain ⟨z, hz, hr⟩ := Option.bind_eq_some_iff.1 hr
    have hL := splitG_spec h
    simp only [chkG, Bool.and_eq_true, Bool.not_eq_true'] at hc
    obtain ⟨hc1, hc2, hc3⟩ := hc
    have hg := T.b_V.1 (I.temps g _ og)
    have hng := memN_spec hc2
    have fin : ∃ f', exec tb (den tb) (rg q (l.map (gd g false))) f H = some (.normal, f', H) ∧ (∀ u, u ∉ dsts l → get f' u = get f u) ∧ (if b then .b true else get f' t) = .b z := by
      cases b with
      | false =>
        obtain ⟨f', h1, h2, h3⟩ := grp.ok E rv fp f H I z (by simpa [andO, orO] using hz)
        exact ⟨f', by rw [run_gd hg hng]; exact h1, h3, by simpa using h2⟩
      | true =>
        obtain ⟨f', h1, h2⟩ := skip_gd (tb := tb) (q := q) (w := false) (H := H) hg hng hc1 (by simp)
        exact ⟨f', h1, h2, by simpa [andO, orO] using hz⟩
    obtain ⟨f', h1, h2, h3⟩ := fin
    have hp : aop tb (den tb) (eval tb f') H (.pick (.t g) (.k (.b true)) (.t t)) = some (.b z, none) := by
      simp only [aop, eval, h2 g hng, hg]
      rw [← h3]
    have I' : RelI E Γ rv fp f' H := I.fr fun u φ e => h2 u (apart_find hc3 e)
    obtain ⟨e, f2, H2, h4, h5⟩ := (k z).ok E _ H ⟨rv, fp, put_b I'⟩ r hr
    exact ⟨e, f2, H2, by rw [hL, exec_rg_app h1, exec_rg_cons hp rfl]; exact h4, h5⟩⟩
/-- the same inside a test -/
def Grp.and {q : Bool} {L l rest : List AOper} {g t t' d : Nat} {b : Bool} (n : Nat) (og : findT Γ.ts g = some (.val T.b b)) (h : splitG g true n L = some (l, ⟨some d, none, .pick (.t g) (.t t) (.k (.b false))⟩ :: rest)) (hc : chkG g l Γ.ts = true)
    (hd : (dsts l).all (memN (dsts L)) = true) (hd' : (d :: dsts rest).all (memN (dsts L)) = true)
    (grp : Grp tb Γ q l t) (k : (z : Bool) → Grp tb (Γ.push d (.val T.b z)) q rest t') : Grp tb Γ q L t' :=
  ⟨(andO b grp.m).bind fun z => (k z).m, fun E rv fp f H I r hr => by
    obtain ⟨z, hz, hr⟩ := Option.bind_eq_some_iff.1 hr
    have hL := splitG_spec h
    simp only [chkG, Bool.and_eq_true, Bool.not_eq_true'] at hc
    obtain ⟨hc1, hc2, hc3⟩ := hc
    have hg := T.b_V.1 (I.temps g _ og)
    have hng := memN_spec hc2
    have sub : ∀ {m : List Nat}, m.all (memN (dsts L)) = true → ∀ u, u ∉ dsts L → u ∉ m := fun hm u hu hum => by
      have := List.all_eq_true.1 hm u hum
      obtain ⟨x, hx, hb⟩ := List.any_eq_true.1 this
      exact hu (Nat.eq_of_beq_eq_true hb ▸ hx)
    have fin : ∃ f', exec tb (den tb) (rg q (l.map (gd g true))) f H = some (.normal, f', H) ∧ (∀ u, u ∉ dsts l → get f' u = get f u) ∧ (if b then get f' t else .b false) = .b z := by
      cases b with
      | true =>
        obtain ⟨f', h1, h2, h3⟩ := grp.ok E rv fp f H I z (by simpa [andO, orO] using hz)
        exact ⟨f', by rw [run_gd hg hng]; exact h1, h3, by simpa using h2⟩
      | false =>
        obtain ⟨f', h1, h2⟩ := skip_gd (tb := tb) (q := q) (w := true) (H := H) hg hng hc1 (by simp)
        exact ⟨f', h1, h2, by simpa [andO, orO] using hz⟩
    obtain ⟨f', h1, h2, h3⟩ := fin
    have hp : aop tb (den tb) (eval tb f') H (.pick (.t g) (.t t) (.k (.b false))) = some (.b z, none) := by
      simp only [aop, eval, h2 g hng, hg]
      rw [← h3]
    have I' : RelI E Γ rv fp f' H := I.fr fun u φ e => h2 u (apart_find hc3 e)
    obtain ⟨f2, h4, h5, h6⟩ := (k z).ok E rv fp _ H (put_b I') r hr
    refine ⟨f2, by rw [hL, exec_rg_app h1, exec_rg_cons hp rfl]; exact h4, h5, fun u hu => ?_⟩
    have hu' := sub hd' u hu
    rw [h6 u fun e => hu' (List.mem_cons_of_mem _ e), wanted_put (w := true) (fun e => hu' (by cases e; exact List.mem_cons_self)), h2 u (sub hd u hu)]⟩
def Grp.or {q : Bool} {L l rest : List AOper} {g t t' d : Nat} {b : Bool} (n : Nat) (og : findT Γ.ts g = some (.val T.b b)) (h : splitG g false n L = some (l, ⟨some d, none, .pick (.t g) (.k (.b true)) (.t t)⟩ :: rest)) (hc : chkG g l Γ.ts = true)
    (hd : (dsts l).all (memN (dsts L)) = true) (hd' : (d :: dsts rest).all (memN (dsts L)) = true)
    (grp : Grp tb Γ q l t) (k : (z : Bool) → Grp tb (Γ.push d (.val T.b z)) q rest t') : Grp tb Γ q L t' :=
  ⟨(orO b grp.m).bind fun z => (k z).m, fun E rv fp f H I r hr => by
    obtain ⟨z, hz, hr⟩ := Option.bind_eq_some_iff.1 hr
    have hL := splitG_spec h
    simp only [chkG, Bool.and_eq_true, Bool.not_eq_true'] at hc
    obtain ⟨hc1, hc2, hc3⟩ := hc
    have hg := T.b_V.1 (I.temps g _ og)
    have hng := memN_spec hc2
    have sub : ∀ {m : List Nat}, m.all (memN (dsts L)) = true → ∀ u, u ∉ dsts L → u ∉ m := fun hm u hu hum => by
      have := List.all_eq_true.1 hm u hum
      obtain ⟨x, hx, hb⟩ := List.any_eq_true.1 this
      exact hu (Nat.eq_of_beq_eq_true hb ▸ hx)
    have fin : ∃ f', exec tb (den tb) (rg q (l.map (gd g false))) f H = some (.normal, f', H) ∧ (∀ u, u ∉ dsts l → get f' u = get f u) ∧ (if b then .b true else get f' t) = .b z := by
      cases b with
      | false =>
        obtain ⟨f', h1, h2, h3⟩ := grp.ok E rv fp f H I z (by simpa [andO, orO] using hz)
        exact ⟨f', by rw [run_gd hg hng]; exact h1, h3, by simpa using h2⟩
      | true =>
        obtain ⟨f', h1, h2⟩ := skip_gd (tb := tb) (q := q) (w := false) (H := H) hg hng hc1 (by simp)
        exact ⟨f', h1, h2, by simpa [andO, orO] using hz⟩
    obtain ⟨f', h1, h2, h3⟩ := fin
    have hp : aop tb (den tb) (eval tb f') H (.pick (.t g) (.k (.b true)) (.t t)) = some (.b z, none) := by
      simp only [aop, eval, h2 g hng, hg]
      rw [← h3]
    have I' : RelI E Γ rv fp f' H := I.fr fun u φ e => h2 u (apart_find hc3 e)
    obtain ⟨f2, h4, h5, h6⟩ := (k z).ok E rv fp _ H (put_b I') r hr
    refine ⟨f2, by rw [hL, exec_rg_app h1, exec_rg_cons hp rfl]; exact h4, h5, fun u hu => ?_⟩
    have hu' := sub hd' u hu
    rw [h6 u fun e => hu' (List.mem_cons_of_mem _ e), wanted_put (w := true) (fun e => hu' (by cases e; exact List.mem_cons_self)), h2 u (sub hd u hu)]⟩
end
end Go.Proofs.YtobejhpigbllpaaGreatDoor.Am
