/-
  A text's runes, one behind another one.
-/
import Derived.Test.YtobejhpigbllpaaGreatDoorSmM
namespace Go.Proofs.YtobejhpigbllpaaGreatDoor.Am

def DIter : Dom where
  α := Str × Nat
  R := fun F _ H v x => ∃ id, v = .ptr id 0 ∧ (∀ i, F i ↔ i = id) ∧ H[id]? = some (.iter x.1 x.2)
  lt := fun ⟨id, _, hF, h⟩ i hi => by rw [(hF i).1 hi]; exact (List.getElem?_eq_some_iff.1 h).1
  men := fun ⟨id, e, hF, _⟩ _ hm => by rw [e]; simp only [ment]; exact hm id ((hF id).2 rfl)
  mono := fun _ g ⟨id, e, hF, h⟩ => ⟨id, e, hF, by rw [g id ((hF id).2 rfl)]; exact h⟩

/-- the rune at a place, and how many bytes it takes -/
def runeAt (s : Str) (pos : Nat) : Int × Nat := ((Utf8.decode ⟨s.toArray⟩ pos).1, (Utf8.decode ⟨s.toArray⟩ pos).2)

section
variable {tb : Tab} {Γ : Cx} {a b : AO}
/-! numbers without sign, as integers -/
theorem o_n8 {x : UInt8} (h : OpF tb Γ a (.val T.u8 x)) : OpF tb Γ a (.val (T.int .u8) (x.toNat : Int)) := fun E rv fp f H R => T.int_V.2 (T.u8_V.1 (h E rv fp f H R))
theorem o_n16 {x : UInt16} (h : OpF tb Γ a (.val T.u16 x)) : OpF tb Γ a (.val (T.int .u16) (x.toNat : Int)) := fun E rv fp f H R => T.int_V.2 (T.u16_V.1 (h E rv fp f H R))
theorem o_n32 {x : UInt32} (h : OpF tb Γ a (.val T.u32 x)) : OpF tb Γ a (.val (T.int .u32) (x.toNat : Int)) := fun E rv fp f H R => T.int_V.2 (T.u32_V.1 (h E rv fp f H R))
theorem o_n64 {x : UInt64} (h : OpF tb Γ a (.val T.u64 x)) : OpF tb Γ a (.val (T.int .u64) (x.toNat : Int)) := fun E rv fp f H R => T.int_V.2 (T.u64_V.1 (h E rv fp f H R))
theorem M_rng {s : Str} {d : Nat} (j : Nat) (hj : findS Γ.ss j = none) (ha : OpF tb Γ a (.val T.str s)) : OpM tb Γ (some d) (.rng a) (some ()) fun _ => ⟨(d, .own j) :: Γ.ts, (j, .dom DIter (s, 0)) :: Γ.ss⟩ := by
  rintro E rv fp f H R _ ⟨⟩
  obtain ⟨rv', fp', h1, h2, h3⟩ := R.more (j := j) (S := .dom DIter (s, 0)) (v := .ptr H.length 0) (o := .iter s 0) (live_none hj) (by simp [mentO]) rfl (by simp [ment]) rfl fun rv' fp' e1 e2 hP hs =>
    ⟨_, e1, e2, by simp⟩
  refine ⟨.ptr H.length 0, some (H ++ [AObj.iter s 0]), by simp only [aop, T.str_V.1 (ha E rv fp f H R)], rv', fp', h3.push (d := d) (φ := .own j) ⟨h2, h1.symm⟩⟩

variable {ks : List Kf} {ρ : Type} {Q : Post ρ}
def Sim.nxt {s : Str} {pos j d : Nat} {rest : List AOper} (ha : OpF tb Γ a (.own j)) (hj : findS Γ.ss j = some (.dom DIter (s, pos)))
    (k1 : (x : Int × Nat) → Sim tb ⟨(d, .tup [⟨T.b, true⟩, ⟨T.int .i64, ((pos : Nat) : Int)⟩, ⟨T.int .i32, x.1⟩]) :: Γ.ts, (j, .dom DIter (s, pos + x.2)) :: Γ.ss⟩ (rg false rest) ks Q)
    (k2 : Sim tb ⟨(d, .tup [⟨T.b, false⟩]) :: Γ.ts, Γ.ss⟩ (rg false rest) ks Q) : Sim tb Γ (rg false (⟨some d, none, .nxt a⟩ :: rest)) ks Q :=
  ⟨if pos < s.length then (k1 (runeAt s pos)).m else k2.m, fun E f H ⟨rv, fp, I⟩ r hr => by
    have hl : live Γ.ss j := live_of hj rfl
    obtain ⟨_, hv⟩ := ha E rv fp f H I
    obtain ⟨id, e, hF, hH⟩ := I.slots j _ hj
    rw [e] at hv
    have hi : iterAt H id = some (s, pos) := by simp only [iterAt, hH]
    split at hr
    · rename_i hp
      obtain ⟨rv', fp', h1, h2, h3⟩ := I.set (j := j) (S := .dom DIter (s, pos + (runeAt s pos).2)) (v := rv j) (o := .iter s (pos + (runeAt s pos).2)) (by rw [hj]; rfl) hl hF (by simp [mentO]) rfl (I.rvlt j hl) (.inl rfl) (I.scal j hl)
        fun rv' fp' e1 e2 hP _ => ⟨id, by rw [e1, e], e2, by rw [List.getElem?_set_self (I.fplt j id hl ((hF id).2 rfl)).1]⟩
      have hx : aop tb (den tb) (eval tb f) H (.nxt a) = some (.tup [.b true, .i .i64 pos, .i .i32 (runeAt s pos).1], some (H.set id (AObj.iter s (pos + (runeAt s pos).2)))) := by
        simp only [aop, hv, hi, Option.bind_some, if_true, if_pos hp]; rfl
      obtain ⟨e', f', H', h4, h5⟩ := (k1 (runeAt s pos)).ok E _ _ ⟨rv', fp', h3.push (d := d) (φ := .tup [⟨T.b, true⟩, ⟨T.int .i64, ((pos : Nat) : Int)⟩, ⟨T.int .i32, (runeAt s pos).1⟩])
        ⟨[.b true, .i .i64 pos, .i .i32 (runeAt s pos).1], rfl, T.b_V.2 rfl, T.int_V.2 rfl, T.int_V.2 rfl, trivial⟩⟩ r hr
      exact ⟨e', f', H', by rw [exec_reg_cons hx]; exact h4, h5⟩
    · rename_i hp
      have hx : aop tb (den tb) (eval tb f) H (.nxt a) = some (.tup [.b false], none) := by
        simp only [aop, hv, hi, Option.bind_some, if_true, if_neg hp]
      obtain ⟨e', f', H', h4, h5⟩ := k2.ok E _ H ⟨rv, fp, I.push (d := d) (φ := .tup [⟨T.b, false⟩]) ⟨[.b false], rfl, T.b_V.2 rfl, trivial⟩⟩ r hr
      exact ⟨e', f', H', by rw [exec_reg_cons hx]; exact h4, h5⟩⟩
def Sim.condT {x y : AC} (h : OpF tb Γ a (.val T.b true)) (s : Sim tb Γ x ks Q) : Sim tb Γ (.cond a x y) ks Q :=
  ⟨s.m, fun E f H ⟨rv, fp, I⟩ r hr => by
    have hv := T.b_V.1 (h E rv fp f H I)
    obtain ⟨e, f', H', h4, h5⟩ := s.ok E f H ⟨rv, fp, I⟩ r hr
    exact ⟨e, f', H', by simp only [exec, hv, if_true]; exact h4, h5⟩⟩
def Sim.condF {x y : AC} (h : OpF tb Γ a (.val T.b false)) (s : Sim tb Γ y ks Q) : Sim tb Γ (.cond a x y) ks Q :=
  ⟨s.m, fun E f H ⟨rv, fp, I⟩ r hr => by
    have hv := T.b_V.1 (h E rv fp f H I)
    obtain ⟨e, f', H', h4, h5⟩ := s.ok E f H ⟨rv, fp, I⟩ r hr
    exact ⟨e, f', H', by simp only [exec, hv, Bool.false_eq_true, if_false]; exact h4, h5⟩⟩
end
end Go.Proofs.YtobejhpigbllpaaGreatDoor.Am
