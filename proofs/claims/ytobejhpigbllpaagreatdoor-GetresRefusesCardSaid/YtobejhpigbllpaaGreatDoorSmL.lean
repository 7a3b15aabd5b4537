/-
  From the model's values to typed ones; a law that answers true.
-/
import Derived.Test.YtobejhpigbllpaaGreatDoorSmK
import Derived.Test.YtobejhpigbllpaaGreatDoorAmO
namespace Go.Proofs.YtobejhpigbllpaaGreatDoor.Am

/-- every value of a type is one of T's, and I holds of it -/
def TyOk (P : Program) (t : TypeId) (u : T) (I : u.α → Prop) : Prop := ∀ n cs, Typed P n t cs → ∃ x, u.R (fun _ => False) [] cs x ∧ I x
def TyF (P : Program) (fs : List Field) (u : T) (I : u.α → Prop) : Prop := ∀ n cs, TypedF (Typed P n) fs cs → ∃ x, u.R (fun _ => False) [] cs x ∧ I x

section
variable {P : Program} {t e : TypeId}
theorem TyOk.weak {u : T} {I J : u.α → Prop} (h : TyOk P t u I) (w : ∀ x, I x → J x) : TyOk P t u J := fun n cs k => by
  obtain ⟨x, r, i⟩ := h n cs k
  exact ⟨x, r, w x i⟩
theorem TyOk.b (hu : P.underlying t = some .bool) : TyOk P t T.b fun _ => True := by
  intro n cs h
  cases n with
  | zero => exact h.elim
  | succ n =>
    simp only [Typed, hu] at h
    obtain ⟨x, rfl⟩ := h
    exact ⟨x, rfl, trivial⟩
theorem TyOk.str (hu : P.underlying t = some .string) : TyOk P t T.str fun _ => True := by
  intro n cs h
  cases n with
  | zero => exact h.elim
  | succ n =>
    simp only [Typed, hu] at h
    obtain ⟨x, rfl⟩ := h
    exact ⟨x, rfl, trivial⟩
theorem TyOk.int {k : IntKind} (hu : P.underlying t = some (.int k)) : TyOk P t (T.int k) fun x => k.has x := by
  intro n cs h
  cases n with
  | zero => exact h.elim
  | succ n =>
    simp only [Typed, hu] at h
    obtain ⟨x, rfl, hx⟩ := h
    exact ⟨x, rfl, hx⟩
theorem TyOk.nat {k : IntKind} {m : Nat} {α : Type} {c : α → Nat} {z : α} {hs hm} (ofN : ∀ i, i < m → ∃ x, c x = i) (hk : ∀ x, k.has x → 0 ≤ x ∧ x < m) (hu : P.underlying t = some (.int k)) : TyOk P t (T.sc α (fun x => .i k (c x)) z hs hm) fun _ => True := by
  intro n cs h
  cases n with
  | zero => exact h.elim
  | succ n =>
    simp only [Typed, hu] at h
    obtain ⟨x, rfl, hx⟩ := h
    have := hk x hx
    obtain ⟨y, hy⟩ := ofN x.toNat (by omega)
    refine ⟨y, ?_, trivial⟩
    show [AV.i k x] = [AV.i k (c y)]
    rw [hy]; congr 2; omega
theorem has_u {x : Int} : (IntKind.u8.has x → 0 ≤ x ∧ x < (256 : Nat)) ∧ (IntKind.u16.has x → 0 ≤ x ∧ x < (65536 : Nat)) ∧ (IntKind.u32.has x → 0 ≤ x ∧ x < (4294967296 : Nat)) ∧ (IntKind.u64.has x → 0 ≤ x ∧ x < (18446744073709551616 : Nat)) := by
  simp only [IntKind.has, IntKind.min, IntKind.max, IntKind.signed, IntKind.bits]
  refine ⟨fun h => ?_, fun h => ?_, fun h => ?_, fun h => ?_⟩ <;> simp at h <;> omega
theorem TyOk.u8 (hu : P.underlying t = some (.int .u8)) : TyOk P t T.u8 fun _ => True := TyOk.nat (c := UInt8.toNat) (m := 256) (fun i hi => ⟨UInt8.ofNat i, by rw [UInt8.toNat_ofNat']; exact Nat.mod_eq_of_lt hi⟩) (fun _ => has_u.1) hu
theorem TyOk.u16 (hu : P.underlying t = some (.int .u16)) : TyOk P t T.u16 fun _ => True := TyOk.nat (c := UInt16.toNat) (m := 65536) (fun i hi => ⟨UInt16.ofNat i, by rw [UInt16.toNat_ofNat']; exact Nat.mod_eq_of_lt hi⟩) (fun _ => has_u.2.1) hu
theorem TyOk.u32 (hu : P.underlying t = some (.int .u32)) : TyOk P t T.u32 fun _ => True := TyOk.nat (c := UInt32.toNat) (m := 4294967296) (fun i hi => ⟨UInt32.ofNat i, by rw [UInt32.toNat_ofNat']; exact Nat.mod_eq_of_lt hi⟩) (fun _ => has_u.2.2.1) hu
theorem TyOk.u64 (hu : P.underlying t = some (.int .u64)) : TyOk P t T.u64 fun _ => True := TyOk.nat (c := UInt64.toNat) (m := 18446744073709551616) (fun i hi => ⟨UInt64.ofNat i, by rw [UInt64.toNat_ofNat']; exact Nat.mod_eq_of_lt hi⟩) (fun _ => has_u.2.2.2) hu
theorem typed_all {u : T} {I : u.α → Prop} (h : TyOk P e u I) {n : Nat} : ∀ {els : List (List AV)}, (∀ x ∈ els, Typed P n e x) → ∃ xs : List u.α, AllR u (fun _ => False) [] els xs ∧ ∀ x ∈ xs, I x
  | [], _ => ⟨[], trivial, fun _ h => by cases h⟩
  | c :: els, hx => by
    obtain ⟨xs, h1, h2⟩ := typed_all h fun y hy => hx y (List.mem_cons_of_mem _ hy)
    obtain ⟨x, h3, h4⟩ := h n c (hx c List.mem_cons_self)
    exact ⟨x :: xs, ⟨h3, h1⟩, fun y hy => by
      rcases List.mem_cons.1 hy with rfl | hy
      · exact h4
      · exact h2 y hy⟩
theorem TyOk.sl {u : T} {I : u.α → Prop} (h : TyOk P e u I) (hu : P.underlying t = some (.slice e)) (hsz : P.cellsOf e = u.sz) : TyOk P t (T.sl u) fun g => ∀ x ∈ g.l, I x := by
  intro n cs k
  cases n with
  | zero => exact k.elim
  | succ n =>
    simp only [Typed, hu] at k
    rcases k with rfl | ⟨els, rfl, hels⟩
    · exact ⟨GS.nil, ⟨_, rfl, rfl⟩, fun x hx => by cases hx⟩
    · obtain ⟨xs, h1, h2⟩ := typed_all h hels
      exact ⟨GS.mk xs, ⟨_, rfl, trivial, els, by simp [els?, hsz], h1⟩, h2⟩
theorem TyOk.arr {m : Nat} {u : T} {I : u.α → Prop} (h : TyOk P e u I) (hu : P.underlying t = some (.array m e)) : TyOk P t (T.arr m u) fun g => ∀ x ∈ g.l, I x := by
  intro n cs k
  cases n with
  | zero => exact k.elim
  | succ n =>
    simp only [Typed, hu] at k
    obtain ⟨els, hl, rfl, hels⟩ := k
    obtain ⟨xs, h1, h2⟩ := typed_all h hels
    exact ⟨⟨xs, by rw [← h1.length, hl]⟩, ⟨els, rfl, h1⟩, h2⟩
theorem TyF.one {f : Field} {u : T} {I : u.α → Prop} (h : TyOk P f.type u I) : TyF P [f] u I := by
  rintro n cs ⟨a, b, rfl, h1, h2⟩
  obtain rfl : b = [] := h2
  rw [List.append_nil]
  exact h n a h1
theorem TyF.cons {f : Field} {fs : List Field} {u w : T} {I : u.α → Prop} {J : w.α → Prop} (h : TyOk P f.type u I) (g : TyF P fs w J) : TyF P (f :: fs) (T.prod u w) fun p => I p.1 ∧ J p.2 := by
  rintro n cs ⟨a, b, rfl, h1, h2⟩
  obtain ⟨x, r1, i1⟩ := h n a h1
  obtain ⟨y, r2, i2⟩ := g n b h2
  exact ⟨(x, y), ⟨a, b, rfl, r1, r2⟩, i1, i2⟩
theorem TyOk.st {fs : Array Field} {u : T} {I : u.α → Prop} {β : Type} {f : β → u.α} {g : u.α → β} {hfg : ∀ y, f (g y) = y} (h : TyF P fs.toList u I) (hu : P.underlying t = some (.struct fs)) : TyOk P t (T.iso u β f g hfg) fun (y : β) => I (f y) := by
  intro n cs k
  cases n with
  | zero => exact k.elim
  | succ n =>
    simp only [Typed, hu] at k
    obtain ⟨x, r, i⟩ := h n cs k
    refine ⟨g x, ?_, ?_⟩
    · show u.R _ _ _ (f (g x))
      rw [hfg]; exact r
    · show I (f (g x))
      rw [hfg]; exact i
end

/-- a value, not its cells -/
theorem typed_V {P : Program} {n : Nat} {t : TypeId} {u : T} {I : u.α → Prop} {v : AV} (ha : aggT P t = u.agg) (h : TyOk P t u I) (k : TypedV P n t v) : ∃ x, u.V (fun _ => False) [] v x ∧ I x := by
  unfold TypedV at k
  cases hu : u.agg with
  | true =>
    rw [ha, hu, if_pos rfl] at k
    obtain ⟨cs, rfl, k⟩ := k
    obtain ⟨x, r, i⟩ := h n cs k
    exact ⟨x, .inl ⟨hu, cs, rfl, r⟩, i⟩
  | false =>
    rw [ha, hu, if_neg (by simp)] at k
    obtain ⟨x, r, i⟩ := h n [v] k
    exact ⟨x, .inr ⟨hu, r⟩, i⟩
/-- the arguments -/
def Tys (P : Program) : List TypeId → (us : List T) → (Res us → Prop) → Prop
  | [], [], _ => True
  | [t], [u], I => aggT P t = u.agg ∧ TyOk P t u I
  | t :: t' :: ts, u :: u' :: us, I => ∃ (J : u.α → Prop) (K : Res (u' :: us) → Prop), (aggT P t = u.agg ∧ TyOk P t u J) ∧ Tys P (t' :: ts) (u' :: us) K ∧ ∀ x y, J x → K y → I (x, y)
  | _, _, _ => False
theorem Tys.one {P : Program} {t : TypeId} {u : T} {I : u.α → Prop} (ha : aggT P t = u.agg) (h : TyOk P t u I) : Tys P [t] [u] I := ⟨ha, h⟩
theorem Tys.cons {P : Program} {t t' : TypeId} {ts : List TypeId} {u u' : T} {us : List T} {J : u.α → Prop} {K : Res (u' :: us) → Prop} (ha : aggT P t = u.agg) (h : TyOk P t u J) (r : Tys P (t' :: ts) (u' :: us) K) :
    Tys P (t :: t' :: ts) (u :: u' :: us) fun (p : u.α × Res (u' :: us)) => J p.1 ∧ K p.2 := ⟨J, K, ⟨ha, h⟩, r, fun _ _ h k => ⟨h, k⟩⟩
theorem typed_Vs {P : Program} {n : Nat} : ∀ {ts : List TypeId} {us : List T} {I : Res us → Prop} {xs : List AV}, (us = [] → ∀ x, I x) → Tys P ts us I → TypedVs P n ts xs → ∃ a : Res us, VsR (fun _ => False) [] us xs a ∧ I a
  | [], [], _, xs, h0, _, h => ⟨(), h, h0 rfl ()⟩
  | [t], [u], I, xs, _, hT, ⟨x, r, e, h, k⟩ => by
    obtain rfl : r = [] := k
    obtain ⟨a, h1, h2⟩ := typed_V hT.1 hT.2 h
    exact ⟨a, ⟨x, e, h1⟩, h2⟩
  | t :: t' :: ts, u :: u' :: us, I, xs, _, ⟨J, K, hT, hR, hI⟩, ⟨x, r, e, h, k⟩ => by
    obtain ⟨a, h1, h2⟩ := typed_V hT.1 hT.2 h
    obtain ⟨b, h3, h4⟩ := typed_Vs (fun e => by cases e) hR k
    exact ⟨(a, b), ⟨x, r, e, h1, h3⟩, hI a b h2 h4⟩
  | [], _ :: _, _, _, _, h, _ => h.elim
  | _ :: _, [], _, _, _, h, _ => by cases ‹List TypeId› <;> exact h.elim
  | [_], _ :: _ :: _, _, _, _, h, _ => h.elim
  | _ :: _ :: _, [_], _, _, _, h, _ => h.elim

/-- a law that answers true -/
theorem Spec.law {P : Program} {tb : Tab} {g n : Nat} {ts : List TypeId} {As : List T} {F : Res As → Option Bool} {I : Res As → Prop} (S : Spec tb g As [T.b] F) (hp : tb.prim g = none) (h0 : As = [] → ∀ x, I x) (hT : Tys P ts As I) (hF : ∀ a, I a → F a = some true)
    {xs : List AV} (h : TypedVs P n ts xs) : ∃ h, den tb g xs [] = some (.b true, h) := by
  obtain ⟨a, ha, hi⟩ := typed_Vs h0 hT h
  obtain ⟨v, u, hc, _, vs, hv, w, hw, hb⟩ := (S (fun _ => False) [] xs a (fun _ h => h.elim) (by simp [mentH]) ha true (hF a hi)).call
  simp only [calling, hp] at hc
  obtain rfl : w = .b true := T.b_V.1 hb
  subst hw
  exact ⟨u, by rw [hc, hv]; rfl⟩
end Go.Proofs.YtobejhpigbllpaaGreatDoor.Am
