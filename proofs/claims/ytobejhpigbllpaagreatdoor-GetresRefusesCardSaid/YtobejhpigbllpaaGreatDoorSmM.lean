/-
  What operations come to, on typed values: pointers that are only read through.
-/
import Derived.Test.YtobejhpigbllpaaGreatDoorSmK
namespace Go.Proofs.YtobejhpigbllpaaGreatDoor.Am

def isPt : AV → Bool
  | .ptr _ _ => true
  | .pe _ _ _ _ => true
  | _ => false
def RefR (t : T) (P : Nat → Prop) (H : Heap) (cs : List AV) : Option t.α → Prop
  | none => cs = [.nilp]
  | some y => ∃ v, cs = [v] ∧ isPt v = true ∧ RpV t P H v y

theorem mentLL_mem : ∀ {l : List (List AV)} {c : List AV}, c ∈ l → mentL c ≤ mentLL l
  | [], _, h => by cases h
  | d :: l, c, h => by
    simp only [mentLL]
    rcases List.mem_cons.1 h with rfl | h
    · omega
    · have := mentLL_mem h; omega
theorem RpV.cut {t : T} {P Q : Nat → Prop} {H : Heap} {v : AV} {y : t.α} {n : Nat} (hv : isPt v = true) (h : RpV t P H v y) (hm : ment v ≤ n) (hw : mentH (H.take n) ≤ n) (hp : ∀ i, P i → i < n → Q i) : RpV t Q (H.take n) v y := by
  obtain ⟨h1, cs, off, h2, h3, h4, _⟩ := h
  cases v <;> simp only [isPt, Bool.false_eq_true] at hv
  · rename_i id o
    simp only [ment] at hm
    simp only [ptrP] at h1
    simp only [place] at h2
    obtain ⟨c, hc, e⟩ := Option.map_eq_some_iff.1 h2
    cases e
    refine ⟨hp _ h1 (by omega), cs, off, by simp only [place]; rw [cellsAt_take (by omega), hc]; rfl, h3, t.cut h4 ?_ hw hp, fun m hq => ?_⟩
    · have := cellsAt_ment hw (by omega) hc
      exact Nat.le_trans (mentL_take0 _ _) (Nat.le_trans (mentL_drop0 _ _) this)
    · simp only [ment]; exact hq _ (hp _ h1 (by omega))
  · rename_i id n' i o
    simp only [ment] at hm
    simp only [ptrP] at h1
    simp only [place] at h2
    obtain ⟨r, hr, h2⟩ := Option.bind_eq_some_iff.1 h2
    split at h2
    · rename_i hn
      obtain ⟨c, hc, e⟩ := Option.map_eq_some_iff.1 h2
      cases e
      refine ⟨hp _ h1 (by omega), cs, off, by simp only [place]; rw [rowAt_take (by omega), hr, Option.bind_some, if_pos hn, hc]; rfl, h3, t.cut h4 ?_ hw hp, fun m hq => ?_⟩
      · have := rowAt_ment hw (by omega) hr
        have := mentLL_mem (List.mem_of_getElem? hc)
        exact Nat.le_trans (mentL_take0 _ _) (Nat.le_trans (mentL_drop0 _ _) (by omega))
      · simp only [ment]; exact hq _ (hp _ h1 (by omega))
    · cases h2

def T.ref (t : T) : T where
  α := Option t.α
  sz := 1
  agg := false
  dep := 21
  R := RefR t
  zc := [.nilp]
  z := none
  hz := fun _ _ => rfl
  one := fun _ => rfl
  len := fun {_ _ _ x} h => by
    cases x with
    | none => rw [show _ = [AV.nilp] from h]; rfl
    | some y => obtain ⟨v, e, _⟩ := h; rw [e]; rfl
  sca := fun {_ _ _ x} h => by
    cases x with
    | none => rw [show _ = [AV.nilp] from h]; rfl
    | some y => obtain ⟨v, e, hv, _⟩ := h; rw [e]; cases v <;> simp only [isPt, Bool.false_eq_true] at hv <;> rfl
  men := fun {_ _ _ x m} h hp => by
    cases x with
    | none => rw [show _ = [AV.nilp] from h]; simp [mentL, ment]
    | some y => obtain ⟨v, e, _, _, _, _, _, _, _, hm⟩ := h; rw [e]; simpa [mentL] using hm m hp
  mono := fun {_ _ _ _ _ x} m h => by
    cases x with
    | none => exact h
    | some y => obtain ⟨v, e, hv, k⟩ := h; exact ⟨v, e, hv, k.mono m⟩
  cut := fun {_ _ _ _ x _} h hm hw hp => by
    cases x with
    | none => exact h
    | some y => obtain ⟨v, e, hv, k⟩ := h; exact ⟨v, e, hv, k.cut hv (by rw [e] at hm; simpa [mentL] using hm) hw hp⟩
  frz := fun _ hd h20 _ _ => by omega

section
variable {tb : Tab} {Γ : Cx} {a b : AO}
theorem h_nilC {j o : Nat} (ha : OpF tb Γ a (.cp j o)) : OpH tb Γ (.nilc a) (some ()) fun _ => .cp j o := by
  rintro E rv fp f H R z ⟨⟩
  obtain ⟨l, id, e, hv⟩ := ha E rv fp f H R
  exact ⟨.ptr id o, none, by simp only [aop, hv], rfl, l, id, e, rfl⟩
theorem h_nilE {j i o : Nat} (ha : OpF tb Γ a (.ep j i o)) : OpH tb Γ (.nilc a) (some ()) fun _ => .ep j i o := by
  rintro E rv fp f H R z ⟨⟩
  obtain ⟨l, id, n, e, hi, hv⟩ := ha E rv fp f H R
  exact ⟨.pe id n i o, none, by simp only [aop, hv], rfl, l, id, n, e, hi, rfl⟩
theorem nil_rp {t : T} {x : t.α} {P : Nat → Prop} {H : Heap} {v : AV} {cl : Nat → List AV → Heap → Out} {rho : AO → AV} (e : rho a = v) (h : RpV t P H v x) : aop tb cl rho H (.nilc a) = some (v, none) := by
  have := h.1
  cases v <;> simp only [ptrP] at this <;> simp only [aop, e]
theorem h_nilP {t : T} {x : t.α} (ha : OpF tb Γ a (.rp t x)) : OpH tb Γ (.nilc a) (some ()) fun _ => .rp t x := by
  rintro E rv fp f H R z ⟨⟩
  have h := ha E rv fp f H R
  exact ⟨_, none, nil_rp rfl h, rfl, h⟩
theorem h_nilR {t : T} {x : Option t.α} (ha : OpF tb Γ a (.val (T.ref t) x)) : OpH tb Γ (.nilc a) x fun y => .rp t y := by
  rintro E rv fp f H R y rfl
  rcases ha E rv fp f H R with ⟨h, _⟩ | ⟨_, v, e, hv, h⟩
  · cases h
  · cases e
    exact ⟨_, none, nil_rp rfl h, rfl, h⟩

/-! calls that read through pointers -/
def T.Flat (t : T) : Prop := ∀ {P Q : Nat → Prop} {H G : Heap} {cs : List AV} {x : t.α}, t.R P H cs x → t.R Q G cs x
theorem flat_b : T.b.Flat := fun h => h
theorem flat_int {k : IntKind} : (T.int k).Flat := fun h => h
theorem flat_u8 : T.u8.Flat := fun h => h
theorem flat_u16 : T.u16.Flat := fun h => h
theorem flat_u32 : T.u32.Flat := fun h => h
theorem flat_u64 : T.u64.Flat := fun h => h
theorem flat_str : T.str.Flat := fun h => h
theorem T.Flat.prod {a b : T} (h : a.Flat) (g : b.Flat) : (T.prod a b).Flat := fun ⟨c, d, e, x, y⟩ => ⟨c, d, e, h x, g y⟩
theorem T.Flat.iso {t : T} {β : Type} {f : β → t.α} {g : t.α → β} {hfg : ∀ y, f (g y) = y} (h : t.Flat) : (T.iso t β f g hfg).Flat := fun r => h r
theorem AllR.flat {t : T} (h : t.Flat) {P Q : Nat → Prop} {H G : Heap} : ∀ {c : List (List AV)} {x : List t.α}, AllR t P H c x → AllR t Q G c x
  | [], [], _ => trivial
  | _ :: _, _ :: _, r => ⟨h r.1, AllR.flat h r.2⟩
theorem T.Flat.arr {n : Nat} {t : T} (h : t.Flat) : (T.arr n t).Flat := fun ⟨css, e, r⟩ => ⟨css, e, r.flat h⟩
theorem T.Flat.V {t : T} (h : t.Flat) {P Q : Nat → Prop} {H G : Heap} {v : AV} {x : t.α} (r : t.V P H v x) : t.V Q G v x := by
  rcases r with ⟨a, cs, e, r⟩ | ⟨a, r⟩
  · exact .inl ⟨a, cs, e, h r⟩
  · exact .inr ⟨a, h r⟩
inductive Flats : List T → Prop where
  | nil : Flats []
  | cons {t : T} {l : List T} : t.Flat → Flats l → Flats (t :: l)
theorem VsR.flat {P Q : Nat → Prop} {H G : Heap} : ∀ {l : List T} {vs : List AV} {x : Res l}, Flats l → VsR P H l vs x → VsR Q G l vs x
  | [], _, _, _, h => h
  | [a], _, _, .cons k _, ⟨v, e, h⟩ => ⟨v, e, k.V h⟩
  | _ :: _ :: _, _, _, .cons k l, ⟨v, q, e, h, g⟩ => ⟨v, q, e, k.V h, VsR.flat l g⟩

/-- an argument: all memory is only read meanwhile -/
def ArgP (tb : Tab) (Γ : Cx) (a : AO) (t : T) (x : t.α) : Prop := ∀ E rv fp f H, RelI E Γ rv fp f H → t.V (fun i => i < H.length) H (eval tb f a) x
theorem a_v {t : T} {x : t.α} (h : OpF tb Γ a (.val t x)) : ArgP tb Γ a t x := fun E rv fp f H R => T.V.mono (fun i hi => ⟨Pf.lt R.le hi, rfl⟩) (h E rv fp f H R)
theorem a_p {t : T} {x : t.α} {j o N : Nat} {ps : List (Nat × Fact)} (ha : OpF tb Γ a (.cp j o)) (hj : findS Γ.ss j = some (.cells ps)) (hp : findP ps o = some (N, .val t x, 0)) : ArgP tb Γ a (T.ref t) (some x) := by
  intro E rv fp f H R
  obtain ⟨l, id, e, hv⟩ := ha E rv fp f H R
  obtain ⟨cs, h0, h2, h3⟩ := cells_of R hj e
  obtain ⟨b', c, e0, e1, e2, e3, e4, e5, _⟩ := findP_spec h3 hp
  have hlen := t.len e4
  have hlt := (R.fplt j id l ((h0 id).2 rfl)).1
  have hs := e5 0 t.sz (by omega)
  rw [Nat.add_zero] at e1 hs
  subst e1
  have hc : sub c 0 t.sz = c := by simp only [sub, List.drop_zero]; exact List.take_of_length_le (by omega)
  rw [hc] at hs
  refine .inr ⟨rfl, _, rfl, by rw [hv]; rfl, ?_⟩
  rw [hv]
  refine ⟨hlt, cs, o, by simp only [place, h2, Option.map_some], by omega, by rw [hs]; exact t.mono (fun i hi => ⟨Pf.lt R.le hi, rfl⟩) e4, fun m hm => ?_⟩
  simp only [ment]
  exact hm _ hlt
inductive ArgR (tb : Tab) (Γ : Cx) : (As : List T) → List AO → Res As → Prop where
  | one {a : AO} {t : T} {x : t.α} (h : ArgP tb Γ a t x) : ArgR tb Γ [t] [a] x
  | cons {a : AO} {t u : T} {x : t.α} {As : List T} {l : List AO} {y : Res (u :: As)} (h : ArgP tb Γ a t x) (k : ArgR tb Γ (u :: As) l y) : ArgR tb Γ (t :: u :: As) (a :: l) (x, y)
theorem ArgR.spec {E : Env} {rv : Nat → AV} {fp : Fp} {f : Fr} {H : Heap} (R : RelI E Γ rv fp f H) : ∀ {As : List T} {l : List AO} {x : Res As}, ArgR tb Γ As l x → VsR (fun i => i < H.length) H As (l.map (eval tb f)) x
  | _, _, _, .one h => ⟨_, rfl, h E rv fp f H R⟩
  | _, _, _, .cons h k => ⟨_, _, rfl, h E rv fp f H R, k.spec R⟩
theorem h_callR {g : Nat} {As Rs : List T} {F : Res As → Option (Res Rs)} {l : List AO} {x : Res As} (sp : Spec tb g As Rs F) (fl : Flats Rs) (hx : ArgR tb Γ As l x) : OpH tb Γ (.call g l) (F x) fun r => outF Rs r := by
  intro E rv fp f H R r hr
  obtain ⟨v, u, h1, h2, vs, h3, h4⟩ := (sp (fun i => i < H.length) H _ x (fun _ h => h) R.wf (hx.spec R) r hr).call
  exact ⟨v, u, by simp only [aop]; exact h1, h2, outF_rel ⟨vs, h3, h4.flat fl⟩⟩
theorem h_callR1 {g : Nat} {As : List T} {t : T} {F : Res As → Option (Res [t])} {l : List AO} {x : Res As} (sp : Spec tb g As [t] F) (fl : Flats [t]) (hx : ArgR tb Γ As l x) : OpH tb Γ (.call g l) (F x) fun r : t.α => .val t r := h_callR sp fl hx
theorem h_callRN {g : Nat} {As : List T} {t u : T} {Rs : List T} {F : Res As → Option (Res (t :: u :: Rs))} {l : List AO} {x : Res As} (sp : Spec tb g As (t :: u :: Rs) F) (fl : Flats (t :: u :: Rs)) (hx : ArgR tb Γ As l x) :
    OpH tb Γ (.call g l) (F x) fun r => .tup (tupL (t :: u :: Rs) r) := h_callR sp fl hx
end
end Go.Proofs.YtobejhpigbllpaaGreatDoor.Am
