/-
  What operations come to, on typed values: memory of the function's own, calls, equality.
-/
import Derived.Test.YtobejhpigbllpaaGreatDoorSmG
namespace Go.Proofs.YtobejhpigbllpaaGreatDoor.Am

/-! the parts of a variable -/
def findP : List (Nat × Fact) → Nat → Option (Nat × Fact × Nat)
  | [], _ => none
  | (n, φ) :: r, o => if Nat.blt o n then some (n, φ, o) else findP r (o - n)
def putP : List (Nat × Fact) → Nat → Fact → List (Nat × Fact)
  | [], _, _ => []
  | (n, φ) :: r, o, ψ => if Nat.blt o n then (n, ψ) :: r else (n, φ) :: putP r (o - n) ψ
theorem blt_iff {a b : Nat} : Nat.blt a b = true ↔ a < b := by
  rw [Nat.blt, Nat.ble_eq]; exact Iff.rfl

section
variable {rv : Nat → AV} {ss : Ss} {P : Nat → Prop} {H : Heap}
/-- where a part stands -/
theorem findP_spec : ∀ {ps : List (Nat × Fact)} {o o' N : Nat} {φ : Fact} {cs : List AV}, PR rv ss P H ps cs → findP ps o = some (N, φ, o') →
    ∃ b c, c.length = N ∧ o = b + o' ∧ o' < c.length ∧ b + c.length ≤ cs.length ∧ FC rv ss P H φ c ∧ (∀ m k, m + k ≤ c.length → sub cs (b + m) k = sub c m k) ∧
      (∀ m d ψ, m + d.length ≤ c.length → FC rv ss P H ψ (splice c m d) → PR rv ss P H (putP ps o ψ) (splice cs (b + m) d))
  | [], o, o', N, φ, cs, _, h => by simp [findP] at h
  | (n, ψ) :: r, o, o', N, φ, cs, ⟨c, d, e, hl, hc, hr⟩, h => by
    simp only [findP] at h
    split at h
    · rename_i ho
      rw [blt_iff] at ho
      cases h
      subst e
      refine ⟨0, c, hl, by omega, by omega, by simp, hc, ?_, ?_⟩
      · intro m k hm
        simp only [sub, Nat.zero_add]
        rw [List.drop_append_of_le_length (by omega), List.take_append_of_le_length (by simp; omega)]
      · intro m d' χ hm hf
        simp only [putP, blt_iff.2 ho, if_true]
        refine ⟨splice c m d', d, ?_, ?_, hf, hr⟩
        · simp only [splice, Nat.zero_add]
          rw [List.take_append_of_le_length (by omega), List.drop_append_of_le_length (by omega)]
          simp
        · simp only [splice, List.length_append, List.length_take, List.length_drop]; omega
    · rename_i ho
      have ho' : ¬ o < n := fun e => ho (blt_iff.2 e)
      obtain ⟨b, c', h0, h1, h2, h3, h4, h5, h6⟩ := findP_spec hr h
      subst e
      refine ⟨n + b, c', h0, by omega, h2, by simp; omega, h4, ?_, ?_⟩
      · intro m k hm
        rw [← h5 m k hm]
        simp only [sub]
        rw [show n + b + m = c.length + (b + m) by omega, ← List.drop_drop, List.drop_left' rfl]
      · intro m d' χ hm hf
        have := h6 m d' χ hm hf
        simp only [putP, if_neg ho]
        refine ⟨c, _, ?_, hl, hc, this⟩
        simp only [splice]
        rw [List.take_append, List.take_of_length_le (by omega), show n + b + m - c.length = b + m by omega]
        rw [show n + b + m + d'.length = c.length + (b + m + d'.length) by omega, ← List.drop_drop, List.drop_left' rfl]
        simp
end

def Cx.setS (Γ : Cx) (j : Nat) (S : Slot) : Cx := ⟨Γ.ts, (j, S) :: Γ.ss⟩

section
variable {tb : Tab} {Γ : Cx} {a b : AO}

theorem h_faC {j o off : Nat} (ha : OpF tb Γ a (.cp j o)) : OpH tb Γ (.fa off a) (some ()) fun _ => .cp j (o + off) := by
  rintro E rv fp f H R z ⟨⟩
  obtain ⟨l, id, e, hv⟩ := ha E rv fp f H R
  exact ⟨.ptr id (o + off), none, by simp only [aop, hv, shift, val, Option.map_some], rfl, l, id, e, rfl⟩
theorem cells_of {E : Env} {rv : Nat → AV} {fp : Fp} {f : Fr} {H : Heap} (R : RelI E Γ rv fp f H) {j : Nat} {ps : List (Nat × Fact)} (hj : findS Γ.ss j = some (.cells ps)) {id : Nat} (e : rv j = .ptr id 0) :
    ∃ cs, (∀ i, fp j i ↔ i = id) ∧ cellsAt H id = some cs ∧ PR rv Γ.ss (Pf E Γ.ss fp H) H ps cs := by
  obtain ⟨id', cs, h1, h0, h2, h3⟩ := R.slots j _ hj
  rw [e] at h1; cases h1
  exact ⟨cs, h0, h2, h3⟩
/-- a field of a variable -/
theorem h_ldC {t u : T} {x : t.α} {j o o' n N : Nat} {ag : Bool} {ps : List (Nat × Fact)} (ha : OpF tb Γ a (.cp j o)) (hj : findS Γ.ss j = some (.cells ps)) (hp : findP ps o = some (N, .val t x, o')) (F : Fld t u o') (hag : ag = u.agg) (hn : n = u.sz) :
    OpH tb Γ (.ld ag n a) (some ()) fun _ => .val u (F.get x) := by
  rintro E rv fp f H R z ⟨⟩
  obtain ⟨l, id, e, hv⟩ := ha E rv fp f H R
  obtain ⟨cs, h0, h2, h3⟩ := cells_of R hj e
  obtain ⟨b', c, e0, e1, e2, e3, e4, e5, _⟩ := findP_spec h3 hp
  have hle := F.le
  have hl := t.len e4
  have hr := F.getR e4
  rw [← e5 o' u.sz (by omega), ← e1] at hr
  obtain ⟨v, g1, g2⟩ := T.V.of hr
  subst hag hn
  exact ⟨v, none, by simp only [aop, hv, Am.load, place, h2, Option.map_some, Option.bind_some, if_pos (show o + u.sz ≤ cs.length by omega), g1, val], rfl, g2⟩
def isRef : Fact → Bool
  | .own _ => true
  | .cp _ _ => true
  | .ep _ _ _ => true
  | .rp _ _ => true
  | .oc _ _ _ _ => true
  | .con _ => true
  | .fnv _ _ _ => true
  | .kv _ => true
  | _ => false
theorem isRef_one {φ : Fact} (h : isRef φ = true) {rv : Nat → AV} {ss : Ss} {P : Nat → Prop} {H : Heap} {c : List AV} : FC rv ss P H φ c ↔ ∃ v, c = [v] ∧ FR rv ss P H φ v := by
  cases φ <;> simp only [isRef, Bool.false_eq_true] at h <;> exact Iff.rfl
theorem h_ldCr {φ : Fact} {j o N : Nat} {ps : List (Nat × Fact)} (ha : OpF tb Γ a (.cp j o)) (hj : findS Γ.ss j = some (.cells ps)) (hp : findP ps o = some (N, φ, 0)) (hφ : isRef φ = true) :
    OpH tb Γ (.ld false 1 a) (some ()) fun _ => φ := by
  rintro E rv fp f H R z ⟨⟩
  obtain ⟨l, id, e, hv⟩ := ha E rv fp f H R
  obtain ⟨cs, h0, h2, h3⟩ := cells_of R hj e
  obtain ⟨b', c, e0, e1, e2, e3, e4, e5, _⟩ := findP_spec h3 hp
  obtain ⟨v, rfl, hr⟩ := (isRef_one hφ).1 e4
  have hs := e5 0 1 (by simp)
  rw [Nat.add_zero] at e1 hs
  subst e1
  simp only [List.length_cons, List.length_nil] at e3
  exact ⟨v, none, by simp only [aop, hv, Am.load, place, h2, Option.map_some, Option.bind_some, if_pos (show o + 1 ≤ cs.length by omega), hs, val]; rfl, rfl, hr⟩

theorem splice_len {cs d : List AV} {o : Nat} (h : o + d.length ≤ cs.length) : (splice cs o d).length = cs.length := by
  simp only [splice, List.length_append, List.length_take, List.length_drop]; omega
theorem mentL_splice {cs d : List AV} {o m : Nat} (h : mentL cs ≤ m) (g : mentL d ≤ m) : mentL (splice cs o d) ≤ m := by
  simp only [splice, mentL_append]
  have := mentL_take0 cs o
  have := mentL_drop0 cs (o + d.length)
  omega
/-- what is stored into a variable: any of its parts -/
theorem M_st {φ ψ : Fact} {j o o' n N : Nat} {ps : List (Nat × Fact)} (ha : OpF tb Γ a (.cp j o)) (hj : findS Γ.ss j = some (.cells ps)) (hp : findP ps o = some (N, φ, o'))
    (hb : ∀ E rv fp f H, RelI E Γ rv fp f H → ∀ c, FC rv Γ.ss (Pf E Γ.ss fp H) H φ c → c.length = N → o' < c.length → (cellsOf (eval tb f b)).length = n ∧ o' + n ≤ c.length ∧ mentL (cellsOf (eval tb f b)) ≤ H.length ∧ FC rv Γ.ss (Pf E Γ.ss fp H) H ψ (splice c o' (cellsOf (eval tb f b)))) :
    OpM tb Γ none (.st n a b) (some ()) fun _ => Γ.setS j (.cells (putP ps o ψ)) := by
  rintro E rv fp f H R z ⟨⟩
  obtain ⟨l, id, e, hv⟩ := ha E rv fp f H R
  obtain ⟨cs, h0, h2, h3⟩ := cells_of R hj e
  obtain ⟨b', c, e0, e1, e2, e3, e4, e5, e6⟩ := findP_spec h3 hp
  obtain ⟨g1, g2, g3, g4⟩ := hb E rv fp f H R c e4 e0 e2
  have hpr := e6 o' _ ψ (by omega) g4
  rw [← e1] at hpr
  have hmen := PR.men R.ltP R.rvlt h3
  have hlt := (R.fplt j id l ((h0 id).2 rfl)).1
  have hv0 := R.rvlt j l
  obtain ⟨rv', fp', _, _, R'⟩ := R.set (j := j) (S := .cells (putP ps o ψ)) (v := rv j) (o := .cells (labAt H id) (splice cs o (cellsOf (eval tb f b)))) (by rw [hj]; rfl) l h0 (by simp only [mentO]; exact mentL_splice hmen g3) rfl hv0 (.inl rfl) (R.scal j l) fun rv' fp' e1 e2 hP hs =>
    ⟨id, _, by rw [e1, e], e2, by simp [cellsAt, hlt], PR.mono hP (by simp) (fun p _ => hs p.2 (.inl rfl)) hpr⟩
  refine ⟨.junk, some (H.set id (AObj.cells (labAt H id) (splice cs o (cellsOf (eval tb f b))))), ?_, rv', fp', R'⟩
  simp only [aop, hv, store, h2, Option.bind_some]
  rw [if_pos ⟨g1, by omega⟩]
  rfl
/-- a field -/
theorem M_stC {t u : T} {x : t.α} {y : u.α} {j o o' n N : Nat} {ps : List (Nat × Fact)} (ha : OpF tb Γ a (.cp j o)) (hb : OpF tb Γ b (.val u y)) (hj : findS Γ.ss j = some (.cells ps)) (hp : findP ps o = some (N, .val t x, o')) (F : Fld t u o') (hn : n = u.sz) :
    OpM tb Γ none (.st n a b) (some (F.put x y)) fun z => Γ.setS j (.cells (putP ps o (.val t z))) := by
  have := M_st (n := n) (ψ := .val t (F.put x y)) ha hj hp (b := b) fun E rv fp f H R c hc _ _ => by
    have hv := T.V.cells (hb E rv fp f H R)
    have hle := F.le
    have h1 := u.len hv
    have h2 := t.len hc
    exact ⟨by rw [h1, hn], by omega, u.men hv R.ltP, F.putR hc hv⟩
  intro E rv fp f H R z hz
  cases hz
  exact this E rv fp f H R () rfl
/-- .. a value of one cell -/
theorem M_stV {φ : Fact} {u : T} {y : u.α} {j o : Nat} {ps : List (Nat × Fact)} (hu : u.sz = 1) (ha : OpF tb Γ a (.cp j o)) (hb : OpF tb Γ b (.val u y)) (hj : findS Γ.ss j = some (.cells ps)) (hp : findP ps o = some (1, φ, 0)) :
    OpM tb Γ none (.st 1 a b) (some ()) fun _ => Γ.setS j (.cells (putP ps o (.val u y))) :=
  M_st ha hj hp fun E rv fp f H R c hc hN _ => by
    have hv := T.V.cells (hb E rv fp f H R)
    have h1 := u.len hv
    refine ⟨by rw [h1, hu], by omega, u.men hv R.ltP, ?_⟩
    match c, hN with
    | [w], _ =>
      have : splice [w] 0 (cellsOf (eval tb f b)) = cellsOf (eval tb f b) := by simp [splice, List.drop_eq_nil_of_le (show [w].length ≤ (cellsOf (eval tb f b)).length by simp; omega)]
      rw [this]; exact hv

theorem M_alloc {t : T} {d t0 : Nat} {z : List AV} (j : Nat) (hz : z = t.zc) (hj : findS Γ.ss j = none) : OpM tb Γ (some d) (.alloc t0 z) (some t.z) fun z => ⟨(d, .cp j 0) :: Γ.ts, (j, .cells [(t.sz, .val t z)]) :: Γ.ss⟩ := by
  intro E rv fp f H R _ hz0
  cases hz0
  subst hz
  have hzm : mentL t.zc ≤ 0 := t.men (t.hz (fun _ => False) []) (fun _ h => h.elim)
  obtain ⟨rv', fp', h1, h2, h3⟩ := R.more (j := j) (S := .cells [(t.sz, .val t t.z)]) (v := .ptr H.length 0) (o := .cells (some t0) t.zc) (live_none hj) (by simp only [mentO]; omega) rfl (by simp [ment]) rfl fun rv' fp' e1 e2 hP hs =>
    ⟨_, t.zc, e1, e2, by simp [cellsAt], t.zc, [], (List.append_nil _).symm, t.len (t.hz (fun _ => False) []), t.hz _ _, rfl⟩
  exact ⟨_, _, rfl, rv', fp', h3.push (φ := .cp j 0) ⟨h2, _, h1, rfl⟩⟩
theorem M_box {t : T} {x : t.α} {d n t0 : Nat} (j : Nat) (hn : n = t.sz) (hj : findS Γ.ss j = none) (ha : OpF tb Γ a (.val t x)) : OpM tb Γ (some d) (.box t0 n a) (some ()) fun _ => ⟨(d, .cp j 0) :: Γ.ts, (j, .cells [(t.sz, .val t x)]) :: Γ.ss⟩ := by
  rintro E rv fp f H R _ ⟨⟩
  have hv := T.V.cells (ha E rv fp f H R)
  have hl := t.len hv
  have hm := t.men hv R.ltP
  obtain ⟨rv', fp', h1, h2, h3⟩ := R.more (j := j) (S := .cells [(t.sz, .val t x)]) (v := .ptr H.length 0) (o := .cells (some t0) (cellsOf (eval tb f a))) (live_none hj) (by simp only [mentO]; omega) rfl (by simp [ment]) rfl fun rv' fp' e1 e2 hP hs =>
    ⟨_, cellsOf (eval tb f a), e1, e2, by simp [cellsAt], cellsOf (eval tb f a), [], (List.append_nil _).symm, hl, t.mono hP hv, rfl⟩
  refine ⟨.ptr H.length 0, some (H ++ [AObj.cells (some t0) (cellsOf (eval tb f a))]), by simp only [aop]; rw [if_pos (by rw [hl, hn])], rv', fp', h3.push (φ := .cp j 0) ⟨h2, _, h1, rfl⟩⟩

/-! slices that grow -/
def appG {α : Type} : GS α → List α → GS α
  | .nil, [] => .nil
  | .nil, l => .mk l
  | .mk a, l => .mk (a ++ l)
/-- a slot without memory -/
theorem RelI.moreNil {E : Env} {rv : Nat → AV} {fp : Fp} {f : Fr} {H : Heap} (R : RelI E Γ rv fp f H) {j : Nat} (t : T) (hj : ¬ live Γ.ss j) : ∃ rv' fp', rv' j = .nils ∧ live ((j, .row t .nil) :: Γ.ss) j ∧ RelI E ⟨Γ.ts, (j, .row t .nil) :: Γ.ss⟩ rv' fp' f H :=
  R.chg (F := fun _ => False) (v := .nils) (G := H) (by
      cases e : keepO (findS Γ.ss j) with
      | false => rfl
      | true => exact absurd (keep_live e) hj) rfl (Nat.le_refl _) (fun _ _ _ => rfl) (fun _ h => h.elim) (fun l => absurd l hj) R.wf (by simp [ment]) (.inr rfl) fun rv' fp' e1 e2 _ _ => ⟨e1, fun i h => by rw [e2] at h; exact h⟩
/-- an empty slice that will grow -/
theorem born {t : T} {n j : Nat} (hj : findS Γ.ss j = none) (ha : findT Γ.ts n = some (.val (T.sl t) .nil)) : ∀ E f H, Rel E Γ f H → Rel E ⟨(n, .own j) :: Γ.ts, (j, .row t .nil) :: Γ.ss⟩ f H := by
  rintro E f H ⟨rv, fp, R⟩
  obtain ⟨rv', fp', h1, h2, I⟩ := R.moreNil t (live_none hj)
  have hv : get f n = .nils := T.sl_V.1 (R.temps n _ ha)
  refine ⟨rv', fp', I.le, I.base, I.wf, I.fplt, I.rvlt, I.scal, I.inj, I.slots, fun u φ e => ?_, I.gh⟩
  simp only [findT] at e
  split at e
  · rename_i hu
    cases e
    subst hu
    exact ⟨h2, by rw [h1, hv]⟩
  · exact I.temps u φ e
/-- the same of a part of a variable -/
theorem bornP {t : T} {i o j N : Nat} {ps : List (Nat × Fact)} (hj : findS Γ.ss j = none) (hij : Nat.beq i j = false) (hi : findS Γ.ss i = some (.cells ps)) (hp : findP ps o = some (N, .val (T.sl t) .nil, 0)) :
    ∀ E f H, Rel E Γ f H → Rel E ⟨Γ.ts, (i, .cells (putP ps o (.own j))) :: (j, .row t .nil) :: Γ.ss⟩ f H := by
  rintro E f H ⟨rv, fp, R⟩
  obtain ⟨rv', fp', h1, h2, I⟩ := R.moreNil t (live_none hj)
  have hne : i ≠ j := by rintro rfl; simp [Nat.beq_refl] at hij
  have hi' : findS ((j, .row t .nil) :: Γ.ss) i = some (.cells ps) := by simp only [findS, if_neg (Ne.symm hne)]; exact hi
  obtain ⟨id, cs, e1, e0, e2, e3⟩ := I.slots i _ hi'
  obtain ⟨b', c, g0, g1, g2, g3, g4, g5, g6⟩ := findP_spec e3 hp
  obtain ⟨v, rfl, hv⟩ := g4
  have hv' : v = .nils := hv
  subst hv'
  have hs : splice [.nils] 0 [.nils] = ([.nils] : List AV) := rfl
  have hpr := g6 0 [.nils] (.own j) (by simp) (by rw [hs]; exact ⟨_, rfl, h2, h1.symm⟩)
  have hsame : splice cs (b' + 0) [.nils] = cs := by
    have h := g5 0 1 (by simp)
    simp only [Nat.add_zero, sub, List.drop_zero, List.take_succ_cons, List.take_zero] at h ⊢
    simp only [List.length_cons, List.length_nil] at g3
    simp only [splice, List.length_cons, List.length_nil]
    rw [← h, List.append_assoc, ← List.drop_drop, List.take_append_drop, List.take_append_drop]
  rw [hsame] at hpr
  have hli : live ((j, .row t .nil) :: Γ.ss) i := live_of hi' rfl
  obtain ⟨rv2, fp2, _, _, I2⟩ := I.chg (j := i) (S := .cells (putP ps o (.own j))) (v := rv' i) (F := fp' i) (G := H) (by rw [hi']; rfl) rfl (Nat.le_refl _) (fun _ _ _ => rfl) (fun _ h => .inl ⟨hli, h⟩) (fun _ => .inl rfl) I.wf (I.rvlt i hli) (.inr ((I.scal i hli).resolve_left (by rw [hi']; simp [keepO]))) fun rv2 fp2 f1 f2 hP hs =>
    ⟨id, cs, by rw [f1]; exact e1, by rw [f2]; exact e0, e2, hpr.mono hP (Nat.le_refl _) fun p _ => hs p.2 fun _ => .inl rfl⟩
  exact ⟨rv2, fp2, I2⟩
end
end Go.Proofs.YtobejhpigbllpaaGreatDoor.Am
