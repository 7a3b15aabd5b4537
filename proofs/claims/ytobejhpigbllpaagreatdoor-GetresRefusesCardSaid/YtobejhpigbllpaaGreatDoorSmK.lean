/-
  What operations come to, on typed values: calls, equality, arrays.
-/
import Derived.Test.YtobejhpigbllpaaGreatDoorSmJ
import Derived.Test.YtobejhpigbllpaaGreatDoorAmV
namespace Go.Proofs.YtobejhpigbllpaaGreatDoor.Am

section
variable {tb : Tab} {Γ : Cx} {a b : AO}

/-! calls -/
inductive ArgL (tb : Tab) (Γ : Cx) : (As : List T) → List AO → Res As → Prop where
  | nil : ArgL tb Γ [] [] ()
  | one {a : AO} {t : T} {x : t.α} (h : OpF tb Γ a (.val t x)) : ArgL tb Γ [t] [a] x
  | cons {a : AO} {t u : T} {x : t.α} {As : List T} {l : List AO} {y : Res (u :: As)} (h : OpF tb Γ a (.val t x)) (k : ArgL tb Γ (u :: As) l y) : ArgL tb Γ (t :: u :: As) (a :: l) (x, y)
theorem ArgL.spec {E : Env} {rv : Nat → AV} {fp : Fp} {f : Fr} {H : Heap} (R : RelI E Γ rv fp f H) : ∀ {As : List T} {l : List AO} {x : Res As}, ArgL tb Γ As l x → VsR (Pf E Γ.ss fp H) H As (l.map (eval tb f)) x
  | _, _, _, .nil => rfl
  | _, _, _, .one h => ⟨_, rfl, h E rv fp f H R⟩
  | _, _, _, .cons h k => ⟨_, _, rfl, h E rv fp f H R, k.spec R⟩
def tupL : (Rs : List T) → Res Rs → List (Σ t : T, t.α)
  | [], _ => []
  | [a], x => [⟨a, x⟩]
  | a :: b :: r, x => ⟨a, x.1⟩ :: tupL (b :: r) x.2
theorem tupL_rel {P : Nat → Prop} {H : Heap} : ∀ {Rs : List T} {vs : List AV} {x : Res Rs}, VsR P H Rs vs x → TupR P H vs (tupL Rs x)
  | [], _, _, h => by rw [show _ = [] from h]; trivial
  | [a], _, _, ⟨v, e, h⟩ => by rw [e]; exact ⟨h, trivial⟩
  | a :: b :: r, _, _, ⟨v, q, e, h, g⟩ => by rw [e]; exact ⟨h, tupL_rel g⟩
def outF : (Rs : List T) → Res Rs → Fact
  | [a], x => .val a x
  | Rs, x => .tup (tupL Rs x)
theorem outF_rel {rv : Nat → AV} {ss : Ss} {P : Nat → Prop} {H : Heap} {v : AV} : ∀ {Rs : List T} {x : Res Rs}, OutR P H Rs v x → FR rv ss P H (outF Rs x) v
  | [], _, ⟨vs, e, h⟩ => by rw [e, show vs = [] from h]; exact ⟨[], rfl, trivial⟩
  | [a], _, ⟨vs, e, v, e', h⟩ => by rw [e, e']; exact h
  | a :: b :: r, _, ⟨vs, e, h⟩ => by
    have hh := h
    obtain ⟨v1, q, e1, h1, h2⟩ := h
    have : ∃ v2 q2, q = v2 :: q2 := by
      cases r with
      | nil => obtain ⟨v2, e2, _⟩ := h2; exact ⟨v2, [], e2⟩
      | cons c r => obtain ⟨v2, q2, e2, _⟩ := h2; exact ⟨v2, q2, e2⟩
    obtain ⟨v2, q2, e2⟩ := this
    refine ⟨vs, ?_, tupL_rel hh⟩
    rw [e, e1, e2]; rfl
theorem h_call {g : Nat} {As Rs : List T} {F : Res As → Option (Res Rs)} {l : List AO} {x : Res As} (sp : Spec tb g As Rs F) (hx : ArgL tb Γ As l x) : OpH tb Γ (.call g l) (F x) fun r => outF Rs r := by
  intro E rv fp f H R r hr
  obtain ⟨v, u, h1, h2, h3⟩ := (sp (Pf E Γ.ss fp H) H _ x R.ltP R.wf (hx.spec R) r hr).call
  exact ⟨v, u, by simp only [aop]; exact h1, h2, outF_rel h3⟩
theorem h_call1 {g : Nat} {As : List T} {t : T} {F : Res As → Option (Res [t])} {l : List AO} {x : Res As} (sp : Spec tb g As [t] F) (hx : ArgL tb Γ As l x) : OpH tb Γ (.call g l) (F x) fun r : t.α => .val t r := h_call sp hx
theorem h_callN {g : Nat} {As : List T} {t u : T} {Rs : List T} {F : Res As → Option (Res (t :: u :: Rs))} {l : List AO} {x : Res As} (sp : Spec tb g As (t :: u :: Rs) F) (hx : ArgL tb Γ As l x) : OpH tb Γ (.call g l) (F x) fun r => .tup (tupL (t :: u :: Rs) r) := h_call sp hx
theorem h_ext {l : List (Σ t : T, t.α)} {i : Nat} {t : T} {x : t.α} (ha : OpF tb Γ a (.tup l)) (h : l[i]? = some ⟨t, x⟩) : OpH tb Γ (.ext a i) (some ()) fun _ => .val t x := by
  rintro E rv fp f H R _ ⟨⟩
  obtain ⟨vs, e, hv⟩ := ha E rv fp f H R
  have : ∀ {vs : List AV} {l : List (Σ t : T, t.α)} {i : Nat} {p : Σ t : T, t.α}, TupR (Pf E Γ.ss fp H) H vs l → l[i]? = some p → ∃ v, vs[i]? = some v ∧ p.1.V (Pf E Γ.ss fp H) H v p.2 := by
    intro vs
    induction vs with
    | nil => intro l i p h e; cases l with | nil => simp at e | cons => exact h.elim
    | cons v vs ih =>
      intro l i p h e
      cases l with
      | nil => exact h.elim
      | cons q l =>
        cases i with
        | zero => simp only [List.getElem?_cons_zero, Option.some.injEq] at e; subst e; exact ⟨v, rfl, h.1⟩
        | succ i => simp only [List.getElem?_cons_succ] at e; obtain ⟨w, h1, h2⟩ := ih h.2 e; exact ⟨w, by simpa using h1, h2⟩
  obtain ⟨v, h1, h2⟩ := this hv h
  exact ⟨v, none, by simp only [aop, e, h1, val, Option.map_some], rfl, h2⟩

end

/-! equality -/
structure CmpC (t : T) (l : List CK) where
  d : (x y : t.α) → Decidable (x = y)
  h : ∀ {P Q : Nat → Prop} {H G : Heap} {c c' : List AV} {x y : t.α}, t.R P H c x → t.R Q G c' y → eqS l c c' = some (@decide (x = y) (d x y))
theorem eqS_app {l m : List CK} : ∀ {c d c' d' : List AV} {p q : Bool}, eqS l c c' = some p → eqS m d d' = some q → eqS (l ++ m) (c ++ d) (c' ++ d') = some (p && q) := by
  induction l with
  | nil =>
    intro c d c' d' p q h g
    match c, c', h with
    | [], [], h => simp only [eqS, Option.some.injEq] at h; subst h; simpa using g
  | cons k l ih =>
    intro c d c' d' p q h g
    match c, c', h with
    | [], [], h => simp [eqS] at h
    | [], _ :: _, h => simp [eqS] at h
    | _ :: _, [], h => simp [eqS] at h
    | x :: c, y :: c', h =>
      simp only [eqS] at h
      obtain ⟨e, he, h⟩ := Option.bind_eq_some_iff.1 h
      obtain ⟨e', he', rfl⟩ := Option.map_eq_some_iff.1 h
      simp only [List.cons_append, eqS, he, Option.bind_some, ih he' g, Option.map_some, Bool.and_assoc]
theorem dec_iff {p q : Prop} {d : Decidable p} {e : Decidable q} (h : p ↔ q) : @decide p d = @decide q e := by
  rw [Bool.eq_iff_iff]; simp only [decide_eq_true_eq]; exact h
theorem dec_of {p : Prop} {d : Decidable p} {q : Bool} (h : q = true ↔ p) : q = @decide p d := by
  rw [Bool.eq_iff_iff]; simp only [decide_eq_true_eq]; exact h
def CmpC.sc {α : Type} {c : α → AV} {z : α} {hs : ∀ x, scal (c x) = true} {hm : ∀ x, ment (c x) = 0} (k : CK) (d : (x y : α) → Decidable (x = y)) (h : ∀ x y, eq1 k (c x) (c y) = some (@decide (x = y) (d x y))) : CmpC (T.sc α c z hs hm) [k] :=
  ⟨d, fun {P Q H G c' d' x y} h1 h2 => by
    rw [show c' = _ from h1, show d' = _ from h2]
    show (eq1 k (c x) (c y)).bind (fun a => (some true).map fun b => a && b) = _
    rw [h x y]
    simp only [Option.bind_some, Option.map_some, Bool.and_true]
    rfl⟩
def CmpC.b : CmpC T.b [.b] := CmpC.sc .b (fun x y => inferInstance) fun x y => by cases x <;> cases y <;> rfl
def CmpC.int (k : IntKind) : CmpC (T.int k) [.i k] := CmpC.sc (.i k) (fun x y => inferInstance) fun x y => by simp only [eq1, and_self, if_true]; rfl
def CmpC.str : CmpC T.str [.s] := CmpC.sc .s (fun x y => inferInstance) fun x y => by simp only [eq1]; congr 1; rw [Bool.eq_iff_iff]; simp
theorem eq_nat {x y : Nat} : ((x : Int) == (y : Int)) = decide (x = y) := by
  rw [Bool.eq_iff_iff]; simp only [beq_iff_eq, decide_eq_true_eq]; omega
def CmpC.u8 : CmpC T.u8 [.i .u8] := CmpC.sc (.i .u8) (fun x y => inferInstance) fun x y => by
  simp only [eq1, and_self, if_true, eq_nat]; congr 1; exact dec_iff UInt8.toNat_inj
def CmpC.u16 : CmpC T.u16 [.i .u16] := CmpC.sc (.i .u16) (fun x y => inferInstance) fun x y => by
  simp only [eq1, and_self, if_true, eq_nat]; congr 1; exact dec_iff UInt16.toNat_inj
def CmpC.u32 : CmpC T.u32 [.i .u32] := CmpC.sc (.i .u32) (fun x y => inferInstance) fun x y => by
  simp only [eq1, and_self, if_true, eq_nat]; congr 1; exact dec_iff UInt32.toNat_inj
def CmpC.u64 : CmpC T.u64 [.i .u64] := CmpC.sc (.i .u64) (fun x y => inferInstance) fun x y => by
  simp only [eq1, and_self, if_true, eq_nat]; congr 1; exact dec_iff UInt64.toNat_inj
def CmpC.prod {s t : T} {l m : List CK} (p : CmpC s l) (q : CmpC t m) : CmpC (T.prod s t) (l ++ m) :=
  ⟨fun x y => @decidable_of_iff _ (x.1 = y.1 ∧ x.2 = y.2) ⟨fun h => Prod.ext h.1 h.2, fun h => by rw [h]; exact ⟨rfl, rfl⟩⟩ (have := p.d x.1 y.1; have := q.d x.2 y.2; inferInstance), fun {P Q H G c c' x y} ⟨c1, d1, e1, h1, g1⟩ ⟨c2, d2, e2, h2, g2⟩ => by
    rw [e1, e2, eqS_app (p.h h1 h2) (q.h g1 g2)]
    congr 1
    rw [Bool.eq_iff_iff]
    simp only [Bool.and_eq_true, decide_eq_true_eq]
    exact ⟨fun h => Prod.ext h.1 h.2, fun h => by rw [h]; exact ⟨rfl, rfl⟩⟩⟩
def CmpC.iso {t : T} {l : List CK} {β : Type} {f : β → t.α} {g : t.α → β} {hfg : ∀ y, f (g y) = y} (p : CmpC t l) (d : (x y : β) → Decidable (x = y)) (hi : ∀ x y, f x = f y → x = y) : CmpC (T.iso t β f g hfg) l :=
  ⟨d, fun {P Q H G c c' x y} h1 h2 => by
    have := p.h (x := f x) (y := f y) h1 h2
    rw [this]
    congr 1
    exact dec_iff ⟨hi x y, fun h => by rw [h]⟩⟩
def repK (l : List CK) : Nat → List CK
  | 0 => []
  | n + 1 => l ++ repK l n
theorem CmpC.all {t : T} {l : List CK} (p : CmpC t l) {P Q : Nat → Prop} {H G : Heap} : ∀ {c c' : List (List AV)} {x y : List t.α}, x.length = y.length → AllR t P H c x → AllR t Q G c' y → ∃ q, eqS (repK l x.length) c.flatten c'.flatten = some q ∧ (q = true ↔ x = y) := by
  intro c
  induction c with
  | nil =>
    intro c' x y hl h1 h2
    match x, h1 with
    | [], _ =>
      match c', y, h2, hl with
      | [], [], _, _ => exact ⟨true, rfl, by simp⟩
      | _ :: _, _ :: _, _, hl => simp at hl
  | cons a c ih =>
    intro c' x y hl h1 h2
    match x, h1 with
    | u :: x, h1 =>
      match c', y, h2 with
      | [], [], _ => simp at hl
      | a' :: c', v :: y, h2 =>
        obtain ⟨q, e, hq⟩ := ih (by simpa using hl) h1.2 h2.2
        refine ⟨_, by rw [List.length_cons, repK, List.flatten_cons, List.flatten_cons]; exact eqS_app (p.h h1.1 h2.1) e, ?_⟩
        simp only [Bool.and_eq_true, decide_eq_true_eq, hq, List.cons.injEq]
def CmpC.arr {t : T} {l : List CK} (n : Nat) (p : CmpC t l) : CmpC (T.arr n t) (repK l n) :=
  ⟨fun (x y : Ar t.α n) => @decidable_of_iff _ (x.l = y.l) ⟨fun h => Ar.ext h, fun h => by rw [h]⟩ (have : DecidableEq t.α := p.d; inferInstance), fun {P Q H G c c' x y} ⟨cs, e, h⟩ ⟨ds, e', h'⟩ => by
    obtain ⟨q, hq, hi⟩ := p.all (x.len.trans y.len.symm) h h'
    rw [x.len] at hq
    rw [e, e', hq]
    congr 1
    exact dec_of (hi.trans ⟨fun h => Ar.ext h, fun h => by rw [h]⟩)⟩

section
variable {tb : Tab} {Γ : Cx} {a b : AO}
theorem h_eq {t : T} {l l' : List CK} {x y : t.α} {neg : Bool} (p : CmpC t l) (ht : t.agg = true) (hl : l' = l) (ha : OpF tb Γ a (.val t x)) (hb : OpF tb Γ b (.val t y)) : OpH tb Γ (.eq neg (.agg l') a b) (some (if neg then !(@decide (x = y) (p.d x y)) else @decide (x = y) (p.d x y))) fun z => .val T.b z := by
  rintro E rv fp f H R z ⟨⟩
  subst hl
  rcases ha E rv fp f H R with ⟨_, c, e, r⟩ | ⟨e, _⟩
  · rcases hb E rv fp f H R with ⟨_, c', e', r'⟩ | ⟨e', _⟩
    · exact ⟨_, none, by simp only [aop, e, e', eqK, p.h r r', Option.map_some, val], rfl, T.b_V.2 rfl⟩
    · rw [ht] at e'; cases e'
  · rw [ht] at e; cases e
theorem h_eqb {x y : Bool} {neg : Bool} (ha : OpF tb Γ a (.val T.b x)) (hb : OpF tb Γ b (.val T.b y)) : OpH tb Γ (.eq neg (.one .b) a b) (some (if neg then !decide (x = y) else decide (x = y))) fun z => .val T.b z := by
  rintro E rv fp f H R z ⟨⟩
  have h : eq1 .b (.b x) (.b y) = some (decide (x = y)) := by cases x <;> cases y <;> rfl
  exact ⟨_, none, by simp only [aop, T.b_V.1 (ha E rv fp f H R), T.b_V.1 (hb E rv fp f H R), eqK, h, Option.map_some, val], rfl, T.b_V.2 rfl⟩

/-! an element of an array is stored -/
theorem M_stA {s t : T} {x : s.α} {y : t.α} {n j o o' m k N : Nat} {ps : List (Nat × Fact)} (F : Fld s (T.arr n t) o') (hk : k = t.sz) (ha : OpF tb Γ a (.cp j (o + m * t.sz))) (hb : OpF tb Γ b (.val t y)) (hj : findS Γ.ss j = some (.cells ps)) (hp : findP ps o = some (N, .val s x, o')) :
    OpM tb Γ none (.st k a b) (if m < n then some (F.put x ((F.get x).set m y)) else none) fun x' => Γ.setS j (.cells (putP ps o (.val s x'))) := by
  intro E rv fp f H R x' hx'
  split at hx'
  · rename_i hlt
    cases hx'
    obtain ⟨l, id, e, hv⟩ := ha E rv fp f H R
    obtain ⟨cs, h0, h2, h3⟩ := cells_of R hj e
    obtain ⟨b', c, e0, e1, e2, e3, e4, e5, e6⟩ := findP_spec h3 hp
    let G := Fld.comp F (Fld.at n t m hlt)
    have hle := G.le
    have hl := s.len e4
    have hy := T.V.cells (hb E rv fp f H R)
    have hyl := t.len hy
    have hput := G.putR e4 hy
    have hpr := e6 (o' + m * t.sz) (cellsOf (eval tb f b)) (.val s (G.put x y)) (by omega) hput
    rw [show b' + (o' + m * t.sz) = o + m * t.sz by omega] at hpr
    have hmen := PR.men R.ltP R.rvlt h3
    have hym := t.men hy R.ltP
    subst hk
    have hlt' := (R.fplt j id l ((h0 id).2 rfl)).1
    obtain ⟨rv', fp', _, _, R'⟩ := R.set (j := j) (S := .cells (putP ps o (.val s (G.put x y)))) (v := rv j) (o := .cells (labAt H id) (splice cs (o + m * t.sz) (cellsOf (eval tb f b)))) (by rw [hj]; rfl) l h0 (by simp only [mentO]; exact mentL_splice hmen hym) rfl (R.rvlt j l) (.inl rfl) (R.scal j l) fun rv' fp' e1 e2 hP hs =>
      ⟨id, _, by rw [e1, e], e2, by simp [cellsAt, hlt'], PR.mono hP (by simp) (fun p _ => hs p.2 (.inl rfl)) hpr⟩
    refine ⟨.junk, some (H.set id (AObj.cells (labAt H id) (splice cs (o + m * t.sz) (cellsOf (eval tb f b))))), ?_, rv', fp', R'⟩
    simp only [aop, hv, store, h2, Option.bind_some]
    rw [if_pos ⟨hyl, by omega⟩]
    rfl
  · cases hx'

/-- a result that is a variable -/
theorem res_c {s t : T} {x : s.α} {n j o o' N m : Nat} {ag : Bool} {ps : List (Nat × Fact)} (h : findT Γ.ts n = some (.cp j o)) (hj : findS Γ.ss j = some (.cells ps)) (hp : findP ps o = some (N, .val s x, o')) (F : Fld s t o') (hag : ag = t.agg) (hm : m = t.sz) : ResF Γ (.cell ag m n) t (F.get x) := by
  intro E rv fp f H R r vs hr
  obtain ⟨v, u, h1, _, h3⟩ := h_ldC (tb := ⟨fun _ => none, fun _ => none, fun _ => none⟩) (o_t h) hj hp F hag hm E rv fp f H R () rfl
  refine ⟨v, ?_, h3⟩
  simp only [aop, eval, val] at h1
  obtain ⟨w, hw, e⟩ := Option.map_eq_some_iff.1 h1
  cases e
  simp only [results, hw, Option.bind_some, hr, Option.map_some]

/-- a literal that may still grow -/
theorem M_bls {t : T} {zero : List (List AV)} {d t0 sz n : Nat} {ps : List (Nat × AO)} {l : List t.α} (j : Nat) (hs : sz = t.sz) (hz : zero = List.replicate n t.zc) (h : BllL tb Γ t ps (List.replicate n t.z) l) (hj : findS Γ.ss j = none) :
    OpM tb Γ (some d) (.bls t0 sz zero ps) (some l) fun l => ⟨(d, .own j) :: Γ.ts, (j, .row t (.mk l)) :: Γ.ss⟩ := by
  intro E rv fp f H R l' hl'
  cases hl'
  subst hz hs
  obtain ⟨ds, h1, h2⟩ := h.spec R (AllR.rep (t.hz _ _) n)
  have hm := h2.men R.ltP
  obtain ⟨rv', fp', g1, g2, g3⟩ := R.more (j := j) (S := .row t (.mk l)) (v := .orow H.length ds.length 0 ds.length) (o := .row (some t0) false t.sz ds) (live_none hj) (by simp only [mentO]; omega) rfl (by simp [ment]) rfl fun rv' fp' e1 e2 hP hs =>
    ⟨_, ds, e1, e2, by simp [rowAt], h2.mono hP⟩
  exact ⟨.orow H.length ds.length 0 ds.length, some (H ++ [AObj.row (some t0) false t.sz ds]), by simp only [aop, h1, Option.map_some], rv', fp', g3.push (φ := .own j) ⟨g2, g1.symm⟩⟩
end

/-! tables -/
def look {α : Type} (n : Nat) : List (Nat × α) → Option α
  | [] => none
  | (k, v) :: r => if Nat.beq n k then some v else look n r

theorem look_mem {α : Type} {n : Nat} {v : α} : ∀ {l : List (Nat × α)}, look n l = some v → (n, v) ∈ l
  | [], h => by simp [look] at h
  | (k, u) :: r, h => by
    simp only [look] at h
    split at h
    · rename_i e
      obtain rfl := Option.some.inj h
      obtain rfl := Nat.eq_of_beq_eq_true e
      exact List.mem_cons_self
    · exact List.mem_cons_of_mem _ (look_mem h)

/-! entries of the model's -/
theorem Spec.byteS {tb : Tab} {g : Nat} {f : List UInt8 → UInt8 → Int} (hp : tb.prim g = some (pByte f)) : Spec tb g [T.str, T.u8] [T.int .i64] fun a => some (f a.1 a.2) := by
  rintro P h args ⟨x, y⟩ _ _ ⟨v, q, rfl, h1, w, rfl, h2⟩ r hr
  cases hr
  refine ⟨_, none, ?_, rfl, [.i .i64 (f x y)], rfl, _, rfl, T.int_V.2 rfl⟩
  have hy : ∀ z : UInt8, UInt8.ofNat ((z.toNat : Int)).toNat = z := fun z => by simp
  rw [T.str_V.1 h1, T.u8_V.1 h2]
  simp only [calling, hp, pByte, byteA, bytesA, Option.bind_some]
  show some (AV.i .i64 (f x (UInt8.ofNat ((UInt8.toNat y : Nat) : Int).toNat)), none) = _
  exact congrArg (fun c : UInt8 => (some (AV.i .i64 (f (show Str from x) c), (none : Option Heap)))) (hy (show UInt8 from y))
end Go.Proofs.YtobejhpigbllpaaGreatDoor.Am
