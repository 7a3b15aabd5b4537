/-
  The machine's code and the model's; what it runs is what the model runs.
-/
import Derived.Test.YtggdinpopddhnaaAmJ
import Derived.Test.YtggdinpopddhnaaAmC
import Derived.LoopN
namespace Go.Proofs.Ytggdinpopddhnaa.Am

/-- a region without changes -/
def quiets (l : List AOper) : List (Option (Nat × Nat)) := l.map fun _ => some (0, 0)

def okC (T : AOp → Oper → Bool) (nt : Nat) : AC → Code → Bool
  | .skip, .skip => true
  | .reg l, .region _ rs false => okOpers T nt rs l rs.toList
  | .regq l, .region _ rs true => okD T nt rs l (quiets l)
  | .regd l ws, .region _ rs true => okD T nt rs l ws
  | .seq x y, .seq c d => okC T nt x c && okC T nt y d
  | .cond x a b, .cond y c d => okAO x y && okC T nt a c && okC T nt b d
  | .blk id x, .block id' c => id == id' && okC T nt x c
  | .loop _ x, .loop c => okC T nt x c
  | .exit id, .exit id' => id == id'
  | .ret, .ret => true
  | .keep _ x, c => okC T nt x c
  | _, _ => false

def exOf : Ex → Exit
  | .normal => .normal
  | .exit id => .exit id
  | .ret => .ret

section
variable {T : AOp → Oper → Bool} {P : Program} {tb : Tab} {cl : Nat → List AV → Heap → Out} {nt : Nat}

theorem getD_self {α : Type} (o : Option α) (d : α) (h : o.getD d = d) : some (o.getD ((some d).getD d)) = some d := by simp [h]

/-- what leaves the memory alone, as a drawn region -/
theorem opsD_of_opsQ {h : Heap} : ∀ (l : List AOper) {f f' : Fr}, opsQ tb cl h l f = some f' → opsD tb cl [h] l (quiets l) 0 f = some f' := by
  intro l
  induction l with
  | nil => intro f f' e; simpa [opsQ, opsD, quiets] using e
  | cons o l ih =>
    intro f f' e
    simp only [opsQ] at e
    obtain ⟨w, hw, e⟩ := Option.bind_eq_some_iff.1 e
    simp only [quiets, List.map_cons, opsD, hw, Option.bind_some]
    cases w with
    | true =>
      simp only [if_true] at e ⊢
      obtain ⟨p, hp, e⟩ := Option.bind_eq_some_iff.1 e
      split at e
      · rename_i hsame
        simp only [List.getElem?_cons_zero, Option.bind_some, hp]
        rw [if_pos]
        · exact ih e
        · rw [List.all_eq_true]
          intro j hj
          rw [List.mem_range'_1] at hj
          have : j = 0 := by omega
          subst this
          simp only [decide_eq_true_eq, List.getElem?_cons_zero, Option.bind_some, Option.getD_some]
          exact ⟨p.2, by rw [hp], by rw [hsame]⟩
      · cases e
    | false =>
      simp only [Bool.false_eq_true, if_false] at e ⊢
      exact ih e

theorem rank_zero_st {rs : Array Oper} {l : List AOper} {ws : List (Option (Nat × Nat))} {hs : List Heap} {fr : Nat → Fr} {vl : Nat → AV} {H : Heap} (hh : hs[0]? = some H) :
    St rs l ws hs fr vl (Array.replicate rs.size false) H (fr 0) := by
  have hoff : ∀ i, ¬ On (Array.replicate rs.size false) i := by
    intro i h
    unfold On at h
    rw [Array.getD_eq_getD_getElem?, Array.getElem?_replicate] at h
    split at h <;> simp at h
  exact ⟨by simp, fun i h => absurd h (hoff i), ⟨0, hh, fun j _ _ => ⟨fun h => absurd h (hoff j), fun h => absurd h (Nat.not_lt_zero _)⟩⟩, fun i _ _ h => absurd h (hoff i), fun _ _ => rfl⟩

theorem regd_sound (hm : P.follows .mixedOrders = true) (hT : ∀ ao o, T ao o = true → OpOk P tb ao o) (hcl : CallsOk P tb fun g args h => calling tb cl h g args) {Q : Exit → Act → World → Prop} {l : List AOper}
    {ws : List (Option (Nat × Nat))} {rs : Array Oper} {id : Nat} (h : okD T nt rs l ws = true) {C : Ctx} {f : Fr} {a : Act} (I : Inv tb C) (F : FrRel C f a nt) {f' : Fr} {hs : List Heap} (hh : hs[0]? = some C.H)
    (e : opsD tb cl hs l ws 0 f = some f') (k : ∀ (D : Ctx) (a' : Act), Ext C D → Inv tb D → hs.getLast? = some D.H → FrRel D f' a' nt → Q .normal a' D.w) : (Code.region id rs true).wp P Q a C.w := by
  obtain ⟨fr, vl, h0, h1, h2, h3⟩ := opsD_spec l ws 0 f f' e
  obtain ⟨X, ID⟩ := drawn I (w := { C.w with drawn := C.w.drawn + 1 }) ⟨rfl, rfl, rfl⟩ rfl
  subst h0
  subst h1
  refine wp_region_any hm ?_
  refine any_sound (vl := vl) (C₀ := C) hT hcl h (by omega) (fun i ao hi => ?_) k rs.size _ ⟨C.φ, C.H, { C.w with drawn := C.w.drawn + 1 }⟩ (fr 0) a ?_ (rank_zero_st hh) X ID (F.ext X)
  · have := h3 i ao hi
    simpa only [Nat.zero_add] using this
  · exact Nat.le_trans List.count_le_length (by simp)

theorem keepL_get (live : List Nat) (f : Fr) (t : Nat) : get (keepL live f) t = get f t ∨ get (keepL live f) t = .junk := by
  induction live with
  | nil => exact .inr rfl
  | cons u live ih =>
    simp only [keepL, List.map_cons, get]
    by_cases h : u = t
    · subst h; left; rw [if_pos rfl]
    · rw [if_neg h]; exact ih
theorem FrRel.keep {C : Ctx} {f : Fr} {a : Act} (F : FrRel C f a nt) (live : List Nat) : FrRel C (keepL live f) a nt := by
  refine ⟨fun t => ?_, F.size, F.defers⟩
  rcases keepL_get live f t with h | h
  · rw [h]; exact F.rep t
  · rw [h]; trivial

theorem mentF_get : ∀ (f : Fr) (t : Nat), ment (get f t) ≤ mentF f
  | [], _ => by simp [get, ment]
  | (u, v) :: f, t => by
    simp only [get, mentF]
    have := mentF_get f t
    split <;> omega
theorem FrRel.cut {C : Ctx} {f : Fr} {a : Act} (F : FrRel C f a nt) {n : Nat} (h : mentF f ≤ n) : FrRel (C.cut n) f a nt :=
  ⟨fun t => (F.rep t).cut (Nat.le_trans (mentF_get f t) h), F.size, F.defers⟩

/-! One number's memory moves up. -/
structure Mv (n L : Nat) (D D' : Ctx) : Prop where
  w : D'.w = D.w
  φ : ∀ id, id < n → D'.φ id = D.φ id
  φL : D'.φ n = D.φ L
  fx : ∀ id o, id < n → D.H[id]? = some o → ∃ o', D'.H[id]? = some o' ∧ fixedO o' = fixedO o ∧ (fixedO o = false → o' = o)
  oL : ∀ o, D.H[L]? = some o → D'.H[n]? = some o
  own : ∀ b, ¬ D.own b → ¬ D'.own b

section
variable {n L : Nat} {D D' : Ctx}
theorem Mv.fixed (M : Mv n L D D') {id id' : Nat} (hid : (id < n ∧ id' = id) ∨ (id = L ∧ id' = n)) (h : ∃ o, D.H[id]? = some o ∧ fixedO o = true) : (∃ o, D'.H[id']? = some o ∧ fixedO o = true) ∧ D'.φ id' = D.φ id := by
  obtain ⟨o, ho, hf⟩ := h
  rcases hid with ⟨hl, rfl⟩ | ⟨rfl, rfl⟩
  · obtain ⟨o', h1, h2, _⟩ := M.fx _ o hl ho
    exact ⟨⟨o', h1, h2.trans hf⟩, M.φ _ hl⟩
  · exact ⟨⟨o, M.oL o ho, hf⟩, M.φL⟩
theorem Mv.row (M : Mv n L D D') {id id' : Nat} (hid : (id < n ∧ id' = id) ∨ (id = L ∧ id' = n)) {fz : Bool} {sz : Nat} {els : List (List AV)} (h : D.H[id]? = some (.row fz sz els)) : D'.H[id']? = some (.row fz sz els) ∧ D'.φ id' = D.φ id := by
  rcases hid with ⟨hl, rfl⟩ | ⟨rfl, rfl⟩
  · obtain ⟨o', h1, _, h2⟩ := M.fx _ _ hl h
    rw [h2 rfl] at h1
    exact ⟨h1, M.φ _ hl⟩
  · exact ⟨M.oL _ h, M.φL⟩
theorem mv_id {id : Nat} {p : Nat → AV} {v' : AV} (h : (if id < n then some (p id) else if id = L then some (p n) else none) = some v') : ∃ id', v' = p id' ∧ ((id < n ∧ id' = id) ∨ (id = L ∧ id' = n)) := by
  split at h
  · rename_i hl; exact ⟨id, (Option.some.inj h).symm, .inl ⟨hl, rfl⟩⟩
  · split at h
    · rename_i hl; exact ⟨n, (Option.some.inj h).symm, .inr ⟨hl, rfl⟩⟩
    · cases h

mutual
theorem Rep.mvd (M : Mv n L D D') : ∀ {v v' : AV} {x : Value}, mv n L v = some v' → Rep D v x → Rep D' v' x
  | .ptr id off, v', x, e, ⟨ho, hx⟩ => by
    simp only [mv] at e
    obtain ⟨id', rfl, hid⟩ := mv_id (p := fun i => .ptr i off) e
    obtain ⟨h1, h2⟩ := M.fixed hid ho
    exact ⟨h1, by rw [h2]; exact hx⟩
  | .pe id k i off, v', x, e, ⟨q0, fz, sz, els, h, l, e'⟩ => by
    simp only [mv] at e
    obtain ⟨id', rfl, hid⟩ := mv_id (p := fun j => .pe j k i off) e
    obtain ⟨h1, h2⟩ := M.row hid h
    exact ⟨q0, fz, sz, els, h1, l, fun q => by rw [h2]; exact e' q⟩
  | .orow id k lo len, v', x, e, ⟨q0, fz, sz, els, h, l, e'⟩ => by
    simp only [mv] at e
    obtain ⟨id', rfl, hid⟩ := mv_id (p := fun j => .orow j k lo len) e
    obtain ⟨h1, h2⟩ := M.row hid h
    exact ⟨q0, fz, sz, els, h1, l, fun q => by rw [h2]; exact e' q⟩
  | .ocel sz id off len, v', x, e, ⟨ho, hx⟩ => by
    simp only [mv] at e
    obtain ⟨id', rfl, hid⟩ := mv_id (p := fun j => .ocel sz j off len) e
    obtain ⟨h1, h2⟩ := M.fixed hid ho
    exact ⟨h1, by rw [h2]; exact hx⟩
  | .mp id, v', x, e, ⟨ho, hx⟩ => by
    simp only [mv] at e
    obtain ⟨id', rfl, hid⟩ := mv_id (p := fun j => .mp j) e
    obtain ⟨h1, h2⟩ := M.fixed hid ho
    exact ⟨h1, by rw [h2]; exact hx⟩
  | .agg cs, v', x, e, ⟨vs, hx, s, h⟩ => by
    simp only [mv] at e
    obtain ⟨cs', hc, rfl⟩ := Option.map_eq_some_iff.1 e
    obtain ⟨h1, h2⟩ := RepL.mvd M hc h
    exact ⟨vs, hx, h2 s, h1⟩
  | .tup cs, v', x, e, ⟨vs, hx, h⟩ => by
    simp only [mv] at e
    obtain ⟨cs', hc, rfl⟩ := Option.map_eq_some_iff.1 e
    exact ⟨vs, hx, (RepL.mvd M hc h).1⟩
  | .fn f a b, v', x, e, ⟨p, q, hx, h1, h2⟩ => by
    simp only [mv] at e
    obtain ⟨a', ha, e⟩ := Option.bind_eq_some_iff.1 e
    obtain ⟨b', hb, rfl⟩ := Option.map_eq_some_iff.1 e
    exact ⟨p, q, hx, (RepL.mvd M ha h1).1, (RepL.mvd M hb h2).1⟩
  | .ip cs off, v', x, e, ⟨b, base, vs, hx, lt, ho, hh, s, r⟩ => by
    simp only [mv] at e
    split at e
    · rename_i hm
      obtain rfl := Option.some.inj e
      exact ⟨b, base, vs, hx, by rw [M.w]; exact lt, M.own b ho, by rw [M.w]; exact hh, s, (RepL.mvd M (mvL_of (by simpa [ment] using hm)) r).1⟩
    · cases e
  | .sl sz els, v', x, e, r => by
    simp only [mv] at e
    split at e
    · rename_i hm
      obtain rfl := Option.some.inj e
      rcases r with ⟨b, base, cap, vss, hx, l, lt, ho, hh, s, r⟩ | r
      · exact .inl ⟨b, base, cap, vss, hx, l, by rw [M.w]; exact lt, M.own b ho, by rw [M.w]; exact hh, s, RepLL.mvd M (by simpa [ment] using hm) r⟩
      · exact .inr r
    · cases e
  | .ifc t v, v', x, e, ⟨y, hx, r⟩ => by
    simp only [mv] at e
    split at e
    · rename_i hm
      obtain rfl := Option.some.inj e
      exact ⟨y, hx, Rep.mvd M (mv_of (by simpa [ment] using hm)) r⟩
    · cases e
  | .b _, v', x, e, r => by simp only [mv_b, Option.some.injEq] at e; subst e; exact r
  | .i _ _, v', x, e, r => by simp only [mv_i, Option.some.injEq] at e; subst e; exact r
  | .s _, v', x, e, r => by simp only [mv_s, Option.some.injEq] at e; subst e; exact r
  | .nilp, v', x, e, r => by simp only [mv_nilp, Option.some.injEq] at e; subst e; exact r
  | .nils, v', x, e, r => by simp only [mv_nils, Option.some.injEq] at e; subst e; exact r
  | .nilm, v', x, e, r => by simp only [mv_nilm, Option.some.injEq] at e; subst e; exact r
  | .nilf, v', x, e, r => by simp only [mv_nilf, Option.some.injEq] at e; subst e; exact r
  | .nili, v', x, e, r => by simp only [mv_nili, Option.some.injEq] at e; subst e; exact r
  | .junk, v', x, e, r => by simp only [mv_junk, Option.some.injEq] at e; subst e; trivial
theorem RepL.mvd (M : Mv n L D D') : ∀ {l l' : List AV} {xs : List Value}, mvL n L l = some l' → RepL D l xs → RepL D' l' xs ∧ (l.all scal = true → l'.all scal = true)
  | [], l', xs, e, r => by
    simp only [mvL, Option.some.injEq] at e; subst e; exact ⟨r, fun h => h⟩
  | v :: l, l', xs, e, ⟨x, q, hx, h, r⟩ => by
    simp only [mvL] at e
    obtain ⟨v', hv, e⟩ := Option.bind_eq_some_iff.1 e
    obtain ⟨l1, hl, rfl⟩ := Option.map_eq_some_iff.1 e
    obtain ⟨h1, h2⟩ := RepL.mvd M hl r
    refine ⟨⟨x, q, hx, Rep.mvd M hv h, h1⟩, fun hs => ?_⟩
    simp only [List.all_cons, Bool.and_eq_true] at hs ⊢
    refine ⟨?_, h2 hs.2⟩
    have := hs.1
    cases v <;> simp only [mv] at hv <;> first
      | (simp [scal] at this; done)
      | (obtain ⟨id', rfl, _⟩ := mv_id (p := fun i => .ptr i _) hv; rfl)
      | (obtain ⟨id', rfl, _⟩ := mv_id (p := fun i => .pe i _ _ _) hv; rfl)
      | (obtain ⟨id', rfl, _⟩ := mv_id (p := fun i => .orow i _ _ _) hv; rfl)
      | (obtain ⟨id', rfl, _⟩ := mv_id (p := fun i => .ocel _ i _ _) hv; rfl)
      | (obtain ⟨id', rfl, _⟩ := mv_id (p := fun i => .mp i) hv; rfl)
      | (obtain ⟨a', ha, e⟩ := Option.bind_eq_some_iff.1 hv; obtain ⟨b', hb, rfl⟩ := Option.map_eq_some_iff.1 e; rfl)
      | (split at hv
         · obtain rfl := Option.some.inj hv; exact this
         · cases hv)
theorem RepLL.mvd (M : Mv n L D D') : ∀ {l : List (List AV)} {xs : List (List Value)}, mentLL l ≤ n → RepLL D l xs → RepLL D' l xs
  | [], _, _, r => r
  | v :: l, _, hm, ⟨x, q, hx, h, r⟩ => by
    simp only [mentLL] at hm
    exact ⟨x, q, hx, (RepL.mvd M (mvL_of (by omega)) h).1, RepLL.mvd M (by omega) r⟩
end

theorem mvF_get : ∀ {f f' : Fr} {t : Nat}, mvF n L f = some f' → mv n L (get f t) = some (get f' t)
  | [], f', t, e => by simp only [mvF, Option.some.injEq] at e; subst e; simp [get, mv, ment]
  | (u, v) :: f, f', t, e => by
    simp only [mvF] at e
    obtain ⟨v', hv, e⟩ := Option.bind_eq_some_iff.1 e
    obtain ⟨f1, hf, rfl⟩ := Option.map_eq_some_iff.1 e
    simp only [get]
    split
    · exact hv
    · exact mvF_get hf
theorem mvH_get : ∀ {h h' : Heap} {i : Nat}, mvH n L h = some h' → h'.length = h.length ∧ ∀ o, h[i]? = some o → ∃ o', h'[i]? = some o' ∧ mvO n L o = some o'
  | [], h', i, e => by simp only [mvH, Option.some.injEq] at e; subst e; simp
  | o :: h, h', i, e => by
    simp only [mvH] at e
    obtain ⟨o', ho, e⟩ := Option.bind_eq_some_iff.1 e
    obtain ⟨h1, hh, rfl⟩ := Option.map_eq_some_iff.1 e
    cases i with
    | zero =>
      refine ⟨by simp [(mvH_get (i := 0) hh).1], fun p hp => ?_⟩
      simp only [List.getElem?_cons_zero, Option.some.injEq] at hp
      subst hp
      exact ⟨o', by simp, ho⟩
    | succ i =>
      obtain ⟨h2, h3⟩ := mvH_get (i := i) hh
      exact ⟨by simp [h2], fun p hp => by simpa using h3 p (by simpa using hp)⟩
theorem mvO_fixed {o o' : AObj} (h : mvO n L o = some o') : fixedO o' = fixedO o ∧ (fixedO o = false → o' = o) := by
  cases o with
  | cells cs =>
    simp only [mvO] at h
    obtain ⟨cs', _, rfl⟩ := Option.map_eq_some_iff.1 h
    exact ⟨rfl, fun h => by cases h⟩
  | row fz sz els =>
    simp only [mvO] at h
    split at h
    · obtain rfl := Option.some.inj h; exact ⟨rfl, fun _ => rfl⟩
    · cases h
  | map es =>
    simp only [mvO] at h
    split at h
    · obtain rfl := Option.some.inj h; exact ⟨rfl, fun _ => rfl⟩
    · cases h
  | iter l p =>
    simp only [mvO] at h
    obtain rfl := Option.some.inj h; exact ⟨rfl, fun _ => rfl⟩
theorem mvL_length : ∀ {l l' : List AV}, mvL n L l = some l' → l'.length = l.length
  | [], l', e => by simp only [mvL, Option.some.injEq] at e; subst e; rfl
  | v :: l, l', e => by
    simp only [mvL] at e
    obtain ⟨v', hv, e⟩ := Option.bind_eq_some_iff.1 e
    obtain ⟨l1, hl, rfl⟩ := Option.map_eq_some_iff.1 e
    simp [mvL_length hl]
theorem Obj.mvd (M : Mv n L D D') {p : Place} {o o' : AObj} (h : mvO n L o = some o') (x : Obj D p o) : Obj D' p o' := by
  cases o with
  | cells cs =>
    simp only [mvO] at h
    obtain ⟨cs', hc, rfl⟩ := Option.map_eq_some_iff.1 h
    obtain ⟨vs, arr, e, fr, h1, h2, h3, h4, h5, h6⟩ := x
    obtain ⟨q1, q2⟩ := RepL.mvd M hc h4
    exact ⟨vs, arr, e, fr, by rw [M.w]; exact h1, by rw [mvL_length hc]; exact h2, q2 h3, q1, by rw [M.w]; exact h5, fun i hi => by rw [M.w]; exact h6 i (by rwa [mvL_length hc] at hi)⟩
  | row fz sz els =>
    simp only [mvO] at h
    split at h
    · rename_i hm
      obtain rfl := Option.some.inj h
      obtain ⟨vss, arr, e, fr, h1, h2, h3, h4, h5, h6, h7, h8, h9⟩ := x
      exact ⟨vss, arr, e, fr, by rw [M.w]; exact h1, h2, h3, h4, RepLL.mvd M hm h5, h6, by rw [M.w]; exact h7, fun q i hi => by rw [M.w]; exact h8 q i hi, fun i hi hs => by rw [M.w]; exact h9 i hi hs⟩
    · cases h
  | map es =>
    simp only [mvO] at h
    split at h
    · rename_i hm
      obtain rfl := Option.some.inj h
      obtain ⟨ms, c, h1, h2, h3⟩ := x
      simp only [mentO] at hm
      exact ⟨ms, c, by rw [M.w]; exact h1, (RepL.mvd M (mvL_of (by omega)) h2).1, (RepL.mvd M (mvL_of (by omega)) h3).1⟩
    · cases h
  | iter l pos =>
    simp only [mvO] at h
    obtain rfl := Option.some.inj h
    show D'.w.heap[p.blk]? = _
    rw [M.w]; exact x
end

theorem memH : ∀ (l : Heap) (o : AObj), o ∈ l → mentO o ≤ mentH l := by
  intro l
  induction l with
  | nil => intro o h; cases h
  | cons x l ih =>
    intro o h
    simp only [mentH]
    rcases List.mem_cons.1 h with e | h
    · subst e; omega
    · have := ih o h; omega

theorem settle_sound {C D : Ctx} {f : Fr} {a : Act} (X : Ext C D) (I : Inv tb D) (F : FrRel D f a nt) (hg : ∀ g cs, tb.gl g = some cs → mentL cs = 0) :
    ∃ D' : Ctx, Ext C D' ∧ Inv tb D' ∧ D'.w = D.w ∧ D'.H = (settle C.H.length f D.H).2 ∧ FrRel D' (settle C.H.length f D.H).1 a nt := by
  have same : ∃ D' : Ctx, Ext C D' ∧ Inv tb D' ∧ D'.w = D.w ∧ D'.H = D.H ∧ FrRel D' f a nt := ⟨D, X, I, rfl, rfl, F⟩
  unfold settle
  cases hb : Nat.ble (max (mentF f) (mentH (D.H.take C.H.length))) C.H.length with
  | true =>
    rw [Nat.ble_eq] at hb
    exact ⟨D.cut C.H.length, X.cut (Nat.le_refl _), I.cut (by omega) hg, rfl, rfl, F.cut (by omega)⟩
  | false =>
    have hgt : C.H.length < max (mentF f) (mentH (D.H.take C.H.length)) := by
      rcases Nat.lt_or_ge C.H.length (max (mentF f) (mentH (D.H.take C.H.length))) with h | h
      · exact h
      · rw [ble_true h] at hb; cases hb
    simp only [settle2, settle3]
    generalize hL : max (mentF f) (mentH (D.H.take C.H.length)) - 1 = L
    have hnL : C.H.length ≤ L := by omega
    generalize hn : C.H.length = n at *
    cases ho : D.H[L]? with
    | none => exact same
    | some o =>
      cases hf : mvF n L f with
      | none => exact same
      | some f' =>
        cases hh : mvH n L (D.H.take n) with
        | none => exact same
        | some h1 =>
          simp only [settle4]
          split
          case isFalse => exact same
          rename_i hm
          have hLl := lt_of_get ho
          have hlen : h1.length = n := by
            rw [(mvH_get (i := 0) hh).1, List.length_take]; have := X.len; omega
          have getn : (h1 ++ [o])[n]? = some o := by rw [List.getElem?_append_right (by omega), hlen]; simp
          have getl : ∀ id, id < n → ∀ p, D.H[id]? = some p → ∃ p', (h1 ++ [o])[id]? = some p' ∧ mvO n L p = some p' := by
            intro id hid p hp
            obtain ⟨_, h3⟩ := mvH_get (i := id) hh
            obtain ⟨p', h4, h5⟩ := h3 p (by rw [List.getElem?_take, if_pos hid]; exact hp)
            exact ⟨p', by rw [List.getElem?_append_left (by omega)]; exact h4, h5⟩
          let D' : Ctx := ⟨fun j => if j = n then D.φ L else D.φ j, h1 ++ [o], D.w⟩
          have hφ : ∀ id, id < n → D'.φ id = D.φ id := fun id h => if_neg (by omega)
          have hφn : D'.φ n = D.φ L := if_pos rfl
          have hlen' : D'.H.length = n + 1 := by simp [D', hlen]
          have hown : ∀ b, ¬ D.own b → ¬ D'.own b := by
            rintro b hnb ⟨id, hid, e⟩
            rw [hlen'] at hid
            by_cases h : id = n
            · rw [h, hφn] at e; exact hnb ⟨L, hLl, e⟩
            · rw [hφ id (by omega)] at e
              exact hnb ⟨id, by omega, e⟩
          have M : Mv n L D D' := ⟨rfl, hφ, hφn, fun id p hid hp => by
            obtain ⟨p', h4, h5⟩ := getl id hid p hp
            exact ⟨p', h4, mvO_fixed h5⟩, fun p hp => by rw [ho] at hp; obtain rfl := Option.some.inj hp; exact getn, hown⟩
          refine ⟨D', ⟨X.rest, X.size, by rw [hlen', hn]; omega, fun b hb hc => ⟨(X.same b hb hc).1, hown b (X.same b hb hc).2⟩, ?_, ?_⟩, ⟨?_, ?_, ?_, ?_⟩, rfl, rfl, ⟨fun t => Rep.mvd M (mvF_get hf) (F.rep t), F.size, F.defers⟩⟩
          · intro id p hp hfx
            have hid := lt_of_get hp
            rw [hn] at hid
            obtain ⟨⟨p', h4, h5⟩, h6⟩ := X.fixed id p hp hfx
            obtain ⟨p'', h7, h8⟩ := getl id hid p' h4
            exact ⟨⟨p'', h7, (mvO_fixed h8).1.trans h5⟩, (hφ id hid).trans h6⟩
          · intro id fz sz els hp
            have hid := lt_of_get hp
            rw [hn] at hid
            obtain ⟨fz', els', h4, h5, h6⟩ := X.row id fz sz els hp
            obtain ⟨p'', h7, h8⟩ := getl id hid _ h4
            rw [(mvO_fixed h8).2 rfl] at h7
            exact ⟨fz', els', h7, h5, fun q => (hφ id hid).trans (h6 q)⟩
          · intro id p hp
            have hid := lt_of_get hp
            rw [hlen'] at hid
            by_cases h : id = n
            · subst h
              rw [getn] at hp
              obtain rfl := Option.some.inj hp
              rw [hφn]
              refine Obj.mvd M (o := o) ?_ (I.obj L o ho)
              cases o with
              | cells cs => simp only [mvO, mentO] at *; rw [mvL_of hm]; rfl
              | row fz sz els => simp only [mvO, mentO] at *; rw [if_pos hm]
              | map es => simp only [mvO] at *; rw [if_pos hm]
              | iter l p => rfl
            · have hid' : id < n := by omega
              have hg' : ∃ q, D.H[id]? = some q := ⟨_, List.getElem?_eq_getElem (by omega)⟩
              obtain ⟨q, hq⟩ := hg'
              obtain ⟨p', h4, h5⟩ := getl id hid' q hq
              rw [show D'.H = h1 ++ [o] from rfl, h4] at hp
              obtain rfl := Option.some.inj hp
              rw [hφ id hid']
              exact Obj.mvd M h5 (I.obj id q hq)
          · intro i j hi hj e
            rw [hlen'] at hi hj
            by_cases h1 : i = n <;> by_cases h2 : j = n
            · rw [h1, h2]
            · subst h1
              rw [hφn, hφ j (by omega)] at e
              have := I.inj L j hLl (by omega) e
              omega
            · subst h2
              rw [hφn, hφ i (by omega)] at e
              have := I.inj i L (by omega) hLl e
              omega
            · rw [hφ i (by omega), hφ j (by omega)] at e
              exact I.inj i j (by omega) (by omega) e
          · intro i hi
            rw [hlen'] at hi
            by_cases h : i = n
            · subst h; rw [hφn]; exact I.lt L hLl
            · rw [hφ i (by omega)]; exact I.lt i (by omega)
          · intro g cs h
            obtain ⟨g1, g2, g3, vs, g4, g5⟩ := I.gl g cs h
            exact ⟨g1, hown g g2, g3, vs, g4, (RepL.mvd M (mvL_of (by rw [hg g cs h]; omega)) g5).1⟩

/-- a state that follows -/
structure Next (tb : Tab) (C : Ctx) (nt : Nat) (f : Fr) (h : Heap) (D : Ctx) (a : Act) : Prop where
  ext : Ext C D
  inv : Inv tb D
  heap : D.H = h
  fr : FrRel D f a nt

theorem exec_sound (hm : P.follows .mixedOrders = true) (hT : ∀ ao o, T ao o = true → OpOk P tb ao o) (hcl : CallsOk P tb fun g args h => calling tb cl h g args) (hg : ∀ g cs, tb.gl g = some cs → mentL cs = 0) :
    ∀ (ac : AC) (c : Code), okC T nt ac c = true → ∀ {C : Ctx} {f : Fr} {a : Act} {e : Ex} {f' : Fr} {h' : Heap}, exec tb cl ac f C.H = some (e, f', h') → Inv tb C → FrRel C f a nt →
      ∀ {Q : Exit → Act → World → Prop}, (∀ D a', Next tb C nt f' h' D a' → Q (exOf e) a' D.w) → c.wp P Q a C.w := by
  intro ac
  induction ac with
  | skip =>
    intro c hok C f a e f' h' he I F Q k
    cases c <;> simp only [okC, Bool.false_eq_true] at hok
    simp only [exec, Option.some.injEq, Prod.mk.injEq] at he
    obtain ⟨rfl, rfl, rfl⟩ := he
    exact wp_skip (k C a ⟨Ext.refl C, I, rfl, F⟩)
  | ret =>
    intro c hok C f a e f' h' he I F Q k
    cases c <;> simp only [okC, Bool.false_eq_true] at hok
    simp only [exec, Option.some.injEq, Prod.mk.injEq] at he
    obtain ⟨rfl, rfl, rfl⟩ := he
    exact wp_ret (k C a ⟨Ext.refl C, I, rfl, F⟩)
  | exit id =>
    intro c hok C f a e f' h' he I F Q k
    cases c <;> simp only [okC, Bool.false_eq_true, beq_iff_eq] at hok
    subst hok
    simp only [exec, Option.some.injEq, Prod.mk.injEq] at he
    obtain ⟨rfl, rfl, rfl⟩ := he
    exact wp_exit (k C a ⟨Ext.refl C, I, rfl, F⟩)
  | reg l =>
    intro c hok C f a e f' h' he I F Q k
    cases c with
    | region id rs b =>
      cases b <;> simp only [okC, Bool.false_eq_true] at hok
      simp only [exec] at he
      obtain ⟨p, hp, he⟩ := Option.map_eq_some_iff.1 he
      obtain ⟨p1, p2⟩ := p
      simp only [Prod.mk.injEq] at he
      obtain ⟨rfl, rfl, rfl⟩ := he
      exact reg_sound hT hcl hok I F hp fun D a' X ID hH FD => k D a' ⟨X, ID, hH, FD⟩
    | _ => simp [okC] at hok
  | regq l =>
    intro c hok C f a e f' h' he I F Q k
    cases c with
    | region id rs b =>
      cases b <;> simp only [okC, Bool.false_eq_true] at hok
      simp only [exec] at he
      obtain ⟨p, hp, he⟩ := Option.map_eq_some_iff.1 he
      simp only [Prod.mk.injEq] at he
      obtain ⟨rfl, rfl, rfl⟩ := he
      refine regd_sound hm hT hcl hok I F rfl (opsD_of_opsQ l hp) fun D a' X ID hH FD => k D a' ⟨X, ID, ?_, FD⟩
      simpa using hH.symm
    | _ => simp [okC] at hok
  | regd l ws =>
    intro c hok C f a e f' h' he I F Q k
    cases c with
    | region id rs b =>
      cases b <;> simp only [okC, Bool.false_eq_true] at hok
      simp only [exec] at he
      obtain ⟨hs, _, he⟩ := Option.bind_eq_some_iff.1 he
      obtain ⟨f1, hd, he⟩ := Option.bind_eq_some_iff.1 he
      obtain ⟨h1, hl, he⟩ := Option.map_eq_some_iff.1 he
      simp only [Prod.mk.injEq] at he
      obtain ⟨rfl, rfl, rfl⟩ := he
      refine regd_sound hm hT hcl hok I F rfl hd fun D a' X ID hH FD => k D a' ⟨X, ID, ?_, FD⟩
      rw [hl] at hH
      exact (Option.some.inj hH).symm
    | _ => simp [okC] at hok
  | seq x y ihx ihy =>
    intro c hok C f a e f' h' he I F Q k
    cases c with
    | seq c d =>
      simp only [okC, Bool.and_eq_true] at hok
      simp only [exec] at he
      obtain ⟨p, hp, he⟩ := Option.bind_eq_some_iff.1 he
      obtain ⟨e1, f1, h1⟩ := p
      refine wp_seq (ihx c hok.1 hp I F fun D a' N => ?_)
      cases e1 with
      | normal =>
        obtain ⟨X, ID, hH, FD⟩ := N
        exact ihy d hok.2 (by rw [hH]; exact he) ID FD fun D' a'' N' => k D' a'' ⟨X.trans N'.ext, N'.inv, N'.heap, N'.fr⟩
      | exit id =>
        simp only [Option.some.injEq, Prod.mk.injEq] at he
        obtain ⟨rfl, rfl, rfl⟩ := he
        exact k D a' N
      | ret =>
        simp only [Option.some.injEq, Prod.mk.injEq] at he
        obtain ⟨rfl, rfl, rfl⟩ := he
        exact k D a' N
    | _ => simp [okC] at hok
  | cond x y z ihy ihz =>
    intro c hok C f a e f' h' he I F Q k
    cases c with
    | cond v c d =>
      simp only [okC, Bool.and_eq_true] at hok
      have r := rep_eval I F hok.1.1
      simp only [exec] at he
      split at he
      · rename_i t ht
        rw [ht] at r
        cases t with
        | true => exact wp_cond_true r (ihy c hok.1.2 (by simpa using he) I F k)
        | false => exact wp_cond_false r (ihz d hok.2 (by simpa using he) I F k)
      · cases he
    | _ => simp [okC] at hok
  | blk id x ih =>
    intro c hok C f a e f' h' he I F Q k
    cases c with
    | block id' c =>
      simp only [okC, Bool.and_eq_true, beq_iff_eq] at hok
      obtain ⟨rfl, hok⟩ := hok
      simp only [exec] at he
      obtain ⟨p, hp, he⟩ := Option.map_eq_some_iff.1 he
      obtain ⟨e1, f1, h1⟩ := p
      refine wp_block (ih c hok hp I F fun D a' N => ?_)
      cases e1 with
      | normal =>
        simp only [Prod.mk.injEq] at he
        obtain ⟨rfl, rfl, rfl⟩ := he
        exact k D a' N
      | ret =>
        simp only [Prod.mk.injEq] at he
        obtain ⟨rfl, rfl, rfl⟩ := he
        exact k D a' N
      | exit id' =>
        simp only at he
        simp only [exOf, Exit.inBlock]
        by_cases hid : id' = id
        · rw [if_pos hid] at he ⊢
          simp only [Prod.mk.injEq] at he
          obtain ⟨rfl, rfl, rfl⟩ := he
          exact k D a' N
        · rw [if_neg hid] at he ⊢
          simp only [Prod.mk.injEq] at he
          obtain ⟨rfl, rfl, rfl⟩ := he
          exact k D a' N
    | _ => simp [okC] at hok
  | keep live x ih =>
    intro c hok C f a e f' h' he I F Q k
    simp only [okC] at hok
    simp only [exec] at he
    obtain ⟨p, hp, he⟩ := Option.map_eq_some_iff.1 he
    obtain ⟨e1, f1, h1⟩ := p
    refine ih c hok hp I F fun D a' N => ?_
    cases e1 with
    | normal =>
      simp only [Prod.mk.injEq] at he
      obtain ⟨rfl, rfl, rfl⟩ := he
      exact k D a' ⟨N.ext, N.inv, N.heap, N.fr.keep live⟩
    | exit id =>
      simp only [Prod.mk.injEq] at he
      obtain ⟨rfl, rfl, rfl⟩ := he
      exact k D a' N
    | ret =>
      simp only [Prod.mk.injEq] at he
      obtain ⟨rfl, rfl, rfl⟩ := he
      exact k D a' N
  | loop live x ih =>
    intro c hok C f a e f' h' he I F Q k
    cases c with
    | loop c =>
      simp only [okC] at hok
      simp only [exec, lp] at he
      split at he
      · rename_i hex
        have key : ∀ (n : Nat) {D : Ctx} {f : Fr} {a : Act}, lpN (round live (exec tb cl x)) n f D.H = some (e, f', h') → Ext C D → Inv tb D → FrRel D f a nt → Code.rounds P c Q n a D.w := by
          intro n
          induction n with
          | zero => intro D f a h; simp [lpN] at h
          | succ n ihn =>
            intro D f a h X ID FD
            simp only [lpN] at h
            rw [rounds_succ]
            have rnd : ∀ {e1 f1 h1}, round live (exec tb cl x) f D.H = some (e1, f1, h1) → ∃ f2 h2, exec tb cl x (keepL live f) D.H = some (e1, f2, h2) ∧
                (e1 = .normal → (f1, h1) = settle D.H.length (keepL live f2) h2) ∧ (e1 ≠ .normal → f1 = f2 ∧ h1 = h2) := by
              intro e1 f1 h1 hr
              simp only [round] at hr
              obtain ⟨⟨e2, f2, h2⟩, hp, hr⟩ := Option.map_eq_some_iff.1 hr
              cases e2 <;> simp only [Prod.mk.injEq] at hr
              · obtain ⟨he1, hq⟩ := hr
                subst he1
                exact ⟨f2, h2, hp, fun _ => hq.symm, fun h => absurd rfl h⟩
              all_goals obtain ⟨rfl, rfl, rfl⟩ := hr
              · exact ⟨_, _, hp, fun h => (by cases h), fun _ => ⟨rfl, rfl⟩⟩
              · exact ⟨_, _, hp, fun h => (by cases h), fun _ => ⟨rfl, rfl⟩⟩
            cases hr : round live (exec tb cl x) f D.H with
            | none => rw [hr] at h; simp at h
            | some p =>
              obtain ⟨e1, f1, h1⟩ := p
              rw [hr] at h
              obtain ⟨f2, h2, hx, hn, ho⟩ := rnd hr
              refine ih c hok hx ID (FD.keep live) fun D' a' N => ?_
              by_cases hnorm : e1 = .normal
              · subst hnorm
                have hs := hn rfl
                simp only [] at h
                simp only [exOf, Exit.then]
                obtain ⟨X', ID', hH', FD'⟩ := N
                obtain ⟨D2, X2, I2, hw2, hH2, F2⟩ := settle_sound X' ID' (FD'.keep live) hg
                rw [hH', ← hs] at hH2 F2
                rw [← hw2]
                exact ihn (D := D2) (f := f1) (by rw [hH2]; exact h) (X.trans X2) I2 F2
              · obtain ⟨rfl, rfl⟩ := ho hnorm
                have h' : some (e1, f1, h1) = some (e, f', h') := by
                  cases e1 with
                  | normal => exact absurd rfl hnorm
                  | exit id => simpa using h
                  | ret => simpa using h
                simp only [Option.some.injEq, Prod.mk.injEq] at h'
                obtain ⟨rfl, rfl, rfl⟩ := h'
                have := k D' a' ⟨X.trans N.ext, N.inv, N.heap, N.fr⟩
                cases e1 with
                | normal => exact absurd rfl hnorm
                | exit id => exact this
                | ret => exact this
        exact wp_loop_rounds _ (key _ he (Ext.refl C) I F)
      · cases he
    | _ => simp [okC] at hok

end
end Go.Proofs.Ytggdinpopddhnaa.Am
