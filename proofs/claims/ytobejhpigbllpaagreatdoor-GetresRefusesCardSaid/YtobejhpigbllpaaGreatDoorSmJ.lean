/-
  What operations come to, on typed values: texts and bytes, pieces of slices, literals, arrays, calls, equality.
-/
import Derived.Test.YtobejhpigbllpaaGreatDoorSmI
namespace Go.Proofs.YtobejhpigbllpaaGreatDoor.Am

section
variable {tb : Tab} {Γ : Cx} {a b : AO}

/-! texts and bytes -/
/-- a slice of one's own, as itself -/
theorem h_cvr {t : T} {l : List t.α} {j : Nat} (ha : OpF tb Γ a (.own j)) (hj : findS Γ.ss j = some (.row t (.mk l))) : OpH tb Γ (.cvr a) (some ()) fun _ => .own j := by
  rintro E rv fp f H R z ⟨⟩
  rcases own_v ha hj R with ⟨h, _⟩ | ⟨id, els, l', e, hid, _, hr, _, hv⟩
  · cases h
  · have hl : live Γ.ss j := live_of hj rfl
    exact ⟨.orow id els.length 0 els.length, none, by simp only [aop, hv, hr, Option.bind_some]; rw [if_pos ⟨trivial, trivial, by omega⟩], rfl, hl, hid.symm⟩

theorem M_cvb {s : Str} {d t0 : Nat} (j : Nat) (hj : findS Γ.ss j = none) (ha : OpF tb Γ a (.val T.str s)) : OpM tb Γ (some d) (.cvb t0 a) (some ()) fun _ => ⟨(d, .own j) :: Γ.ts, (j, .row T.u8 (.mk s)) :: Γ.ss⟩ := by
  rintro E rv fp f H R _ ⟨⟩
  have hm : mentLL (byteEls s) = 0 := by
    have := (all_bytes (P := fun _ => False) (H := H) s).men (m := 0) (fun _ h => h.elim)
    omega
  obtain ⟨rv', fp', h1, h2, h3⟩ := R.more (j := j) (S := .row T.u8 (.mk s)) (v := .orow H.length s.length 0 s.length) (o := .row (some t0) false 1 (byteEls s)) (live_none hj) (by simp only [mentO]; omega) rfl (by simp [ment]) rfl fun rv' fp' e1 e2 hP hs =>
    ⟨_, byteEls s, by rw [e1]; simp [byteEls], e2, by simp [rowAt]; rfl, all_bytes s⟩
  refine ⟨.orow H.length s.length 0 s.length, some (H ++ [AObj.row (some t0) false 1 (byteEls s)]), ?_, rv', fp', h3.push (φ := .own j) ⟨h2, h1.symm⟩⟩
  simp only [aop, T.str_V.1 (ha E rv fp f H R)]
theorem bytes_all {P : Nat → Prop} {H : Heap} : ∀ {els : List (List AV)} {l : Str}, AllR T.u8 P H els l → bytes? els = some l
  | [], [], _ => rfl
  | c :: els, x :: l, h => by
    have hc : c = [.i .u8 x.toNat] := h.1
    subst hc
    simp only [bytes?, bytes_all h.2, Option.map_some]
    congr 2
    simp
theorem h_cvs {g : GS UInt8} (ha : OpF tb Γ a (.val (T.sl T.u8) g)) : OpH tb Γ (.cvs a) (some g.l) fun z => .val T.str z := by
  rintro E rv fp f H R z ⟨⟩
  obtain ⟨els, e, h⟩ := (T.sl_V.1 (ha E rv fp f H R)).els
  refine ⟨.s g.l, none, ?_, rfl, T.str_V.2 rfl⟩
  have e' : els? H 1 (eval tb f a) = some els := e
  simp only [aop, e', Option.bind_some, bytes_all h, val]; rfl
theorem h_cvsO {g : GS UInt8} {j : Nat} (ha : OpF tb Γ a (.own j)) (hj : findS Γ.ss j = some (.row T.u8 g)) : OpH tb Γ (.cvs a) (some g.l) fun z => .val T.str z := by
  rintro E rv fp f H R z ⟨⟩
  refine ⟨.s g.l, none, ?_, rfl, T.str_V.2 rfl⟩
  rcases own_v ha hj R with ⟨rfl, hv⟩ | ⟨id, els, l, rfl, _, _, hr, h, hv⟩
  · simp only [aop, hv, els?, Option.bind_some, bytes?, val]; rfl
  · have e' : els? H 1 (eval tb f a) = some els := by
      have hr' : rowAt H id = some (false, 1, els) := hr
      simp [hv, els?, hr']
    simp only [aop, e', Option.bind_some, bytes_all h, val]; rfl

/-! pieces -/
def pieceG {α : Type} (g : GS α) (c d : Nat) : GS α := match g with
  | .nil => .nil
  | .mk l => .mk ((l.take d).drop c)
def slG {α : Type} (g : GS α) (lo hi : Option Int) : Option (GS α) := (bnd g.l.length lo hi).map fun p => pieceG g p.1 p.2
theorem bnd_le {n : Nat} {lo hi : Option Int} {p : Nat × Nat} (h : bnd n lo hi = some p) : p.1 ≤ p.2 ∧ p.2 ≤ n := by
  unfold bnd at h
  obtain ⟨u, hu, h⟩ := Option.bind_eq_some_iff.1 h
  obtain ⟨l, hl, h⟩ := Option.bind_eq_some_iff.1 h
  cases h
  have h1 : u ≤ n := by
    cases hi with
    | none => cases hu; omega
    | some m => simp only [] at hu; split at hu <;> cases hu; omega
  have h2 : l ≤ u := by
    cases lo with
    | none => cases hl; omega
    | some m => simp only [] at hl; split at hl <;> cases hl; omega
  exact ⟨h2, h1⟩
theorem chunks_sub {sz : Nat} : ∀ {len c d : Nat} {l : List AV}, c ≤ d → d ≤ len → ((chunks sz len l).take d).drop c = chunks sz (d - c) (l.drop (c * sz))
  | len, 0, 0, l, _, _ => by simp [chunks]
  | len, c + 1, 0, l, h, _ => by omega
  | 0, c, d + 1, l, _, h => by omega
  | len + 1, 0, d + 1, l, _, h => by
    have := chunks_sub (sz := sz) (len := len) (c := 0) (d := d) (l := l.drop sz) (by omega) (by omega)
    simp only [List.drop_zero, Nat.zero_mul, Nat.sub_zero] at this
    simp [chunks, this]
  | len + 1, c + 1, d + 1, l, h1, h2 => by
    have := chunks_sub (sz := sz) (len := len) (c := c) (d := d) (l := l.drop sz) (by omega) (by omega)
    simp only [chunks, List.take_succ_cons, List.drop_succ_cons, this, List.drop_drop, Nat.succ_mul]
    rw [show d + 1 - (c + 1) = d - c by omega, Nat.add_comm sz]
theorem SlV.resl {t : T} {P : Nat → Prop} {H : Heap} {v : AV} {c d : Nat} (h1 : c ≤ d) : ∀ {g : GS t.α}, d ≤ g.l.length → SlV t P H v g → ∃ w, Am.resl H t.sz v c d = some w ∧ SlV t P H w (pieceG g c d)
  | .nil, _, h => by rw [show v = _ from h]; exact ⟨.nils, rfl, rfl⟩
  | .mk l, hd, ⟨bp, els, e, h⟩ => by
    have hl := h.length
    simp only [GS.l] at hd
    have hall := h.take (n := d) |>.drop (n := c)
    cases v <;> simp only [baseP] at bp <;> simp only [els?] at e
    · split at e
      · rename_i hs
        cases e
        subst hs
        exact ⟨.sl t.sz ((els.take d).drop c), by simp [Am.resl], trivial, _, by simp [els?], hall⟩
      · cases e
    · rename_i id k lo len
      obtain ⟨r, hr, e⟩ := Option.bind_eq_some_iff.1 e
      split at e
      · rename_i hc
        cases e
        rw [List.length_take, List.length_drop] at hl
        refine ⟨.orow id k (lo + c) (d - c), by simp only [Am.resl, hr, Option.bind_some]; rw [if_pos hc], bp, (r.2.2.drop (lo + c)).take (d - c), ?_, ?_⟩
        · simp only [els?, hr, Option.bind_some]
          rw [if_pos ⟨hc.1, hc.2.1, by omega⟩]
        · have : (((r.2.2.drop lo).take len).take d).drop c = (r.2.2.drop (lo + c)).take (d - c) := by
            rw [List.take_take, Nat.min_eq_left (by omega), List.drop_take, List.drop_drop]
          rw [this] at hall
          exact hall
      · cases e
    · rename_i sz' id off len
      obtain ⟨r, hr, e⟩ := Option.bind_eq_some_iff.1 e
      split at e
      · rename_i hc
        have he : some (chunks t.sz len (r.drop off)) = some els := e
        cases he
        obtain ⟨hs, hc⟩ := hc
        subst hs
        have hcl : (chunks t.sz len (r.drop off)).length = len := by
          have : ∀ (n : Nat) (l : List AV), (chunks t.sz n l).length = n := by
            intro n
            induction n with
            | zero => intro l; rfl
            | succ n ih => intro l; simp [chunks, ih]
          exact this _ _
        rw [hcl] at hl
        refine ⟨.ocel t.sz id (off + c * t.sz) (d - c), by simp only [Am.resl, if_true], bp, chunks t.sz (d - c) (r.drop (off + c * t.sz)), ?_, ?_⟩
        · have hmul : (d - c) * t.sz + c * t.sz ≤ len * t.sz := by
            rw [← Nat.add_mul]; exact Nat.mul_le_mul_right _ (by omega)
          simp only [els?, hr, Option.bind_some]
          rw [if_pos ⟨trivial, by omega⟩]
        · have := chunks_sub (sz := t.sz) (len := len) (c := c) (d := d) (l := r.drop off) h1 (by omega)
          rw [this, List.drop_drop] at hall
          exact hall
      · cases e
theorem h_sll {t : T} {g : GS t.α} {sz : Nat} {lo hi : Option AO} {l h : Option Int} (hs : sz = t.sz) (ha : OpF tb Γ a (.val (T.sl t) g)) (hl : OpO tb Γ lo l) (hh : OpO tb Γ hi h) : OpH tb Γ (.sll sz a lo hi) (slG g l h) fun z => .val (T.sl t) z := by
  intro E rv fp f H R z hz
  obtain ⟨p, hp, rfl⟩ := Option.map_eq_some_iff.1 hz
  have hv := T.sl_V.1 (ha E rv fp f H R)
  obtain ⟨h1, h2⟩ := bnd_le hp
  obtain ⟨w, h3, h4⟩ := hv.resl h1 h2
  subst hs
  exact ⟨w, none, by simp only [aop, hv.len, Option.bind_some, bounds_of hl hh R, hp, h3, val, Option.map_some], rfl, T.sl_V.2 h4⟩

/-! literals -/
inductive BldL (tb : Tab) (Γ : Cx) (t : T) : List (Nat × Nat × AO) → t.α → t.α → Prop where
  | nil (x : t.α) : BldL tb Γ t [] x x
  | cons {u : T} {off n : Nat} {a : AO} {r : List (Nat × Nat × AO)} {x z : t.α} {y : u.α} (F : Fld t u off) (hn : n = u.sz) (h : OpF tb Γ a (.val u y)) (k : BldL tb Γ t r (F.put x y) z) : BldL tb Γ t ((off, n, a) :: r) x z
theorem BldL.spec {t : T} {E : Env} {rv : Nat → AV} {fp : Fp} {f : Fr} {H : Heap} (R : RelI E Γ rv fp f H) : ∀ {ps : List (Nat × Nat × AO)} {x z : t.α} {cs : List AV}, BldL tb Γ t ps x z → t.R (Pf E Γ.ss fp H) H cs x →
    ∃ ds, fillL cs (eval tb f) ps = some ds ∧ t.R (Pf E Γ.ss fp H) H ds z
  | _, _, _, cs, .nil _, h => ⟨cs, rfl, h⟩
  | _, _, _, cs, .cons (u := u) (off := off) F hn ho k, h => by
    have hv := T.V.cells (ho E rv fp f H R)
    have hl := u.len hv
    have hle := F.le
    have ht := t.len h
    obtain ⟨ds, h1, h2⟩ := k.spec R (F.putR h hv)
    refine ⟨ds, ?_, h2⟩
    simp only [fillL]
    rw [if_pos ⟨by rw [hl, hn], by omega⟩]
    exact h1
theorem h_bld {t : T} {zero : List AV} {ps : List (Nat × Nat × AO)} {z : t.α} (hz : zero = t.zc) (ht : t.agg = true) (h : BldL tb Γ t ps t.z z) : OpH tb Γ (.bld zero ps) (some z) fun z => .val t z := by
  rintro E rv fp f H R _ ⟨⟩
  subst hz
  obtain ⟨ds, h1, h2⟩ := h.spec R (t.hz _ _)
  exact ⟨.agg ds, none, by simp only [aop, h1, Option.map_some, val], rfl, .inl ⟨ht, ds, rfl, h2⟩⟩
inductive BllL (tb : Tab) (Γ : Cx) (t : T) : List (Nat × AO) → List t.α → List t.α → Prop where
  | nil (l : List t.α) : BllL tb Γ t [] l l
  | cons {i : Nat} {a : AO} {r : List (Nat × AO)} {l m : List t.α} {y : t.α} (hi : Nat.blt i l.length = true) (h : OpF tb Γ a (.val t y)) (k : BllL tb Γ t r (l.set i y) m) : BllL tb Γ t ((i, a) :: r) l m
theorem BllL.spec {t : T} {E : Env} {rv : Nat → AV} {fp : Fp} {f : Fr} {H : Heap} (R : RelI E Γ rv fp f H) : ∀ {ps : List (Nat × AO)} {l m : List t.α} {els : List (List AV)}, BllL tb Γ t ps l m → AllR t (Pf E Γ.ss fp H) H els l →
    ∃ ds, fillE els t.sz (eval tb f) ps = some ds ∧ AllR t (Pf E Γ.ss fp H) H ds m
  | _, _, _, els, .nil _, h => ⟨els, rfl, h⟩
  | _, _, _, els, .cons (i := i) hi ho k, h => by
    have hv := T.V.cells (ho E rv fp f H R)
    have hl := t.len hv
    have hlen := h.length
    rw [blt_iff] at hi
    obtain ⟨ds, h1, h2⟩ := k.spec R (h.set (i := i) hv)
    refine ⟨ds, ?_, h2⟩
    simp only [fillE]
    rw [if_pos ⟨hl, by omega⟩]
    exact h1
theorem h_bll {t : T} {zero : List (List AV)} {sz n : Nat} {ps : List (Nat × AO)} {l : List t.α} (hs : sz = t.sz) (hz : zero = List.replicate n t.zc) (h : BllL tb Γ t ps (List.replicate n t.z) l) : OpH tb Γ (.bll sz zero ps) (some l) fun l => .val (T.sl t) (.mk l) := by
  rintro E rv fp f H R _ ⟨⟩
  subst hz hs
  obtain ⟨ds, h1, h2⟩ := h.spec R (AllR.rep (t.hz _ _) n)
  exact ⟨.sl t.sz ds, none, by simp only [aop, h1, Option.map_some, val], rfl, T.sl_V.2 ⟨trivial, ds, by simp [els?], h2⟩⟩

/-! arrays -/
theorem Ar.get_lt {α : Type} {n : Nat} (x : Ar α n) {i : Nat} {y : α} (h : x.l[i]? = some y) : i < n := by
  have := (List.getElem?_eq_some_iff.1 h).1
  have := x.len
  omega
theorem flat_sub {sz : Nat} : ∀ {l : List (List AV)} {i : Nat} {c : List AV}, (∀ e ∈ l, e.length = sz) → l[i]? = some c → sub l.flatten (i * sz) sz = c
  | [], i, c, _, h => by simp at h
  | d :: l, 0, c, hl, h => by
    simp only [List.getElem?_cons_zero, Option.some.injEq] at h
    subst h
    have := hl d List.mem_cons_self
    simp [sub, this]
  | d :: l, i + 1, c, hl, h => by
    simp only [List.getElem?_cons_succ] at h
    have h1 := hl d List.mem_cons_self
    have := flat_sub (l := l) (fun e he => hl e (List.mem_cons_of_mem _ he)) h
    simp only [sub] at this ⊢
    rw [List.flatten_cons, show (i + 1) * sz = d.length + i * sz by rw [Nat.succ_mul]; omega, ← List.drop_drop, List.drop_left' rfl]
    exact this
theorem flat_splice {sz : Nat} : ∀ {l : List (List AV)} {i : Nat} {c : List AV}, (∀ e ∈ l, e.length = sz) → i < l.length → c.length = sz → splice l.flatten (i * sz) c = (l.set i c).flatten
  | [], i, c, _, h, _ => by simp at h
  | d :: l, 0, c, hl, h, hc => by
    have := hl d List.mem_cons_self
    simp only [splice, Nat.zero_mul, List.take_zero, Nat.zero_add, List.nil_append, List.set_cons_zero, List.flatten_cons]
    rw [hc, ← this, List.drop_left' rfl]
  | d :: l, i + 1, c, hl, h, hc => by
    have h1 := hl d List.mem_cons_self
    have ih := flat_splice (l := l) (fun e he => hl e (List.mem_cons_of_mem _ he)) (by simpa using h) hc
    simp only [splice] at ih ⊢
    rw [List.flatten_cons, List.set_cons_succ, List.flatten_cons, ← ih, show (i + 1) * sz = d.length + i * sz by rw [Nat.succ_mul]; omega]
    rw [List.take_append, List.take_of_length_le (by omega), show d.length + i * sz - d.length = i * sz by omega]
    rw [show d.length + i * sz + c.length = d.length + (i * sz + c.length) by omega, ← List.drop_drop, List.drop_left' rfl]
    simp
/-- one of an array's elements, as a field -/
def Fld.at (n : Nat) (t : T) (i : Nat) (hi : i < n) : Fld (T.arr n t) t (i * t.sz) where
  get := fun x => x.l[i]'(by rw [x.len]; exact hi)
  put := fun x y => x.set i y
  le := by
    show i * t.sz + t.sz ≤ n * t.sz
    rw [← Nat.succ_mul]; exact Nat.mul_le_mul_right _ hi
  getR := fun {P H cs x} ⟨css, e, h⟩ => by
    obtain ⟨c, hc, hr⟩ := h.get (i := i) (x := x.l[i]'(by rw [x.len]; exact hi)) (List.getElem?_eq_getElem _)
    rw [e, flat_sub h.lens hc]; exact hr
  putR := fun {P H cs x c y} ⟨css, e, h⟩ k => by
    have hlen := h.length
    have hx := x.len
    have hc := t.len k
    exact ⟨css.set i c, by rw [e]; exact flat_splice h.lens (by omega) hc, h.set k⟩
def Fld.comp {t u w : T} {o o' : Nat} (F : Fld t u o) (G : Fld u w o') : Fld t w (o + o') where
  get := fun x => G.get (F.get x)
  put := fun x y => F.put x (G.put (F.get x) y)
  le := by have := F.le; have := G.le; omega
  getR := fun {P H cs x} h => by
    have h1 := F.le
    have h2 := G.le
    have h3 := t.len h
    have := G.getR (F.getR h)
    rw [show sub cs (o + o') w.sz = sub (sub cs o u.sz) o' w.sz by
      simp only [sub]
      rw [List.drop_take, List.take_take, List.drop_drop, Nat.min_eq_left (by omega)]]
    exact this
  putR := fun {P H cs x c y} h k => by
    have h1 := F.le
    have h2 := G.le
    have h3 := t.len h
    have h4 := w.len k
    have := F.putR h (G.putR (F.getR h) k)
    rw [show splice cs (o + o') c = splice cs o (splice (sub cs o u.sz) o' c) by
      have hsl : (splice (sub cs o u.sz) o' c).length = u.sz := by
        rw [splice_len] <;> simp only [sub, List.length_take, List.length_drop] <;> omega
      apply List.ext_getElem?
      intro i
      simp only [splice, sub, List.getElem?_append, List.getElem?_take, List.getElem?_drop, List.length_append, List.length_take, List.length_drop]
      have hl2 : (splice (sub cs o u.sz) o' c).length = u.sz := hsl
      simp only [splice, sub, List.length_append, List.length_take, List.length_drop] at hl2
      repeat' split
      all_goals first | rfl | omega | (congr 1; omega) | (exfalso; omega)]
    exact this
theorem idxN_spec {n : Nat} {i : Int} {m : Nat} (h : idxN n i = some m) : 0 ≤ i ∧ m = i.toNat ∧ m < n := by
  unfold idxN at h
  split at h
  · rename_i hc; cases h; exact ⟨hc.1, rfl, hc.2⟩
  · cases h
theorem h_iaaC {j o len sz : Nat} {k : IntKind} {i : Int} (ha : OpF tb Γ a (.cp j o)) (hb : OpF tb Γ b (.val (T.int k) i)) : OpH tb Γ (.iaa len sz a b) (idxN len i) fun m => .cp j (o + m * sz) := by
  intro E rv fp f H R m hm
  obtain ⟨h0, rfl, h1⟩ := idxN_spec hm
  obtain ⟨l, id, e, hv⟩ := ha E rv fp f H R
  exact ⟨.ptr id (o + i.toNat * sz), none, by simp only [aop, hv, T.int_V.1 (hb E rv fp f H R), int?, Option.bind_some, if_pos (show 0 ≤ i ∧ i < (len : Int) by omega), shift, val, Option.map_some], rfl, l, id, e, rfl⟩
theorem h_iaa {t : T} {n len sz : Nat} {x : Ar t.α n} {k : IntKind} {i : Int} (hl : len = n) (hs : sz = t.sz) (ha : OpF tb Γ a (.rp (T.arr n t) x)) (hb : OpF tb Γ b (.val (T.int k) i)) : OpH tb Γ (.iaa len sz a b) (idx x.l i) fun y => .rp t y := by
  intro E rv fp f H R y hy
  simp only [idx] at hy
  split at hy
  · rename_i h0
    have hlt := x.get_lt hy
    subst hl hs
    obtain ⟨v, h1, h2⟩ := RpV.shift (Fld.at len t i.toNat hlt) (ha E rv fp f H R)
    have : (Fld.at len t i.toNat hlt).get x = y := by
      have := List.getElem?_eq_some_iff.1 hy
      exact this.2
    rw [this] at h2
    exact ⟨v, none, by simp only [aop, T.int_V.1 (hb E rv fp f H R), int?, Option.bind_some, if_pos (show 0 ≤ i ∧ i < (len : Int) by omega), h1, val, Option.map_some], rfl, h2⟩
  · cases hy
theorem h_ixa {t : T} {n len sz : Nat} {x : Ar t.α n} {ag : Bool} {k : IntKind} {i : Int} (hl : len = n) (hs : sz = t.sz) (hag : ag = t.agg) (ha : OpF tb Γ a (.val (T.arr n t) x)) (hb : OpF tb Γ b (.val (T.int k) i)) : OpH tb Γ (.ixa len sz ag a b) (idx x.l i) fun y => .val t y := by
  intro E rv fp f H R y hy
  simp only [idx] at hy
  split at hy
  · rename_i h0
    have hlt := x.get_lt hy
    subst hl hs hag
    rcases ha E rv fp f H R with ⟨_, cs, e, r⟩ | ⟨e, _⟩
    · have hg := (Fld.at len t i.toNat hlt).getR r
      have : (Fld.at len t i.toNat hlt).get x = y := (List.getElem?_eq_some_iff.1 hy).2
      rw [this] at hg
      obtain ⟨v, h1, h2⟩ := T.V.of hg
      have hlen := (T.arr len t).len r
      have hlen' : cs.length = len * t.sz := hlen
      exact ⟨v, none, by simp only [aop, e, T.int_V.1 (hb E rv fp f H R), int?, Option.bind_some, if_pos (show 0 ≤ i ∧ i < (len : Int) ∧ len * t.sz ≤ cs.length by omega), h1, val, Option.map_some], rfl, h2⟩
    · cases e
  · cases hy
/-- an element of an array that is (part of) a variable -/
theorem h_ldA {s t : T} {x : s.α} {n j o o' m k N : Nat} {ag : Bool} {ps : List (Nat × Fact)} (F : Fld s (T.arr n t) o') (hag : ag = t.agg) (hk : k = t.sz) (ha : OpF tb Γ a (.cp j (o + m * t.sz))) (hj : findS Γ.ss j = some (.cells ps)) (hp : findP ps o = some (N, .val s x, o')) :
    OpH tb Γ (.ld ag k a) ((F.get x).l[m]?) fun y => .val t y := by
  intro E rv fp f H R y hy
  have hlt := (F.get x).get_lt hy
  obtain ⟨l, id, e, hv⟩ := ha E rv fp f H R
  obtain ⟨cs, h0, h2, h3⟩ := cells_of R hj e
  obtain ⟨b', c, e0, e1, e2, e3, e4, e5, _⟩ := findP_spec h3 hp
  have G := Fld.comp F (Fld.at n t m hlt)
  have hr := (Fld.comp F (Fld.at n t m hlt)).getR e4
  have hle := (Fld.comp F (Fld.at n t m hlt)).le
  have hl := s.len e4
  have : (Fld.comp F (Fld.at n t m hlt)).get x = y := (List.getElem?_eq_some_iff.1 hy).2
  rw [this, ← e5 (o' + m * t.sz) t.sz (by omega), show b' + (o' + m * t.sz) = o + m * t.sz by omega] at hr
  obtain ⟨v, g1, g2⟩ := T.V.of hr
  subst hag hk
  exact ⟨v, none, by simp only [aop, hv, Am.load, place, h2, Option.map_some, Option.bind_some, if_pos (show o + m * t.sz + t.sz ≤ cs.length by omega), g1, val], rfl, g2⟩
end
end Go.Proofs.YtobejhpigbllpaaGreatDoor.Am
