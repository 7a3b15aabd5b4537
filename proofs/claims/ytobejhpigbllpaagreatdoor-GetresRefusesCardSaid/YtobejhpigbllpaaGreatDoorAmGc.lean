/-
  Each of the machine's operations does what the model's does: what is built of parts, copies.
-/
import Derived.Test.YtobejhpigbllpaaGreatDoorAmGb
namespace Go.Proofs.YtobejhpigbllpaaGreatDoor.Am
section
variable {cl : Nat → List AV → Heap → Out} {P : Program} {tb : Tab} {C : Ctx} {f : Fr} {a : Act} {nt : Nat}

theorem foldl_splice : ∀ (l : List Value) (off k : Nat) (cs : Array Value), off + k + l.length ≤ cs.size →
    ((l.zipIdx k).foldl (fun cs (p : Value × Nat) => cs.setIfInBounds (off + p.2) p.1) cs).toList = cs.toList.take (off + k) ++ l ++ cs.toList.drop (off + k + l.length)
  | [], off, k, cs, _ => by simp
  | v :: l, off, k, cs, h => by
    simp only [List.length_cons] at h
    rw [List.zipIdx_cons, List.foldl_cons]
    rw [foldl_splice l off (k + 1) _ (by simp only [Array.size_setIfInBounds]; omega)]
    simp only [Array.toList_setIfInBounds]
    have hlt : off + k < cs.toList.length := by simp only [Array.length_toList]; omega
    rw [← Nat.add_assoc, List.take_set, List.drop_set_of_lt (by omega)]
    have ht : (cs.toList.take (off + k + 1)).set (off + k) v = cs.toList.take (off + k) ++ [v] := by
      rw [List.take_succ_eq_append_getElem hlt, List.set_append_right _ _ (by simp only [List.length_take]; omega)]
      simp only [List.length_take]
      rw [show off + k - min (off + k) cs.toList.length = 0 by omega]
      rfl
    rw [ht]
    simp only [List.length_cons]
    rw [show off + k + 1 + l.length = off + k + (l.length + 1) by omega]
    simp

/-- parts, where they go -/
def okParts (place : Nat → Option (Nat × Nat)) : List (Nat × Nat × AO) → List (Nat × Operand) → Bool
  | [], [] => true
  | (off, n, x) :: r, (i, y) :: q => (match place i with
    | some (off', n') => Nat.beq off off' && Nat.beq n n'
    | none => false) && Nat.blt 0 n && okAO x y && okParts place r q
  | _, _ => false

theorem okParts_spec {place : Nat → Option (Nat × Nat)} {off n i : Nat} {x : AO} {y : Operand} {r : List (Nat × Nat × AO)} {q : List (Nat × Operand)} (h : okParts place ((off, n, x) :: r) ((i, y) :: q) = true) :
    place i = some (off, n) ∧ 0 < n ∧ okAO x y = true ∧ okParts place r q = true := by
  simp only [okParts, Bool.and_eq_true] at h
  obtain ⟨⟨⟨h1, h2⟩, h3⟩, h4⟩ := h
  refine ⟨?_, by simpa using h2, h3, h4⟩
  split at h1
  · rename_i o' n' hp
    simp only [Bool.and_eq_true, Nat.beq_eq] at h1
    rw [hp, h1.1, h1.2]
  · cases h1

theorem fill_cons {place : Nat → Option (Nat × Nat)} {cells : Array Value} {i off n : Nat} {v : Value} {rest : List (Nat × Value)} (hp : place i = some (off, n)) (hn : v.cells.size = n) (hle : off + n ≤ cells.size) :
    ∃ cells' : Array Value, Instr.fill place cells ((i, v) :: rest) = Instr.fill place cells' rest ∧ cells'.toList = cells.toList.take off ++ v.cells.toList ++ cells.toList.drop (off + v.cells.toList.length) := by
  refine ⟨v.cells.zipIdx.foldl (fun cs (c, j) => cs.setIfInBounds (off + j) c) cells, ?_, ?_⟩
  · simp only [Instr.fill, hp]
    rw [if_neg]
    simp
    omega
  · rw [← Array.foldl_toList, Array.toList_zipIdx]
    have := foldl_splice v.cells.toList off 0 cells (by simp; omega)
    simpa using this

theorem fill_rep (I : Inv tb C) (F : FrRel C f a nt) {place : Nat → Option (Nat × Nat)} : ∀ (ps : List (Nat × Nat × AO)) (ys : List (Nat × Operand)), okParts place ps ys = true → ∀ {cs cs' : List AV} {cells : Array Value}, RepL C cs cells.toList → cs.all scal = true →
    fillL cs (eval tb f) ps = some cs' → ∃ cells', Instr.fill place cells (ys.map fun (i, y) => (i, a.eval y)) = some cells' ∧ RepL C cs' cells'.toList ∧ cs'.all scal = true
  | [], [], _, cs, cs', cells, hr, hs, h => by
    simp only [fillL, Option.some.injEq] at h
    subst h
    exact ⟨cells, rfl, hr, hs⟩
  | [], _ :: _, h, _, _, _, _, _, _ => by simp [okParts] at h
  | (_, _, _) :: _, [], h, _, _, _, _, _, _ => by simp [okParts] at h
  | (off, n, x) :: ps, (i, y) :: ys, hok, cs, cs', cells, hr, hs, h => by
    obtain ⟨h1, h2, h3, h4⟩ := okParts_spec hok
    simp only [fillL] at h
    split at h
    · rename_i hc
      obtain ⟨hn, hle⟩ := hc
      obtain ⟨c1, c2⟩ := cells_rep (rep_eval I F h3) (by omega)
      have hsz : (a.eval y).cells.size = n := by have := c1.length; rw [hn] at this; simpa using this
      have hcl : cells.size = cs.length := by have := hr.length; simpa using this
      obtain ⟨cells1, e1, e2⟩ := fill_cons (rest := ys.map fun (i, y) => (i, a.eval y)) h1 hsz (by omega : off + n ≤ cells.size)
      obtain ⟨cells2, e3, e4, e5⟩ := fill_rep I F ps ys h4 (cells := cells1) (by rw [e2]; exact splice_rep hr c1) (splice_scal hs c2) h
      exact ⟨cells2, by rw [List.map_cons, e1, e3], e4, e5⟩
    · cases h

def plc? (P : Program) (t : TypeId) : Option (Nat → Option (Nat × Nat)) :=
  match P.underlying t with
  | some (.array _ e) => if (P.info? e).isSome then some fun i => some (i * P.cellsOf e, P.cellsOf e) else none
  | some (.struct fields) => if fields.toList.all fun f => (P.info? f.type).isSome then some fun i => match fields[i]? with
    | some f => some (f.offset, P.cellsOf f.type)
    | none => none
    else none
  | _ => none

theorem places_of : ∀ (fs : List Field), fs.all (fun f => (P.info? f.type).isSome) = true → fs.mapM (fun f => (P.info? f.type).map fun i => (f.offset, i.size)) = some (fs.map fun f => (f.offset, P.cellsOf f.type))
  | [], _ => by simp
  | f :: fs, h => by
    simp only [List.all_cons, Bool.and_eq_true] at h
    obtain ⟨i, hi⟩ := Option.isSome_iff_exists.1 h.1
    rw [List.mapM_cons, places_of fs h.2]
    simp [hi, Program.cellsOf]

theorem built_of {t : TypeId} {place : Nat → Option (Nat × Nat)} {it : TypeInfo} {z : Value} (h : plc? P t = some place) (hi : P.info? t = some it) (hz : it.zero = some z) (parts : List (Nat × Value)) : P.built t parts = Instr.fill place z.cells parts := by
  unfold plc? at h
  unfold Program.built
  split at h
  · rename_i n e hu
    split at h
    · rename_i hs
      obtain ⟨ie, he⟩ := Option.isSome_iff_exists.1 hs
      obtain rfl := Option.some.inj h
      simp only [hi, hu, hz, he, Program.cellsOf]
      simp
    · cases h
  · rename_i fs hu
    split at h
    · rename_i hs
      obtain rfl := Option.some.inj h
      simp only [hi, hu, hz, places_of fs.toList hs]
      congr 1
      funext i
      simp only [List.getElem?_toArray, List.getElem?_map, Array.getElem?_toList]
      cases fs[i]? <;> rfl
    · cases h
  · cases h

theorem sim_bld (I : Inv tb C) (F : FrRel C f a nt) {o : Oper} {t : TypeId} {zero : List AV} {ps : List (Nat × Nat × AO)} {ys : Array (Nat × Operand)} (ho : o.op = .build t ys) {place : Nat → Option (Nat × Nat)} {it : TypeInfo} {z : Value} (h : plc? P t = some place)
    (hi : P.info? t = some it) (hz : it.zero = some z) (hzs : isSs zero z.cells.toList = true) (hp : okParts place ps ys.toList = true) {cs : List AV} (hv : fillL zero (eval tb f) ps = some cs) : Yields tb C (.agg cs, none) ((execOp a.eval o).run P C.w) := by
  obtain ⟨r1, r2⟩ := isSs_rep (C := C) hzs
  obtain ⟨cells, e1, e2, e3⟩ := fill_rep I F ps ys.toList hp r1 r2 hv
  refine yields_pure I (v := .agg cells) ?_ ⟨cells.toList, by simp, e3, e2⟩
  have hb : P.built t (ys.map fun (i, x) => (i, a.eval x)).toList = some cells := by
    rw [built_of h hi hz, Array.toList_map]
    exact e1
  simp only [execOp, ho, Sem.run_bind, run_build C.w t _ cells hb, Result.andThen_ok, Sem.run_pure]

theorem flatten_set {α : Type} {sz : Nat} (new : List α) (hn : new.length = sz) : ∀ (l : List (List α)) (i : Nat), (∀ y ∈ l, y.length = sz) → i < l.length →
    (l.set i new).flatten = l.flatten.take (i * sz) ++ new ++ l.flatten.drop (i * sz + new.length)
  | [], _, _, h => by simp at h
  | y :: l, 0, hy, _ => by
    have hyl := hy y List.mem_cons_self
    simp only [List.set_cons_zero, List.flatten_cons, Nat.zero_mul, Nat.zero_add, List.take_zero, List.nil_append]
    rw [List.drop_append, List.drop_of_length_le (by omega), show new.length - y.length = 0 by omega]
    simp
  | y :: l, i + 1, hy, h => by
    have hyl := hy y List.mem_cons_self
    simp only [List.set_cons_succ, List.flatten_cons]
    rw [flatten_set new hn l i (fun z hz => hy z (List.mem_cons_of_mem _ hz)) (by simpa using h)]
    rw [Nat.succ_mul, List.take_append, List.take_of_length_le (l := y) (by omega), List.drop_append, List.drop_of_length_le (l := y) (by omega), List.nil_append]
    rw [show i * sz + sz - y.length = i * sz by omega, show i * sz + sz + new.length - y.length = i * sz + new.length by omega]
    simp

def okElems (sz : Nat) : List (Nat × AO) → List (Nat × Operand) → Bool
  | [], [] => true
  | (i, x) :: r, (j, y) :: q => i == j && okAO x y && okElems sz r q
  | _, _ => false

theorem fillE_rep (I : Inv tb C) (F : FrRel C f a nt) {sz : Nat} (hsz : 0 < sz) : ∀ (ps : List (Nat × AO)) (ys : List (Nat × Operand)), okElems sz ps ys = true → ∀ {els els' : List (List AV)} {vss : List (List Value)} {cells : Array Value}, RepLL C els vss →
    (∀ e ∈ els, e.length = sz ∧ e.all scal = true) → cells.toList = vss.flatten → fillE els sz (eval tb f) ps = some els' →
    ∃ cells' vss', Instr.fill (fun i => some (i * sz, sz)) cells (ys.map fun (i, y) => (i, a.eval y)) = some cells' ∧ RepLL C els' vss' ∧ (∀ e ∈ els', e.length = sz ∧ e.all scal = true) ∧ cells'.toList = vss'.flatten ∧ els'.length = els.length
  | [], [], _, els, els', vss, cells, hr, hs, hc, h => by
    simp only [fillE, Option.some.injEq] at h
    subst h
    exact ⟨cells, vss, rfl, hr, hs, hc, rfl⟩
  | [], _ :: _, h, _, _, _, _, _, _, _, _ => by simp [okElems] at h
  | (_, _) :: _, [], h, _, _, _, _, _, _, _, _ => by simp [okElems] at h
  | (i, x) :: ps, (j, y) :: ys, hok, els, els', vss, cells, hr, hs, hc, h => by
    simp only [okElems, Bool.and_eq_true, beq_iff_eq] at hok
    obtain ⟨⟨rfl, h3⟩, h4⟩ := hok
    simp only [fillE] at h
    split at h
    · rename_i hcc
      obtain ⟨hn, hi⟩ := hcc
      obtain ⟨c1, c2⟩ := cells_rep (rep_eval I F h3) (by omega)
      have hvl : (a.eval y).cells.toList.length = sz := by rw [c1.length, hn]
      have hlens := RepLL.lens (fun x hx => (hs x hx).1) hr
      have hcl : cells.size = els.length * sz := by
        rw [← Array.length_toList, hc, flat_length _ hlens, hr.length]
      have hle : i * sz + sz ≤ cells.size := by
        rw [hcl, ← Nat.succ_mul]
        exact Nat.mul_le_mul_right _ hi
      obtain ⟨cells1, e1, e2⟩ := fill_cons (place := fun i => some (i * sz, sz)) (rest := ys.map fun (i, y) => (i, a.eval y)) rfl (by simpa using hvl) hle
      obtain ⟨cells2, vss2, e3, e4, e5, e6, e7⟩ := fillE_rep I F hsz ps ys h4 (cells := cells1) (RepLL.set (i := i) c1 hr) (fun e he => by
        rcases List.mem_or_eq_of_mem_set he with he | he
        · exact hs e he
        · subst he; exact ⟨hn, c2⟩) (by rw [e2, hc, flatten_set _ hvl _ _ hlens (by rw [hr.length]; exact hi)]) h
      exact ⟨cells2, vss2, by rw [List.map_cons, e1, e3], e4, e5, e6, by rw [e7]; simp⟩
    · cases h

theorem zeros_list (z : Array Value) (n : Nat) : ((Array.range (n * z.size)).map (z[· % z.size]!)).toList = (List.replicate n z.toList).flatten := by
  apply List.ext_getElem
  · simp [List.length_flatten]
  · intro i h1 h2
    have hi : i < n * z.size := by simpa using h1
    have hpos : 0 < z.size := by
      rcases Nat.eq_zero_or_pos z.size with h | h
      · rw [h] at hi; simp at hi
      · exact h
    have hmod : i % z.size < z.size := Nat.mod_lt _ hpos
    have key : ∀ (n i : Nat), i < n * z.size → (List.replicate n z.toList).flatten[i]? = z.toList[i % z.size]? := by
      intro n
      induction n with
      | zero => intro i h; simp at h
      | succ n ih =>
        intro i h
        rw [List.replicate_succ, List.flatten_cons]
        rcases Nat.lt_or_ge i z.size with hlt | hge
        · rw [List.getElem?_append_left (by simpa using hlt), Nat.mod_eq_of_lt hlt]
        · rw [List.getElem?_append_right (by simpa using hge)]
          simp only [Array.length_toList]
          rw [ih (i - z.size) (by rw [Nat.succ_mul] at h; omega), ← Nat.mod_eq_sub_mod hge]
    have := key n i hi
    rw [List.getElem?_eq_getElem h2] at this
    simp only [Array.toList_map, Array.toList_range, List.getElem_map, List.getElem_range]
    rw [getElem!_pos z (i % z.size) hmod]
    have h3 : z.toList[i % z.size]? = some z[i % z.size] := by simp [hmod]
    rw [h3] at this
    exact (Option.some.inj this).symm

theorem bls_run (I : Inv tb C) (F : FrRel C f a nt) {o : Oper} {t e : TypeId} {len : Nat} {zero : List (List AV)} {ps : List (Nat × AO)} {ys : Array (Nat × Operand)} (ho : o.op = .buildSlice t len ys) (hu : P.underlying t = some (.slice e)) {i : TypeInfo} {z : Value}
    (hi : P.info? e = some i) (hz : i.zero = some z) (hzz : z.cells.size = P.cellsOf e) (hz0 : 0 < P.cellsOf e) (hb : len * P.cellsOf e ≤ 2 ^ 24) (hl : zero.length = len) (hzs : zero.all (isSs · z.cells.toList) = true) (hp : okElems (P.cellsOf e) ps ys.toList = true)
    {els : List (List AV)} (hv : fillE zero (P.cellsOf e) (eval tb f) ps = some els) : ∃ (cells : Array Value) (vss : List (List Value)), RepLL C els vss ∧ (∀ x ∈ els, x.length = P.cellsOf e ∧ x.all scal = true) ∧
      cells.toList = vss.flatten ∧ els.length * P.cellsOf e ≤ cells.size ∧ (execOp a.eval o).run P C.w = .ok (.value (.slice (some ⟨C.w.heap.size, 0, none⟩) els.length els.length)) (C.w.alloc (.cells cells e)) := by
  have hinfo : (P.info? e).isSome = true := by rw [hi]; rfl
  have hcells : P.cellsOf e = i.size := by simp [Program.cellsOf, hi]
  -- the zeros
  have hz1 : ∀ l : List (List AV), l.all (isSs · z.cells.toList) = true → RepLL C l (List.replicate l.length z.cells.toList) ∧ ∀ e' ∈ l, e'.length = P.cellsOf e ∧ e'.all scal = true := by
    intro l
    induction l with
    | nil => intro _; exact ⟨rfl, fun e he => by cases he⟩
    | cons x l ih =>
      intro h
      simp only [List.all_cons, Bool.and_eq_true] at h
      obtain ⟨r1, r2⟩ := isSs_rep (C := C) h.1
      obtain ⟨q1, q2⟩ := ih h.2
      refine ⟨⟨_, _, by rw [List.length_cons, List.replicate_succ], r1, q1⟩, fun e' he => ?_⟩
      rcases List.mem_cons.1 he with rfl | he
      · exact ⟨by rw [← r1.length]; simpa using hzz, r2⟩
      · exact q2 e' he
  obtain ⟨q1, q2⟩ := hz1 zero hzs
  have hc : ((Array.range (len * P.cellsOf e)).map (fun j => (if len * P.cellsOf e = 0 then (#[] : Array Value) else z.cells)[j % (if len * P.cellsOf e = 0 then (#[] : Array Value) else z.cells).size]!)).toList = (List.replicate zero.length z.cells.toList).flatten := by
    by_cases h0 : len * P.cellsOf e = 0
    · have hl0 : len = 0 := by
        rcases Nat.mul_eq_zero.1 h0 with h | h
        · exact h
        · omega
      rw [hl, hl0]
      simp
    · simp only [if_neg h0]
      rw [hl, ← hzz]
      exact zeros_list z.cells len
  obtain ⟨cells, vss, e1, e2, e3, e4, e5⟩ := fillE_rep I F hz0 ps ys.toList hp q1 q2 hc hv
  have hel : els.length = len := by rw [e5, hl]
  have hsize : cells.size = els.length * P.cellsOf e := by
    rw [← Array.length_toList, e4, flat_length _ (RepLL.lens (fun x hx => (e3 x hx).1) e2), e2.length]
  refine ⟨cells, vss, e2, e3, e4, by omega, ?_⟩
  · have hnb : ¬ (len * P.cellsOf e > 2 ^ 24) := by omega
    have e1' : Instr.fill (fun i => some (i * P.cellsOf e, P.cellsOf e)) ((Array.range (len * P.cellsOf e)).map (fun j => (if len * P.cellsOf e = 0 then (#[] : Array Value) else z.cells)[j % (if len * P.cellsOf e = 0 then (#[] : Array Value) else z.cells).size]!))
        (ys.map fun x => (x.fst, a.eval x.snd)).toList = some cells := by
      rw [Array.toList_map]; exact e1
    by_cases h0 : len * P.cellsOf e = 0
    · simp only [if_pos h0] at e1'
      simp only [execOp, ho, Instr.buildSlice, Sem.run_bind, run_underlying' hu, Result.andThen_ok, run_sizeOf' hinfo, if_neg hnb, Sem.run_pure, if_pos h0, e1', newRow, run_newObj, hel]
      rfl
    · simp only [if_neg h0] at e1'
      simp only [execOp, ho, Instr.buildSlice, Sem.run_bind, run_underlying' hu, Result.andThen_ok, run_sizeOf' hinfo, if_neg hnb, Sem.run_pure, if_neg h0, zeroValue, run_typeInfo' hi, hz, e1', newRow, run_newObj, hel]
      rfl

theorem sim_bls (I : Inv tb C) (F : FrRel C f a nt) {o : Oper} {t e : TypeId} {len : Nat} {zero : List (List AV)} {ps : List (Nat × AO)} {ys : Array (Nat × Operand)} (ho : o.op = .buildSlice t len ys) (hu : P.underlying t = some (.slice e)) {i : TypeInfo} {z : Value}
    (hi : P.info? e = some i) (hz : i.zero = some z) (hzz : z.cells.size = P.cellsOf e) (hz0 : 0 < P.cellsOf e) (hb : len * P.cellsOf e ≤ 2 ^ 24) (hl : zero.length = len) (hzs : zero.all (isSs · z.cells.toList) = true) (hp : okElems (P.cellsOf e) ps ys.toList = true)
    {els : List (List AV)} (hv : fillE zero (P.cellsOf e) (eval tb f) ps = some els) : Yields tb C (.orow C.H.length els.length 0 els.length, some (C.H ++ [AObj.row (some e) false (P.cellsOf e) els])) ((execOp a.eval o).run P C.w) := by
  obtain ⟨cells, vss, e2, e3, e4, e5, e6⟩ := bls_run I F ho hu hi hz hzz hz0 hb hl hzs hp hv
  refine yields_row (e := e) (w := C.w) (arr := cells) (K := els.length) I ⟨rfl, rfl, rfl⟩ rfl hz0 e3 e2 (fun j v hj => ?_) (Nat.le_refl _) e5 e6
  rw [← e4] at hj; simpa using hj

theorem sim_bll (I : Inv tb C) (F : FrRel C f a nt) {o : Oper} {t e : TypeId} {len : Nat} {zero : List (List AV)} {ps : List (Nat × AO)} {ys : Array (Nat × Operand)} (ho : o.op = .buildSlice t len ys) (hu : P.underlying t = some (.slice e)) {i : TypeInfo} {z : Value}
    (hi : P.info? e = some i) (hz : i.zero = some z) (hzz : z.cells.size = P.cellsOf e) (hz0 : 0 < P.cellsOf e) (hb : len * P.cellsOf e ≤ 2 ^ 24) (hl : zero.length = len) (hzs : zero.all (isSs · z.cells.toList) = true) (hp : okElems (P.cellsOf e) ps ys.toList = true)
    {els : List (List AV)} (hv : fillE zero (P.cellsOf e) (eval tb f) ps = some els) : Yields tb C (.sl (P.cellsOf e) els, none) ((execOp a.eval o).run P C.w) := by
  obtain ⟨cells, vss, e2, e3, e4, e5, e6⟩ := bls_run I F ho hu hi hz hzz hz0 hb hl hzs hp hv
  obtain ⟨X, ID⟩ := grown (w := C.w.alloc (.cells cells e)) I ⟨rfl, rfl, rfl⟩ (by rw [alloc_size]; omega) fun b hb => alloc_old _ _ hb
  refine ⟨_, X, ID, rfl, .inl ⟨_, e6, .inl ⟨C.w.heap.size, 0, els.length, vss, rfl, Nat.le_refl _, by rw [alloc_size]; omega, ?_, fun j v hj => ?_, e3, RepLL.ext X e2⟩⟩⟩
  · rintro ⟨id, hid, e'⟩
    have := I.lt id hid
    simp only at e'
    omega
  · have hn : (C.w.alloc (.cells cells e)).heap[C.w.heap.size]? = some (.cells cells e) := alloc_new _ _
    simp only [World.cell?, hn, Nat.zero_add]
    rw [← e4] at hj
    simpa using hj

theorem sim_s2a (I : Inv tb C) (F : FrRel C f a nt) {o : Oper} {t e : TypeId} {n : Nat} {x : AO} {y : Operand} (ho : o.op = .sliceToArrayPointer t y) (hu : P.underlying t = some (.array n e)) (hn : 0 < n) (hx : okAO x y = true) {r : AV × Option Heap}
    (h : val (arrOf n (P.cellsOf e) (eval tb f x)) = some r) : Yields tb C r ((execOp a.eval o).run P C.w) := by
  have hr := rep_eval I F hx
  have run : ∀ {p : Option Addr} {len cap : Nat}, a.eval y = .slice p len cap → n ≤ len → (execOp a.eval o).run P C.w = .ok (.value (.pointer p)) C.w := by
    intro p len cap he hle
    simp only [execOp, ho, he, Instr.arrayAt, Sem.run_bind, run_underlying' hu, Result.andThen_ok, if_neg (show ¬ len < n by omega), Sem.run_pure]
  generalize eval tb f x = v at *
  cases v <;> simp only [arrOf, val, Option.map_none, reduceCtorEq] at h
  case ocel sz id off len =>
    split at h
    · rename_i hc
      simp only [Option.map_some, Option.some.injEq] at h
      subst h
      obtain ⟨hobj, o', cap, e', hlc, hoff, hsz⟩ := hr
      refine yields_pure I (run e' hc.2) ⟨hobj, ?_⟩
      rw [hoff (by omega)]
    · simp at h
  case sl sz els =>
    split at h
    · rename_i hc
      simp only [Option.map_some, Option.some.injEq] at h
      subst h
      rcases hr with ⟨b, base, cap, vss, e', hlc, hlt, hown, hh, hs, hrr⟩ | ⟨rfl, _⟩
      case inr => have := hc.2; simp at this; omega
      refine yields_pure I (run e' hc.2) ⟨b, base, (vss.take n).flatten, by simp, hlt, hown, ?_, flat_scal fun x hx => (hs x (List.mem_of_mem_take hx)).2, RepLL.flat hrr.take⟩
      have hlens := RepLL.lens (fun x hx => (hs x hx).1) hrr
      rw [flatten_take _ _ hlens]
      have := hh.sub 0 (n * sz)
      simpa using this
    · simp at h

theorem sim_mnx (I : Inv tb C) (F : FrRel C f a nt) {o : Oper} {c : Call} {mx : Bool} {x1 x2 : AO} {y1 y2 : Operand} (ho : o.op = .call c) (hc : c.callee = .builtin (if mx then .max else .min)) (ha : c.args = #[y1, y2]) (h1 : okAO x1 y1 = true) (h2 : okAO x2 y2 = true)
    {k : IntKind} {p q : Int} (e1 : eval tb f x1 = .i k p) (e2 : eval tb f x2 = .i k q) : Yields tb C (.i k (if mx then (if q > p then q else p) else (if q < p then q else p)), none) ((execOp a.eval o).run P C.w) := by
  have r1 := rep_eval I F h1
  have r2 := rep_eval I F h2
  rw [e1] at r1
  rw [e2] at r2
  have r1' : a.eval y1 = .int k p := r1
  have r2' : a.eval y2 = .int k q := r2
  refine yields_pure I (v := .int k (if mx then (if q > p then q else p) else (if q < p then q else p))) (run_builtin ho hc fun qs => ?_) rfl
  cases mx
  · simp only [ha, List.map_toArray, List.map_cons, List.map_nil, Bool.false_eq_true, if_false, builtin, Sem.run_bind, Builtin.min_, List.foldlM_cons, List.foldlM_nil, r1', r2', Builtin.min2]
    split <;> simp_all
  · simp only [ha, List.map_toArray, List.map_cons, List.map_nil, if_true, builtin, Sem.run_bind, Builtin.max_, List.foldlM_cons, List.foldlM_nil, r1', r2', Builtin.max2]
    split <;> simp_all

end
end Go.Proofs.YtobejhpigbllpaaGreatDoor.Am
