/-
  Each of the machine's operations does what the model's does: those that call nobody.
-/
import Derived.Test.YtobejhpigbllpaaGreatDoorAmD
import Derived.Laws.IdiomCopy
import Derived.Laws.StructEq
import Derived.Laws.Cells
namespace Go.Proofs.YtobejhpigbllpaaGreatDoor.Am

/-! What the code's constants and types must be. -/
def isS : AV → Value → Bool
  | .b x, .bool y => x == y
  | .i k n, .int j m => k == j && n == m
  | .s l, .string s => l == s.data.toList
  | .nilp, .pointer none => true
  | .nils, .slice none 0 0 => true
  | .nilm, .map none => true
  | .nilf, .nilFunc => true
  | .nili, .nilIface => true
  | _, _ => false
def isSs : List AV → List Value → Bool
  | [], [] => true
  | a :: r, v :: q => isS a v && isSs r q
  | _, _ => false
def isV (a : AV) (v : Value) : Bool :=
  match a, v with
  | .agg cs, .agg vs => isSs cs vs.toList
  | a, v => isS a v

theorem isS_rep {C : Ctx} {a : AV} {v : Value} (h : isS a v = true) : Rep C a v ∧ scal a = true := by
  unfold isS at h
  split at h <;> simp only [Bool.false_eq_true, Bool.and_eq_true, beq_iff_eq] at h
  · subst h; exact ⟨rfl, rfl⟩
  · obtain ⟨rfl, rfl⟩ := h; exact ⟨rfl, rfl⟩
  · subst h; exact ⟨by simp [Rep], rfl⟩
  all_goals exact ⟨rfl, rfl⟩
theorem isSs_rep {C : Ctx} : ∀ {l : List AV} {vs : List Value}, isSs l vs = true → RepL C l vs ∧ l.all scal = true
  | [], [], _ => ⟨rfl, rfl⟩
  | [], _ :: _, h => by simp [isSs] at h
  | _ :: _, [], h => by simp [isSs] at h
  | _ :: _, v :: q, h => by
    simp only [isSs, Bool.and_eq_true] at h
    obtain ⟨h1, h2⟩ := isS_rep (C := C) h.1
    obtain ⟨h3, h4⟩ := isSs_rep (C := C) h.2
    exact ⟨⟨v, q, rfl, h1, h3⟩, by simp [h2, h4]⟩
theorem isV_rep {C : Ctx} {a : AV} {v : Value} (h : isV a v = true) : Rep C a v := by
  unfold isV at h
  split at h
  · rename_i cs vs
    obtain ⟨h1, h2⟩ := isSs_rep (C := C) h
    exact ⟨vs.toList, by simp, h2, h1⟩
  · exact (isS_rep h).1

def okAO : AO → Operand → Bool
  | .t n, .tmp m => n == m
  | .k a, .const v => isV a v
  | .f n, .func m => n == m
  | .g n, .global m => n == m
  | _, _ => false
def okAOs : List AO → List Operand → Bool
  | [], [] => true
  | x :: r, y :: q => okAO x y && okAOs r q
  | _, _ => false
def okO : Option AO → Option Operand → Bool
  | none, none => true
  | some x, some y => okAO x y
  | _, _ => false

def aggT (P : Program) (t : TypeId) : Bool :=
  match P.underlying t with
  | some (.struct _) => true
  | some (.array _ _) => true
  | _ => false

/-- the frame, and what it is in the model -/
structure FrRel (C : Ctx) (f : Fr) (a : Act) (nt : Nat) : Prop where
  rep : ∀ t, Rep C (get f t) (a.tmps.getD t undef)
  size : a.tmps.size = nt
  defers : a.defers = []

section
variable {cl : Nat → List AV → Heap → Out} {P : Program} {tb : Tab} {C : Ctx} {f : Fr} {a : Act} {nt : Nat}

theorem rep_eval (I : Inv tb C) (F : FrRel C f a nt) {x : AO} {y : Operand} (h : okAO x y = true) : Rep C (eval tb f x) (a.eval y) := by
  cases x <;> cases y <;> simp only [okAO, Bool.false_eq_true, beq_iff_eq] at h
  · subst h; exact F.rep _
  · exact isV_rep h
  · subst h; exact ⟨[], [], rfl, rfl, rfl⟩
  · subst h
    simp only [eval, Act.eval]
    split
    · rename_i cs hg
      obtain ⟨h1, h2, h3, vs, h4, h5⟩ := I.gl _ cs hg
      exact ⟨_, 0, vs, rfl, h1, h2, h4, h3, h5⟩
    · trivial

theorem rep_evals (I : Inv tb C) (F : FrRel C f a nt) : ∀ {xs : List AO} {ys : List Operand}, okAOs xs ys = true → RepL C (xs.map (eval tb f)) (ys.map a.eval)
  | [], [], _ => rfl
  | [], _ :: _, h => by simp [okAOs] at h
  | _ :: _, [], h => by simp [okAOs] at h
  | _ :: _, y :: q, h => by
    simp only [okAOs, Bool.and_eq_true] at h
    exact ⟨a.eval y, q.map a.eval, rfl, rep_eval I F h.1, rep_evals I F h.2⟩

theorem FrRel.put (F : FrRel C f a nt) {D : Ctx} (X : Ext C D) {d : Option Nat} (hd : ∀ t, d = some t → t < nt) {x : AV} {v : Value} (r : Rep D x v) : FrRel D (put f d x) (a.put d v) nt := by
  cases d with
  | none => exact ⟨fun t => (F.rep t).ext X, F.size, F.defers⟩
  | some t =>
    have ht := hd t rfl
    refine ⟨fun u => ?_, by simp [Act.put, F.size], F.defers⟩
    simp only [Am.put, get, Act.put]
    by_cases e : t = u
    · subst e
      rw [if_pos rfl]
      have : (a.tmps.setIfInBounds t v).getD t undef = v := by
        simp [Array.getD_eq_getD_getElem?, F.size, ht]
      rw [this]; exact r
    · rw [if_neg e]
      have : (a.tmps.setIfInBounds t v).getD u undef = a.tmps.getD u undef := by
        simp [Array.getD_eq_getD_getElem?, Array.getElem?_setIfInBounds_ne e]
      rw [this]; exact (F.rep u).ext X

theorem FrRel.ext (F : FrRel C f a nt) {D : Ctx} (X : Ext C D) : FrRel D f a nt := ⟨fun t => (F.rep t).ext X, F.size, F.defers⟩

/-- what an operation's run must be -/
def Yields (tb : Tab) (C : Ctx) (r : AV × Option Heap) (x : Result Next) : Prop :=
  ∃ D : Ctx, Ext C D ∧ Inv tb D ∧ D.H = r.2.getD C.H ∧ ((∃ v, x = .ok (.value v) D.w ∧ Rep D r.1 v) ∨ (x = .ok .skip D.w ∧ Rep D r.1 undef))

theorem yields_pure (I : Inv tb C) {r : AV} {v : Value} {x : Result Next} (h : x = .ok (.value v) C.w) (hr : Rep C r v) : Yields tb C (r, none) x :=
  ⟨C, Ext.refl C, I, rfl, .inl ⟨v, h, hr⟩⟩

theorem yields_new (I : Inv tb C) {r : AV} {v : Value} {x : Result Next} {p : Place} {o : AObj} {w : World} (hrest : Rest C.w w) (h : x = .ok (.value v) w)
    (hs : C.w.heap.size < w.heap.size) (hp : p.blk = C.w.heap.size) (hw : ∀ b, b < C.w.heap.size → w.heap[b]? = C.w.heap[b]?)
    (ho : Obj (C.more p o w) p o) (hr : (C.more p o w).φ C.H.length = p → Rep (C.more p o w) r v) : Yields tb C (r, some (C.H ++ [o])) x := by
  obtain ⟨X, hI, hφ⟩ := more I (o := o) hrest hs hp hw
  exact ⟨C.more p o w, X, hI ho, rfl, .inl ⟨v, h, hr hφ⟩⟩

theorem wp_of_yields {o : Oper} {r : AV × Option Heap} (h : Yields tb C r ((execOp a.eval o).run P C.w)) {next : Act → World → Prop} {Q : Exit → Act → World → Prop}
    (k : ∀ (v : Value) (D : Ctx), Ext C D → Inv tb D → D.H = r.2.getD C.H → Rep D r.1 v → next (a.put o.dst v) D.w) : o.wp P a C.w next Q := by
  unfold Oper.wp
  obtain ⟨D, X, I, hH, ⟨v, e, hr⟩ | ⟨e, hr⟩⟩ := h
  · rw [e]; exact k v D X I hH hr
  · rw [e]; exact k undef D X I hH hr

/-! The model's small steps. -/
theorem run_underlying' {t : TypeId} {d : TypeDesc} (h : P.underlying t = some d) (w : World) : (underlying t).run P w = .ok d w := by
  simp [underlying, h]
theorem run_isAgg' (t : TypeId) (w : World) (hd : (P.underlying t).isSome = true) : (isAgg t).run P w = .ok (aggT P t) w := by
  obtain ⟨d, hd⟩ := Option.isSome_iff_exists.1 hd
  simp only [isAgg, Sem.run_bind, run_underlying' hd, Result.andThen_ok, aggT, hd]
  cases d <;> rfl
theorem run_typeInfo' {t : TypeId} {i : TypeInfo} (h : P.info? t = some i) (w : World) : (typeInfo t).run P w = .ok i w := by
  simp [typeInfo, h]
theorem run_sizeOf' {t : TypeId} (h : (P.info? t).isSome = true) (w : World) : (sizeOf t).run P w = .ok (P.cellsOf t) w := by
  obtain ⟨i, hi⟩ := Option.isSome_iff_exists.1 h
  simp [sizeOf, run_typeInfo' hi, Program.cellsOf, hi]
theorem info_of_underlying {t : TypeId} {d : TypeDesc} (h : P.underlying t = some d) : (P.info? t).isSome = true := by
  unfold Program.underlying at h
  cases hi : P.info? t with
  | none => rw [hi] at h; simp at h
  | some i => rfl
theorem add_none (b o n : Nat) : (⟨b, o, none⟩ : Addr).add n = ⟨b, o + n, none⟩ := by
  unfold Addr.add; split <;> simp_all

/-- cells that are read -/
theorem run_loadCells' {w : World} {b o : Nat} {vs : List Value} (h : Holds w b o vs) : (loadCells ⟨b, o, none⟩ vs.length).run P w = .ok vs.toArray w :=
  run_loadCells_list (P := P) w ⟨b, o, none⟩ vs fun j v e => by rw [add_none]; exact h j v e

theorem Holds.sub {w : World} {b base : Nat} {vs : List Value} (h : Holds w b base vs) (off n : Nat) : Holds w b (base + off) ((vs.drop off).take n) := by
  intro j v e
  rw [List.getElem?_take] at e
  split at e
  · rw [List.getElem?_drop] at e
    rw [Nat.add_assoc]
    exact h _ v e
  · simp at e

theorem all_scal_sub {cs : List AV} (h : cs.all scal = true) (off n : Nat) : (sub cs off n).all scal = true := by
  simp only [List.all_eq_true, sub] at *
  exact fun x hx => h x (List.mem_of_mem_drop (List.mem_of_mem_take hx))

theorem asVal_rep {cs : List AV} {vs : List Value} {agg : Bool} {v : AV} (h : asVal agg cs = some v) (hs : cs.all scal = true) (r : RepL C cs vs) :
    (agg = true → Rep C v (.agg vs.toArray)) ∧ (agg = false → ∃ x, vs = [x] ∧ Rep C v x) := by
  cases agg with
  | true =>
    simp only [asVal] at h
    obtain rfl := Option.some.inj h
    exact ⟨fun _ => ⟨vs, rfl, hs, r⟩, fun e => by cases e⟩
  | false =>
    refine ⟨fun e => (by cases e), fun _ => ?_⟩
    match cs, h with
    | [c], h =>
      simp only [asVal] at h
      obtain rfl := Option.some.inj h
      obtain ⟨x, q, e, h1, h2⟩ := r
      exact ⟨x, by rw [e, show q = [] from h2], h1⟩

/-- what an address leads to -/
theorem place_rep (I : Inv tb C) {x : AV} {v : Value} (r : Rep C x v) {cs : List AV} {off : Nat} (h : place C.H x = some (cs, off)) :
    ∃ b base vs, v = .pointer (some ⟨b, base + off, none⟩) ∧ Holds C.w b base vs ∧ RepL C cs vs ∧ cs.all scal = true := by
  cases x <;> simp only [place] at h
  case ptr id o =>
    unfold cellsAt at h
    split at h
    · rename_i t' cs' hc
      simp only [Option.map_some, Option.some.injEq, Prod.mk.injEq] at h
      obtain ⟨rfl, rfl⟩ := h
      obtain ⟨_, e⟩ := r
      obtain ⟨vs, arr, et, fr, ⟨h1, hlb⟩, h2, h3, h4, h5, h6⟩ := I.obj id _ hc
      exact ⟨_, 0, vs, by simpa using e, h5, h4, h3⟩
    · simp at h
  case pe id n i o =>
    obtain ⟨_, fz, sz, els, hg, hl, e⟩ := r
    simp only [hg, Option.bind_some] at h
    split at h
    · rename_i hn
      cases hi : els[i]? with
      | none => rw [hi] at h; simp at h
      | some cs' =>
        rw [hi] at h
        simp only [Option.map_some, Option.some.injEq, Prod.mk.injEq] at h
        obtain ⟨rfl, rfl⟩ := h
        obtain ⟨tl, hg', hlab⟩ := row_get hg
        obtain ⟨vss, arr, et, fr, ⟨h1, hfr0, hlb⟩, h2, h3, h4, h5, h6, h7, h8, h9⟩ := I.obj id _ hg'
        obtain ⟨vs, hv, rv⟩ := RepLL.get h5 hi
        refine ⟨_, (C.φ id).base + i * sz, vs, by rw [e hn], ?_, rv, (h4 cs' (List.mem_of_getElem? hi)).2⟩
        -- an element's cells among all
        have hlens := RepLL.lens (fun x hx => (h4 x hx).1) h5
        have hflat : ∀ (l : List (List Value)) (i : Nat) (x : List Value), (∀ y ∈ l, y.length = sz) → l[i]? = some x → ∀ j u, x[j]? = some u → l.flatten[i * sz + j]? = some u := by
          intro l
          induction l with
          | nil => intro i x _ e; simp at e
          | cons y l ih =>
            intro i x hy e j u hu
            have hyl := hy y List.mem_cons_self
            cases i with
            | zero =>
              simp at e; subst e
              simp only [List.flatten_cons, Nat.zero_mul, Nat.zero_add]
              rw [List.getElem?_append_left (lt_of_get hu)]
              exact hu
            | succ i =>
              simp only [List.flatten_cons]
              rw [List.getElem?_append_right (by rw [hyl, Nat.succ_mul]; omega)]
              have := ih i x (fun z hz => hy z (List.mem_cons_of_mem _ hz)) (by simpa using e) j u hu
              rw [hyl, show (i + 1) * sz + j - sz = i * sz + j by rw [Nat.succ_mul]; omega]
              exact this
        intro j u hu
        rw [Nat.add_assoc]
        exact h7 _ u (hflat vss i vs hlens hv j u hu)
    · simp at h
  case ip cs' o =>
    simp only [Option.some.injEq, Prod.mk.injEq] at h
    obtain ⟨rfl, rfl⟩ := h
    obtain ⟨b, base, vs, e, _, _, h1, h2, h3⟩ := r
    exact ⟨b, base, vs, e, h1, h3, h2⟩
  all_goals simp at h

theorem sim_ld (I : Inv tb C) (F : FrRel C f a nt) {o : Oper} {t : TypeId} {x : AO} {y : Operand} (ho : o.op = .load t y) (hx : okAO x y = true) (hu : (P.underlying t).isSome = true)
    {r : AV × Option Heap} (h : val (load C.H (aggT P t) (P.cellsOf t) (eval tb f x)) = some r) : Yields tb C r ((execOp a.eval o).run P C.w) := by
  have hr := rep_eval I F hx
  simp only [val, load] at h
  cases hp : place C.H (eval tb f x) with
  | none => rw [hp] at h; simp at h
  | some p =>
    obtain ⟨cs, off⟩ := p
    rw [hp] at h
    simp only [Option.bind_some] at h
    split at h
    · rename_i hle
      cases hv : asVal (aggT P t) (sub cs off (P.cellsOf t)) with
      | none => rw [hv] at h; simp at h
      | some v =>
        rw [hv] at h
        obtain rfl := Option.some.inj h
        obtain ⟨b, base, vs, e, hh, hl, hs⟩ := place_rep I hr hp
        have hsub := hh.sub off (P.cellsOf t)
        have hrl : RepL C (sub cs off (P.cellsOf t)) ((vs.drop off).take (P.cellsOf t)) := hl.drop.take
        have hlen : ((vs.drop off).take (P.cellsOf t)).length = P.cellsOf t := by
          rw [hrl.length]; simp only [sub, List.length_take, List.length_drop]; omega
        obtain ⟨q1, q2⟩ := asVal_rep hv (all_scal_sub hs off _) hrl
        have hinfo : (P.info? t).isSome = true := by
          obtain ⟨d, hd⟩ := Option.isSome_iff_exists.1 hu
          exact info_of_underlying hd
        have hlc := run_loadCells' (P := P) hsub
        rw [hlen] at hlc
        cases hag : aggT P t with
        | true =>
          refine yields_pure I (v := .agg ((vs.drop off).take (P.cellsOf t)).toArray) ?_ (q1 hag)
          simp only [execOp, ho, e, Instr.loadAt, Instr.sureAddr, loadVar, Sem.run_bind, Sem.run_pure, Result.andThen_ok, run_isAgg' t C.w hu, hag, if_true, run_sizeOf' hinfo, hlc]
        | false =>
          obtain ⟨z, hz, rz⟩ := q2 hag
          refine yields_pure I (v := z) ?_ rz
          have hc : C.w.cell? ⟨b, base + off, none⟩ = some z := by
            have := hsub 0 z (by rw [hz]; rfl)
            simpa using this
          simp only [execOp, ho, e, Instr.loadAt, Instr.sureAddr, loadVar, Sem.run_bind, Sem.run_pure, Result.andThen_ok, run_isAgg' t C.w hu, hag, Bool.false_eq_true, if_false, run_load, hc]
    · simp at h

theorem sim_mv (I : Inv tb C) (F : FrRel C f a nt) {o : Oper} {x : AO} {y : Operand} (ho : o.op = .move y ∨ o.op = .assign y) (hx : okAO x y = true) : Yields tb C (eval tb f x, none) ((execOp a.eval o).run P C.w) := by
  refine yields_pure I (v := a.eval y) ?_ (rep_eval I F hx)
  rcases ho with ho | ho <;> simp only [execOp, ho, Sem.run_pure]

theorem sim_pick (I : Inv tb C) (F : FrRel C f a nt) {o : Oper} {x1 x2 x3 : AO} {y1 y2 y3 : Operand} (ho : o.op = .pick y1 y2 y3) (h1 : okAO x1 y1 = true) (h2 : okAO x2 y2 = true) (h3 : okAO x3 y3 = true)
    {t : Bool} (h : eval tb f x1 = .b t) : Yields tb C (if t then eval tb f x2 else eval tb f x3, none) ((execOp a.eval o).run P C.w) := by
  have r1 := rep_eval I F h1
  rw [h] at r1
  refine yields_pure I (v := if t then a.eval y2 else a.eval y3) ?_ ?_
  · simp only [execOp, ho, show a.eval y1 = .bool t from r1, asBool, Sem.run_bind, Sem.run_pure, Result.andThen_ok]
  · cases t
    · exact rep_eval I F h3
    · exact rep_eval I F h2

theorem alloc_new (w : World) (o : Go.Obj) : (w.alloc o).heap[w.heap.size]? = some o := Array.getElem?_push_size
theorem alloc_old (w : World) (o : Go.Obj) {b : Nat} (h : b < w.heap.size) : (w.alloc o).heap[b]? = w.heap[b]? := by
  show (w.heap.push o)[b]? = _
  rw [Array.getElem?_push, if_neg (by omega)]
theorem alloc_size (w : World) (o : Go.Obj) : (w.alloc o).heap.size = w.heap.size + 1 := Array.size_push _

/-- a new variable -/
theorem yields_var (I : Inv tb C) {cs : List AV} {vs : Array Value} {e : TypeId} (hs : cs.all scal = true) (hr : RepL C cs vs.toList) {x : Result Next}
    (h : x = .ok (.value (.pointer (some ⟨C.w.heap.size, 0, none⟩))) (C.w.alloc (.cells vs e))) : Yields tb C (.ptr C.H.length 0, some (C.H ++ [AObj.cells (some e) cs])) x := by
  have hlen : vs.size = cs.length := by have := hr.length; simpa using this
  have hlt : C.w.heap.size < (C.w.alloc (.cells vs e)).heap.size := by rw [alloc_size]; omega
  refine yields_new (w := C.w.alloc (.cells vs e)) I (p := ⟨C.w.heap.size, 0, vs.size⟩) ⟨rfl, rfl, rfl⟩ h hlt rfl (fun b hb => alloc_old _ _ hb) ?_ ?_
  · have X := (more (w := C.w.alloc (.cells vs e)) I (o := AObj.cells (some e) cs) (p := ⟨C.w.heap.size, 0, vs.size⟩) ⟨rfl, rfl, rfl⟩ hlt rfl (fun b hb => alloc_old _ _ hb)).1
    have hn : (C.more ⟨C.w.heap.size, 0, vs.size⟩ (AObj.cells (some e) cs) (C.w.alloc (.cells vs e))).w.heap[C.w.heap.size]? = some (.cells vs e) := alloc_new _ _
    refine ⟨vs.toList, vs, e, (0, 0), ⟨hn, fun k hk => by cases hk; rfl⟩, hlen, hs, hr.ext X, ?_, ?_⟩
    · intro j v hj
      simp only [World.cell?, hn, Nat.zero_add]
      simpa using hj
    · intro o ho
      simp only [World.frozen?, hn]
      simp
  · intro hφ
    exact ⟨⟨AObj.cells (some e) cs, by simp [Ctx.more], rfl⟩, by rw [hφ]⟩

theorem sim_alloc (I : Inv tb C) {o : Oper} {t : TypeId} {z : List AV} {i : TypeInfo} {zv : Value} (ho : o.op = .alloc t) (hi : P.info? t = some i) (hz : i.zero = some zv) (hv : isSs z zv.cells.toList = true) :
    Yields tb C (.ptr C.H.length 0, some (C.H ++ [AObj.cells (some t) z])) ((execOp a.eval o).run P C.w) := by
  obtain ⟨h1, h2⟩ := isSs_rep (C := C) hv
  refine yields_var I (e := t) h2 h1 ?_
  simp only [execOp, ho, Instr.alloc, zeroValue, Sem.run_bind, run_typeInfo' hi, Result.andThen_ok, hz, Sem.run_pure, newVar, newRow, run_newObj]
  rfl

/-- a cell's value -/
theorem one_rep {x : AV} {v : Value} (hx : scal x = true) (r : Rep C x v) : v.oneCell' = true ∧ v.cells = #[v] := by
  cases x <;> simp only [scal, Bool.false_eq_true] at hx <;> simp only [Rep] at r
  case pe => obtain ⟨⟨p, rfl⟩, _⟩ := r; exact ⟨rfl, rfl⟩
  case orow => obtain ⟨⟨p, c, rfl⟩, _⟩ := r; exact ⟨rfl, rfl⟩
  case ptr => obtain ⟨_, rfl⟩ := r; exact ⟨rfl, rfl⟩
  case ip => obtain ⟨_, _, _, rfl, _⟩ := r; exact ⟨rfl, rfl⟩
  case sl => rcases r with ⟨_, _, _, _, rfl, _⟩ | ⟨_, _, _, rfl⟩ <;> exact ⟨rfl, rfl⟩
  case ocel => obtain ⟨_, _, _, rfl, _⟩ := r; exact ⟨rfl, rfl⟩
  case mp => obtain ⟨_, rfl⟩ := r; exact ⟨rfl, rfl⟩
  case fn => obtain ⟨_, _, rfl, _⟩ := r; exact ⟨rfl, rfl⟩
  case ifc => obtain ⟨_, _, rfl, _⟩ := r; exact ⟨rfl, rfl⟩
  all_goals (subst r; exact ⟨rfl, rfl⟩)
theorem ones_rep : ∀ {cs : List AV} {vs : List Value}, cs.all scal = true → RepL C cs vs → ∀ v ∈ vs, v.oneCell' = true
  | [], _, _, h, v, hv => by rw [show _ = [] from h] at hv; cases hv
  | x :: _, _, hs, ⟨u, q, e, h, r⟩, v, hv => by
    simp only [List.all_cons, Bool.and_eq_true] at hs
    rw [e] at hv
    rcases List.mem_cons.1 hv with e' | hv
    · subst e'; exact (one_rep hs.1 h).1
    · exact ones_rep hs.2 r v hv

/-- the cells of a value -/
theorem cells_rep {x : AV} {v : Value} (r : Rep C x v) (hn : 0 < (cellsOf x).length) : RepL C (cellsOf x) v.cells.toList ∧ (cellsOf x).all scal = true := by
  by_cases hx : scal x = true
  · have hc : cellsOf x = [x] := by cases x <;> simp_all [scal, cellsOf]
    rw [hc, (one_rep hx r).2]
    exact ⟨⟨v, [], rfl, r, rfl⟩, by simp [hx]⟩
  · cases x <;> simp only [scal, not_true_eq_false, Bool.false_eq_true, not_false_eq_true] at hx
    case agg cs =>
      obtain ⟨vs, e, h1, h2⟩ := r
      subst e
      exact ⟨by simpa [cellsOf, Value.cells] using h2, h1⟩
    case tup cs => simp [cellsOf] at hn
    case junk => simp [cellsOf] at hn

theorem sim_box (I : Inv tb C) (F : FrRel C f a nt) {o : Oper} {t : TypeId} {x : AO} {y : Operand} (ho : o.op = .box t y) (hx : okAO x y = true) (hn : 0 < (cellsOf (eval tb f x)).length) :
    Yields tb C (.ptr C.H.length 0, some (C.H ++ [AObj.cells (some t) (cellsOf (eval tb f x))])) ((execOp a.eval o).run P C.w) := by
  obtain ⟨h1, h2⟩ := cells_rep (rep_eval I F hx) hn
  refine yields_var I (e := t) h2 h1 ?_
  simp only [execOp, ho, Instr.box, Sem.run_bind, Result.andThen_ok, Sem.run_pure, newVar, newRow, run_newObj]
  rfl

theorem sim_nilc (I : Inv tb C) (F : FrRel C f a nt) {o : Oper} {x : AO} {y : Operand} (ho : o.op = .nilCheck y) (hx : okAO x y = true) {r : AV × Option Heap}
    (h : aop tb cl (eval tb f) C.H (.nilc x) = some r) : Yields tb C r ((execOp a.eval o).run P C.w) := by
  have hr := rep_eval I F hx
  simp only [aop] at h
  split at h <;> simp only [Option.some.injEq, reduceCtorEq] at h
  · rename_i e
    subst h
    rw [e] at hr
    refine yields_pure I (v := a.eval y) ?_ hr
    obtain ⟨_, e'⟩ := hr
    simp only [execOp, ho, e', Sem.run_pure]
  · rename_i e
    subst h
    rw [e] at hr
    refine yields_pure I (v := a.eval y) ?_ hr
    obtain ⟨⟨_, e'⟩, _⟩ := hr
    simp only [execOp, ho, e', Sem.run_pure]
  · rename_i e
    subst h
    rw [e] at hr
    refine yields_pure I (v := a.eval y) ?_ hr
    obtain ⟨_, _, _, e', _⟩ := hr
    simp only [execOp, ho, e', Sem.run_pure]
  · rename_i e
    subst h
    rw [e] at hr
    refine yields_pure I (v := a.eval y) ?_ hr
    obtain ⟨_, _, e', _⟩ := hr
    simp only [execOp, ho, e', Sem.run_pure]

theorem bytes_toList (l : List UInt8) : (⟨l.toArray⟩ : ByteArray).toList = l := by
  rw [ByteArray.toList_eq]

theorem size_mk (l : List UInt8) : (⟨l.toArray⟩ : ByteArray).size = l.length := by
  show l.toArray.size = _
  simp

theorem int?_rep {x : AV} {v : Value} {n : Int} (r : Rep C x v) (h : int? x = some n) : ∃ k, x = .i k n ∧ v = .int k n := by
  cases x <;> simp only [int?, reduceCtorEq, Option.some.injEq] at h
  subst h
  exact ⟨_, rfl, r⟩

theorem sim_bin (I : Inv tb C) (F : FrRel C f a nt) {o : Oper} {op : BinOp} {t u : TypeId} {x1 x2 : AO} {y1 y2 : Operand} (ho : o.op = .binOp op t y1 y2 u) (h1 : okAO x1 y1 = true) (h2 : okAO x2 y2 = true)
    {r : AV × Option Heap} (h : val (bin op (eval tb f x1) (eval tb f x2)) = some r) : Yields tb C r ((execOp a.eval o).run P C.w) := by
  have r1 := rep_eval I F h1
  have r2 := rep_eval I F h2
  generalize hx1 : eval tb f x1 = v1 at *
  generalize hx2 : eval tb f x2 = v2 at *
  cases v1 <;> cases v2 <;> simp only [bin, val, Option.map_none, reduceCtorEq] at h
  case i.i k n k' m =>
    have e1 : a.eval y1 = .int k n := r1
    have e2 : a.eval y2 = .int k' m := r2
    have hg : (eqGuard op t y1 y2 (.int k n) (.int k' m)).run P C.w = .ok () C.w := by
      simp only [eqGuard]; split <;> rfl
    have hrun : ∀ v, (Go.binOp op t (.int k n) (.int k' m)).run P C.w = .ok v C.w → (execOp a.eval o).run P C.w = .ok (.value v) C.w := by
      intro v hv
      simp only [execOp, ho, e1, e2, Sem.run_bind, hg, Result.andThen_ok, hv, Sem.run_pure]
    by_cases hk : k = k'
    · subst hk
      cases op <;> simp only [if_true] at h
      case shl =>
        split at h <;> simp only [Option.map_none, Option.map_some, reduceCtorEq, Option.some.injEq] at h
        subst h
        exact yields_pure I (hrun _ (by simp [Go.binOp, Op.shift, *])) rfl
      case shr =>
        split at h <;> simp only [Option.map_none, Option.map_some, reduceCtorEq, Option.some.injEq] at h
        subst h
        exact yields_pure I (hrun _ (by simp [Go.binOp, Op.shift, *])) rfl
      case quo =>
        split at h <;> simp only [Option.map_none, Option.map_some, reduceCtorEq, Option.some.injEq] at h
        subst h
        exact yields_pure I (hrun _ (by simp [Go.binOp, Op.intDiv, *])) rfl
      case rem =>
        split at h <;> simp only [Option.map_none, Option.map_some, reduceCtorEq, Option.some.injEq] at h
        subst h
        exact yields_pure I (hrun _ (by simp [Go.binOp, Op.intDiv, *])) rfl
      all_goals
        simp only [Option.map_some, Option.some.injEq] at h
        subst h
        exact yields_pure I (hrun _ (by simp [Go.binOp, Op.intArith, Op.intBits, Op.intCmp, bitsI])) rfl
    · cases op <;> simp only [if_neg hk, Option.map_none, reduceCtorEq] at h
      case shl =>
        split at h <;> simp only [Option.map_none, Option.map_some, reduceCtorEq, Option.some.injEq] at h
        subst h
        exact yields_pure I (hrun _ (by simp [Go.binOp, Op.shift, *])) rfl
      case shr =>
        split at h <;> simp only [Option.map_none, Option.map_some, reduceCtorEq, Option.some.injEq] at h
        subst h
        exact yields_pure I (hrun _ (by simp [Go.binOp, Op.shift, *])) rfl
  case s.s l m =>
    have e1 : a.eval y1 = .string ⟨l.toArray⟩ := r1
    have e2 : a.eval y2 = .string ⟨m.toArray⟩ := r2
    have hg : (eqGuard op t y1 y2 (.string ⟨l.toArray⟩) (.string ⟨m.toArray⟩)).run P C.w = .ok () C.w := by
      simp only [eqGuard]; split <;> rfl
    have hrun : ∀ v, (Op.stringOp op ⟨l.toArray⟩ ⟨m.toArray⟩).run P C.w = .ok v C.w → (execOp a.eval o).run P C.w = .ok (.value v) C.w := by
      intro v hv
      simp only [execOp, ho, e1, e2, Sem.run_bind, hg, Result.andThen_ok, Sem.run_pure]
      have : Go.binOp op t (.string ⟨l.toArray⟩) (.string ⟨m.toArray⟩) = Op.stringOp op ⟨l.toArray⟩ ⟨m.toArray⟩ := by cases op <;> rfl
      rw [this, hv]
      rfl
    cases op <;> simp only [Option.map_some, Option.map_none, Option.some.injEq, reduceCtorEq] at h
    case add =>
      split at h <;> simp only [Option.map_none, Option.map_some, reduceCtorEq, Option.some.injEq] at h
      rename_i hle
      subst h
      refine yields_pure I (v := .string (⟨l.toArray⟩ ++ ⟨m.toArray⟩)) (hrun _ ?_) ?_
      · have : ¬ (((⟨l.toArray⟩ : ByteArray).size + (⟨m.toArray⟩ : ByteArray).size : Nat) : Int) > IntKind.i64.max := by
          rw [size_mk, size_mk]
          have : IntKind.i64.max = 9223372036854775807 := rfl
          rw [this]
          unfold most at hle
          omega
        simp only [Op.stringOp, if_neg this, Sem.run_pure]
      · show _ = _
        congr 1
    all_goals
      subst h
      exact yields_pure I (hrun _ (by simp only [Op.stringOp, bytes_toList, Sem.run_pure])) rfl

theorem sim_un (I : Inv tb C) (F : FrRel C f a nt) {o : Oper} {op : UnOp} {t : TypeId} {x : AO} {y : Operand} (ho : o.op = .unOp op t y) (hx : okAO x y = true)
    {r : AV × Option Heap} (h : val (un op (eval tb f x)) = some r) : Yields tb C r ((execOp a.eval o).run P C.w) := by
  have r1 := rep_eval I F hx
  generalize eval tb f x = v1 at *
  cases v1 <;> simp only [un, val, Option.map_none, reduceCtorEq] at h
  case i k n =>
    have e1 : a.eval y = .int k n := r1
    cases op <;> simp only [Option.map_some, Option.map_none, Option.some.injEq, reduceCtorEq] at h
    all_goals
      subst h
      refine yields_pure I (v := .int k _) ?_ rfl
      simp [execOp, ho, e1, Op.unary, Op.intArith, Op.intBits, bitsI]
  case b q =>
    have e1 : a.eval y = .bool q := r1
    cases op <;> simp only [Option.map_some, Option.map_none, Option.some.injEq, reduceCtorEq] at h
    subst h
    refine yields_pure I (v := .bool _) ?_ rfl
    simp [execOp, ho, e1, Op.unary]

theorem sim_cvi (I : Inv tb C) (F : FrRel C f a nt) {o : Oper} {k : IntKind} {s d : TypeId} {x : AO} {y : Operand} (ho : o.op = .convert s d y) (hs : (P.underlying s).isSome = true) (hd : P.underlying d = some (.int k)) (hx : okAO x y = true)
    {n : Int} (h : int? (eval tb f x) = some n) : Yields tb C (.i k (k.wrap n), none) ((execOp a.eval o).run P C.w) := by
  obtain ⟨k', _, e⟩ := int?_rep (rep_eval I F hx) h
  obtain ⟨ds, hs⟩ := Option.isSome_iff_exists.1 hs
  refine yields_pure I (v := .int k (k.wrap n)) ?_ rfl
  simp only [execOp, ho, e, convert, Sem.run_bind, run_underlying' hs, run_underlying' hd, Result.andThen_ok]
  cases ds <;> rfl

theorem sim_cvid (I : Inv tb C) (F : FrRel C f a nt) {o : Oper} {s d : TypeId} {x : AO} {y : Operand} (ho : o.op = .convert s d y) (hs : (P.underlying s).isSome = true) (hd : P.underlying d = some .string) (hx : okAO x y = true)
    {l : List UInt8} (h : eval tb f x = .s l) : Yields tb C (.s l, none) ((execOp a.eval o).run P C.w) := by
  have r := rep_eval I F hx
  rw [h] at r
  have e : a.eval y = .string ⟨l.toArray⟩ := r
  obtain ⟨ds, hs⟩ := Option.isSome_iff_exists.1 hs
  refine yields_pure I (v := .string ⟨l.toArray⟩) ?_ rfl
  simp only [execOp, ho, e, convert, Sem.run_bind, run_underlying' hs, run_underlying' hd, Result.andThen_ok]
  cases ds <;> rfl

theorem sim_cvc (I : Inv tb C) (F : FrRel C f a nt) {o : Oper} {s d : TypeId} {x : AO} {y : Operand} (ho : o.op = .convert s d y) (hs : (P.underlying s).isSome = true) (hd : P.underlying d = some .string) (hx : okAO x y = true)
    {n : Int} (h : int? (eval tb f x) = some n) : Yields tb C (.s (Utf8.encode n).data.toList, none) ((execOp a.eval o).run P C.w) := by
  obtain ⟨k', _, e⟩ := int?_rep (rep_eval I F hx) h
  obtain ⟨ds, hs⟩ := Option.isSome_iff_exists.1 hs
  refine yields_pure I (v := .string (Utf8.encode n)) ?_ (by simp [Rep])
  simp only [execOp, ho, e, convert, Sem.run_bind, run_underlying' hs, run_underlying' hd, Result.andThen_ok]
  cases ds <;> rfl

theorem sim_mkf (I : Inv tb C) (F : FrRel C f a nt) {o : Oper} {fn : Fn} {x1 x2 : List AO} {y1 y2 : Array Operand} (ho : o.op = .makeFunc fn y1 y2) (h1 : okAOs x1 y1.toList = true) (h2 : okAOs x2 y2.toList = true) :
    Yields tb C (.fn fn (x1.map (eval tb f)) (x2.map (eval tb f)), none) ((execOp a.eval o).run P C.w) := by
  refine yields_pure I (v := .func fn (y1.map a.eval) (y2.map a.eval)) ?_ ?_
  · simp only [execOp, ho, Instr.makeFunc, Sem.run_bind, Sem.run_pure, Result.andThen_ok]
  · exact ⟨y1.toList.map a.eval, y2.toList.map a.eval, by rw [← Array.toList_map, ← Array.toList_map], rep_evals I F h1, rep_evals I F h2⟩

theorem sim_mkif (I : Inv tb C) (F : FrRel C f a nt) {o : Oper} {t : TypeId} {x : AO} {y : Operand} (ho : o.op = .makeInterface t y) (ht : ∀ m, P.underlying t ≠ some (.interface m)) (hs : (P.underlying t).isSome = true) (hx : okAO x y = true) :
    Yields tb C (.ifc 0 .junk, none) ((execOp a.eval o).run P C.w) := by
  obtain ⟨ds, hs⟩ := Option.isSome_iff_exists.1 hs
  refine yields_pure I (v := .iface t (a.eval y)) ?_ ⟨_, _, rfl, trivial⟩
  simp only [execOp, ho, Instr.makeInterface, Sem.run_bind, run_underlying' hs, Result.andThen_ok]
  cases ds <;> first | rfl | exact absurd hs (ht _)

theorem sim_ext (I : Inv tb C) (F : FrRel C f a nt) {o : Oper} {x : AO} {y : Operand} {i : Nat} (ho : o.op = .extract y i) (hx : okAO x y = true) {vs : List AV} (h : eval tb f x = .tup vs) {v : AV} (hv : vs[i]? = some v) :
    Yields tb C (v, none) ((execOp a.eval o).run P C.w) := by
  have r := rep_eval I F hx
  rw [h] at r
  obtain ⟨us, e, hr⟩ := r
  obtain ⟨u, hu, ru⟩ := hr.get hv
  refine yields_pure I (v := u) ?_ ru
  simp only [execOp, ho, e, Instr.extract]
  simp [hu]

/-- a call of a built-in function -/
theorem run_builtin {o : Oper} {c : Call} {b : Builtin} (ho : o.op = .call c) (hc : c.callee = .builtin b) {x : Result Next}
    (h : ∀ q, (builtin b c.argTypes o.type q (c.args.map a.eval)).run P C.w = x) : (execOp a.eval o).run P C.w = x := by
  simp only [execOp, ho, resolve, hc, invoke, Sem.run_bind, Sem.run_pure, Result.andThen_ok]
  exact h _

theorem len?_rep {x : AV} {v : Value} {n : Nat} (r : Rep C x v) (h : len? x = some n) : ∃ p c, v = .slice p n c := by
  cases x <;> simp only [len?, reduceCtorEq, Option.some.injEq] at h
  case nils => subst h; exact ⟨none, 0, r⟩
  case sl =>
    subst h
    rcases r with ⟨b, base, cap, vss, e, _⟩ | ⟨rfl, p, cap, e⟩
    · exact ⟨_, _, e⟩
    · exact ⟨_, _, e⟩
  case orow => subst h; obtain ⟨⟨p, c, e⟩, _⟩ := r; exact ⟨_, _, e⟩
  case ocel => subst h; obtain ⟨_, o, c, e, _⟩ := r; exact ⟨_, _, e⟩

theorem sim_len (I : Inv tb C) (F : FrRel C f a nt) {o : Oper} {c : Call} {t e : TypeId} {x : AO} {y : Operand} (ho : o.op = .call c) (hc : c.callee = .builtin .len) (ht : c.argTypes[0]? = some t) (ha : c.args = #[y])
    (hx : okAO x y = true) {n : Nat} (h : len? (eval tb f x) = some n) (hu : P.underlying t = some (.slice e)) :
    Yields tb C (.i .i64 n, none) ((execOp a.eval o).run P C.w) := by
  have r := rep_eval I F hx
  refine yields_pure I (v := .int .i64 n) (run_builtin ho hc fun q => ?_) rfl
  simp only [ha, List.map_toArray, List.map_cons, List.map_nil, builtin, Sem.run_bind, Builtin.len_, ht]
  obtain ⟨p, cc, e⟩ := len?_rep r h
  simp [e, run_underlying' hu, goInt]

theorem sim_lens (I : Inv tb C) (F : FrRel C f a nt) {o : Oper} {c : Call} {t : TypeId} {x : AO} {y : Operand} (ho : o.op = .call c) (hc : c.callee = .builtin .len) (ht : c.argTypes[0]? = some t) (ha : c.args = #[y])
    (hx : okAO x y = true) {l : List UInt8} (h : eval tb f x = .s l) (hu : P.underlying t = some .string) :
    Yields tb C (.i .i64 (l.length : Nat), none) ((execOp a.eval o).run P C.w) := by
  have r := rep_eval I F hx
  rw [h] at r
  have r' : a.eval y = .string ⟨l.toArray⟩ := r
  refine yields_pure I (v := .int .i64 (l.length : Nat)) (run_builtin ho hc fun q => ?_) rfl
  simp only [ha, List.map_toArray, List.map_cons, List.map_nil, builtin, Sem.run_bind, Builtin.len_, ht]
  simp [r', run_underlying' hu, goInt, size_mk]

theorem shift_rep {x y : AV} {v : Value} {off : Nat} (r : Rep C x v) (h : shift off x = some y) : ∃ b q, v = .pointer (some ⟨b, q, none⟩) ∧ Rep C y (.pointer (some ⟨b, q + off, none⟩)) ∨ (∃ p, v = .pointer (some p)) ∧ ∀ u p, u = Value.pointer (some p) → Rep C y u := by
  cases x <;> simp only [shift, reduceCtorEq, Option.some.injEq] at h <;> subst h
  case ptr id o =>
    obtain ⟨h1, e⟩ := r
    exact ⟨_, _, .inl ⟨e, h1, rfl⟩⟩
  case pe id n i o =>
    obtain ⟨⟨p, e⟩, fz, sz, els, hg, hl, k⟩ := r
    by_cases hn : n = els.length
    · exact ⟨_, _, .inl ⟨k hn, ⟨_, rfl⟩, fz, sz, els, hg, hl, fun _ => by rw [Nat.add_assoc]⟩⟩
    · exact ⟨0, 0, .inr ⟨⟨p, e⟩, fun u p hu => ⟨⟨p, hu⟩, fz, sz, els, hg, hl, fun q => absurd q hn⟩⟩⟩
  case ip cs o =>
    obtain ⟨b, base, vs, e, h1⟩ := r
    exact ⟨_, _, .inl ⟨e, b, base, vs, by rw [Nat.add_assoc], h1⟩⟩

theorem sim_fa (I : Inv tb C) (F : FrRel C f a nt) {o : Oper} {t : TypeId} {x : AO} {y : Operand} {i : Nat} {fs : Array Field} {fd : Field} (ho : o.op = .fieldAddr t y i) (hu : P.underlying t = some (.struct fs)) (hf : fs[i]? = some fd)
    (hz : (P.info? fd.type).isSome = true) (hz0 : P.cellsOf fd.type ≠ 0) (hx : okAO x y = true) {r : AV × Option Heap} (h : val (shift fd.offset (eval tb f x)) = some r) : Yields tb C r ((execOp a.eval o).run P C.w) := by
  have hr := rep_eval I F hx
  simp only [val] at h
  cases hs : shift fd.offset (eval tb f x) with
  | none => rw [hs] at h; simp at h
  | some y' =>
    rw [hs] at h
    obtain rfl := Option.some.inj h
    have run : ∀ p : Addr, a.eval y = .pointer (some p) → (execOp a.eval o).run P C.w = .ok (.value (.pointer (some (p.add fd.offset)))) C.w := by
      intro p hp
      simp only [execOp, ho, hp, Instr.fieldAt, Sem.run_bind, run_underlying' hu, Result.andThen_ok, hf, Instr.sureAddr, Sem.run_pure, fieldPlace, run_sizeOf' hz, if_neg hz0]
    obtain ⟨b, q, ⟨e, r'⟩ | ⟨⟨p, e⟩, r'⟩⟩ := shift_rep hr hs
    · exact yields_pure I (run _ e) (by rw [add_none]; exact r')
    · exact yields_pure I (run _ e) (r' _ _ rfl)

theorem sim_iaa (I : Inv tb C) (F : FrRel C f a nt) {o : Oper} {t e : TypeId} {x i : AO} {y j : Operand} {len : Nat} (ho : o.op = .indexAddr t y j) (hu : P.underlying t = some (.array len e))
    (hz : (P.info? e).isSome = true) (hx : okAO x y = true) (hi : okAO i j = true) {n : Int} (hn : int? (eval tb f i) = some n) (h0 : 0 ≤ n ∧ n < len) {r : AV × Option Heap} (h : val (shift (n.toNat * P.cellsOf e) (eval tb f x)) = some r) :
    Yields tb C r ((execOp a.eval o).run P C.w) := by
  have hr := rep_eval I F hx
  obtain ⟨k, _, ej⟩ := int?_rep (rep_eval I F hi) hn
  simp only [val] at h
  cases hs : shift (n.toNat * P.cellsOf e) (eval tb f x) with
  | none => rw [hs] at h; simp at h
  | some y' =>
    rw [hs] at h
    obtain rfl := Option.some.inj h
    have run : ∀ p : Addr, a.eval y = .pointer (some p) → (execOp a.eval o).run P C.w = .ok (.value (.pointer (some (p.add (n.toNat * P.cellsOf e))))) C.w := by
      intro p hp
      simp only [execOp, ho, hp, ej, Instr.indexAt, asIntOf, Sem.run_bind, run_underlying' hu, Result.andThen_ok, Instr.sureAddr, Sem.run_pure, run_sizeOf' hz, if_pos h0]
    obtain ⟨b, q, ⟨e', r'⟩ | ⟨⟨p, e'⟩, r'⟩⟩ := shift_rep hr hs
    · exact yields_pure I (run _ e') (by rw [add_none]; exact r')
    · exact yields_pure I (run _ e') (r' _ _ rfl)

/-- the cells of a struct or an array that is a value -/
theorem run_part {t : TypeId} {cs : List AV} {vs : List Value} {off : Nat} {v : AV} (hu : (P.underlying t).isSome = true) (hs : cs.all scal = true) (r : RepL C cs vs) (_hle : off + P.cellsOf t ≤ cs.length)
    (h : asVal (aggT P t) (sub cs off (P.cellsOf t)) = some v) : ∃ x, (part t vs.toArray off).run P C.w = .ok x C.w ∧ Rep C v x := by
  have hinfo : (P.info? t).isSome = true := by
    obtain ⟨d, hd⟩ := Option.isSome_iff_exists.1 hu
    exact info_of_underlying hd
  have hrl : RepL C (sub cs off (P.cellsOf t)) ((vs.drop off).take (P.cellsOf t)) := r.drop.take
  obtain ⟨q1, q2⟩ := asVal_rep h (all_scal_sub hs off _) hrl
  cases hag : aggT P t with
  | true =>
    refine ⟨.agg ((vs.drop off).take (P.cellsOf t)).toArray, ?_, q1 hag⟩
    simp only [part, Sem.run_bind, run_isAgg' t C.w hu, hag, Result.andThen_ok, if_true, run_sizeOf' hinfo, Sem.run_pure]
    congr 2
    simp
  | false =>
    obtain ⟨z, hz, rz⟩ := q2 hag
    refine ⟨z, ?_, rz⟩
    have : vs[off]? = some z := by
      have : ((vs.drop off).take (P.cellsOf t))[0]? = some z := by rw [hz]; rfl
      rw [List.getElem?_take] at this
      split at this
      · simpa using this
      · simp at this
    simp only [part, Sem.run_bind, run_isAgg' t C.w hu, hag, Result.andThen_ok, Bool.false_eq_true, if_false]
    simp [this]

theorem sim_fld (I : Inv tb C) (F : FrRel C f a nt) {o : Oper} {t : TypeId} {x : AO} {y : Operand} {i : Nat} {fs : Array Field} {fd : Field} (ho : o.op = .field t y i) (hu : P.underlying t = some (.struct fs)) (hf : fs[i]? = some fd)
    (hz : (P.underlying fd.type).isSome = true) (hx : okAO x y = true) {cs : List AV} (hv : eval tb f x = .agg cs) (hle : fd.offset + P.cellsOf fd.type ≤ cs.length) {v : AV} (h : asVal (aggT P fd.type) (sub cs fd.offset (P.cellsOf fd.type)) = some v) :
    Yields tb C (v, none) ((execOp a.eval o).run P C.w) := by
  have hr := rep_eval I F hx
  rw [hv] at hr
  obtain ⟨vs, e, hs, hl⟩ := hr
  obtain ⟨z, hz', rz⟩ := run_part hz hs hl hle h
  refine yields_pure I (v := z) ?_ rz
  simp only [execOp, ho, e, Instr.field, Sem.run_bind, run_underlying' hu, Result.andThen_ok, hf, asAgg, Sem.run_pure, hz']

theorem sim_ixa (I : Inv tb C) (F : FrRel C f a nt) {o : Oper} {t e : TypeId} {x i : AO} {y j : Operand} {len : Nat} (ho : o.op = .index t y j) (hu : P.underlying t = some (.array len e))
    (hz : (P.underlying e).isSome = true) (hx : okAO x y = true) (hi : okAO i j = true) {n : Int} (hn : int? (eval tb f i) = some n) {cs : List AV} (hv : eval tb f x = .agg cs) (h0 : 0 ≤ n ∧ n < len) (hle : len * P.cellsOf e ≤ cs.length)
    {v : AV} (h : asVal (aggT P e) (sub cs (n.toNat * P.cellsOf e) (P.cellsOf e)) = some v) : Yields tb C (v, none) ((execOp a.eval o).run P C.w) := by
  have hr := rep_eval I F hx
  obtain ⟨k, _, ej⟩ := int?_rep (rep_eval I F hi) hn
  rw [hv] at hr
  obtain ⟨vs, ey, hs, hl⟩ := hr
  have hle' : n.toNat * P.cellsOf e + P.cellsOf e ≤ cs.length := by
    have : (n.toNat + 1) * P.cellsOf e ≤ len * P.cellsOf e := Nat.mul_le_mul_right _ (by omega)
    rw [Nat.succ_mul] at this
    omega
  obtain ⟨z, hz', rz⟩ := run_part hz hs hl hle' h
  have hinfo : (P.info? e).isSome = true := by
    obtain ⟨d, hd⟩ := Option.isSome_iff_exists.1 hz
    exact info_of_underlying hd
  refine yields_pure I (v := z) ?_ rz
  simp only [execOp, ho, ey, ej, Instr.index, asIntOf, Sem.run_bind, run_underlying' hu, Result.andThen_ok, Sem.run_pure, if_pos h0, run_sizeOf' hinfo, hz']

theorem sim_ixs (I : Inv tb C) (F : FrRel C f a nt) {o : Oper} {t : TypeId} {x i : AO} {y j : Operand} (ho : o.op = .index t y j) (hu : P.underlying t = some .string) (hx : okAO x y = true) (hi : okAO i j = true)
    {n : Int} (hn : int? (eval tb f i) = some n) {l : List UInt8} (hv : eval tb f x = .s l) (h0 : 0 ≤ n) {c : UInt8} (h : l[n.toNat]? = some c) : Yields tb C (.i .u8 c.toNat, none) ((execOp a.eval o).run P C.w) := by
  have hr := rep_eval I F hx
  obtain ⟨k, _, ej⟩ := int?_rep (rep_eval I F hi) hn
  rw [hv] at hr
  have ey : a.eval y = .string ⟨l.toArray⟩ := hr
  refine yields_pure I (v := .int .u8 c.toNat) ?_ rfl
  have : (⟨l.toArray⟩ : ByteArray)[n.toNat]? = some c := by
    have hlt := lt_of_get h
    have : n.toNat < (⟨l.toArray⟩ : ByteArray).size := by rw [size_mk]; exact hlt
    rw [getElem?_pos (⟨l.toArray⟩ : ByteArray) n.toNat this]
    congr 1
    exact (List.getElem?_eq_some_iff.1 h).2
  simp only [execOp, ho, ey, ej, Instr.index, asIntOf, Sem.run_bind, run_underlying' hu, Result.andThen_ok, Sem.run_pure, if_pos h0, this]


/-! Slices. -/
theorem run_bound {x : AV} {v : Value} {m n : Nat} (r : Rep C x v) (h : bound? x m = some n) (code : BoundsCode) (w : World) : (Instr.sliceBound v m code).run P w = .ok n w ∧ n ≤ m := by
  simp only [bound?] at h
  cases hi : int? x with
  | none => rw [hi] at h; simp at h
  | some q =>
    rw [hi] at h
    simp only [Option.bind_some] at h
    split at h
    · rename_i hq
      obtain rfl := Option.some.inj h
      obtain ⟨k, _, e⟩ := int?_rep r hi
      refine ⟨?_, by omega⟩
      simp only [Instr.sliceBound, e, asIntOf, Sem.run_bind, Sem.run_pure, Result.andThen_ok, if_pos hq]
    · simp at h

theorem run_bounds (I : Inv tb C) (F : FrRel C f a nt) {lo hi : Option AO} {ylo yhi : Option Operand} (h1 : okO lo ylo = true) (h2 : okO hi yhi = true) {len cap l m : Nat} (isS : Bool) (hlc : len ≤ cap)
    (h : bounds (eval tb f) len lo hi = some (l, m)) (w : World) : (Instr.sliceBounds isS len cap (ylo.map a.eval) (yhi.map a.eval) none).run P w = .ok (l, m, cap) w ∧ l ≤ m ∧ m ≤ len := by
  simp only [bounds] at h
  cases hi with
  | none =>
    cases yhi with
    | some _ => simp [okO] at h2
    | none =>
      simp only [Option.bind_some] at h
      cases lo with
      | none =>
        cases ylo with
        | some _ => simp [okO] at h1
        | none =>
          simp only [Option.bind_some, Option.some.injEq, Prod.mk.injEq] at h
          obtain ⟨rfl, rfl⟩ := h
          exact ⟨by simp [Instr.sliceBounds], by omega, by omega⟩
      | some x =>
        cases ylo with
        | none => simp [okO] at h1
        | some y =>
          cases hb : bound? (eval tb f x) len with
          | none => simp only [hb, Option.bind_none, reduceCtorEq] at h
          | some q =>
            simp only [hb, Option.bind_some, Option.some.injEq, Prod.mk.injEq] at h
            obtain ⟨rfl, rfl⟩ := h
            have := run_bound (P := P) (rep_eval I F h1) hb .sliceB w
            exact ⟨by simp [Instr.sliceBounds, this.1], this.2, by omega⟩
  | some z =>
    cases yhi with
    | none => simp [okO] at h2
    | some u =>
      cases hz : bound? (eval tb f z) len with
      | none => simp only [hz, Option.bind_none, reduceCtorEq] at h
      | some m' =>
        simp only [hz, Option.bind_some] at h
        obtain ⟨k, hk⟩ : ∃ k, int? (eval tb f z) = some k := by
          simp only [bound?] at hz
          cases hi : int? (eval tb f z) with
          | none => rw [hi] at hz; simp at hz
          | some k => exact ⟨k, rfl⟩
        have hzc : bound? (eval tb f z) cap = some m' := by
          simp only [bound?, hk, Option.bind_some] at hz ⊢
          split at hz
          · rename_i hq; rw [if_pos ⟨hq.1, by omega⟩]; exact hz
          · simp at hz
        have hm : m' ≤ len := (run_bound (P := P) (rep_eval I F h2) hz .sliceB w).2
        have r1 := fun code => (run_bound (P := P) (rep_eval I F h2) hzc code w).1
        cases lo with
        | none =>
          cases ylo with
          | some _ => simp [okO] at h1
          | none =>
            simp only [Option.bind_some, Option.some.injEq, Prod.mk.injEq] at h
            obtain ⟨rfl, rfl⟩ := h
            exact ⟨by simp [Instr.sliceBounds, r1], by omega, hm⟩
        | some x =>
          cases ylo with
          | none => simp [okO] at h1
          | some y =>
            cases hb : bound? (eval tb f x) m' with
            | none => simp only [hb, Option.bind_none, reduceCtorEq] at h
            | some q =>
              simp only [hb, Option.bind_some, Option.some.injEq, Prod.mk.injEq] at h
              obtain ⟨rfl, rfl⟩ := h
              have := run_bound (P := P) (rep_eval I F h1) hb .sliceB w
              exact ⟨by simp [Instr.sliceBounds, r1, this.1], this.2, hm⟩

theorem extract_mk (l : List UInt8) (i j : Nat) : (⟨l.toArray⟩ : ByteArray).extract i j = ⟨((l.take j).drop i).toArray⟩ := by
  apply ByteArray.ext
  simp [List.drop_take]

theorem sim_sls (I : Inv tb C) (F : FrRel C f a nt) {o : Oper} {t : TypeId} {x : AO} {y : Operand} {lo hi : Option AO} {ylo yhi : Option Operand} (ho : o.op = .slice t y ylo yhi none) (hu : P.underlying t = some .string) (hx : okAO x y = true)
    (h1 : okO lo ylo = true) (h2 : okO hi yhi = true) {s : List UInt8} (hv : eval tb f x = .s s) {l m : Nat} (h : bounds (eval tb f) s.length lo hi = some (l, m)) :
    Yields tb C (.s ((s.take m).drop l), none) ((execOp a.eval o).run P C.w) := by
  have hr := rep_eval I F hx
  rw [hv] at hr
  have ey : a.eval y = .string ⟨s.toArray⟩ := hr
  obtain ⟨hb, _, _⟩ := run_bounds (P := P) I F h1 h2 (cap := s.length) false (Nat.le_refl _) h C.w
  refine yields_pure I (v := .string ⟨((s.take m).drop l).toArray⟩) ?_ rfl
  simp only [execOp, ho, ey, Instr.sliceAt, Option.map_none, Sem.run_bind, run_underlying' hu, Result.andThen_ok, Instr.slice, Option.isSome_none, Bool.false_eq_true, if_false, size_mk, hb, extract_mk s l m, Sem.run_pure]

theorem RepLL.sub {l : List (List AV)} {vss : List (List Value)} (r : RepLL C l vss) (a b : Nat) : RepLL C ((l.take b).drop a) ((vss.take b).drop a) := r.take.drop

theorem flatten_drop {α : Type} {sz : Nat} : ∀ (l : List (List α)) (n : Nat), (∀ x ∈ l, x.length = sz) → (l.drop n).flatten = l.flatten.drop (n * sz)
  | _, 0, _ => by simp
  | [], n + 1, _ => by simp
  | x :: l, n + 1, h => by
    have hx := h x List.mem_cons_self
    rw [List.drop_succ_cons, flatten_drop l n fun y hy => h y (List.mem_cons_of_mem _ hy), List.flatten_cons, List.drop_append, List.drop_of_length_le (l := x) (by rw [hx, Nat.succ_mul]; omega), List.nil_append]
    congr 1
    rw [hx, Nat.succ_mul]; omega
theorem flatten_take {α : Type} {sz : Nat} : ∀ (l : List (List α)) (n : Nat), (∀ x ∈ l, x.length = sz) → (l.take n).flatten = l.flatten.take (n * sz)
  | _, 0, _ => by simp
  | [], n + 1, _ => by simp
  | x :: l, n + 1, h => by
    have hx := h x List.mem_cons_self
    rw [List.take_succ_cons, List.flatten_cons, flatten_take l n fun y hy => h y (List.mem_cons_of_mem _ hy), List.flatten_cons, List.take_append, List.take_of_length_le (l := x) (by rw [hx, Nat.succ_mul]; omega)]
    congr 2
    rw [hx, Nat.succ_mul]; omega

/-- the elements of a slice: where they lie -/
theorem els_rep (I : Inv tb C) {x : AV} {v : Value} {sz : Nat} {els : List (List AV)} (hsz : 0 < sz) (r : Rep C x v) (h : els? C.H sz x = some els) :
    (els = [] ∧ v = .slice none 0 0) ∨ ∃ q cap vss, v = .slice (some q) els.length cap ∧ els.length ≤ cap ∧ (els ≠ [] → ∃ b base, q = ⟨b, base, none⟩ ∧ Holds C.w b base vss.flatten) ∧ (∀ e ∈ els, e.length = sz ∧ e.all scal = true) ∧ RepLL C els vss := by
  cases x <;> simp only [els?, reduceCtorEq] at h
  case nils => obtain rfl := Option.some.inj h; exact .inl ⟨rfl, r⟩
  case sl sz' els' =>
    split at h
    · rename_i e
      subst e
      obtain rfl := Option.some.inj h
      rcases r with ⟨b, base, cap, vss, e, hl, _, _, hh, hs, hr⟩ | ⟨rfl, p, cap, e⟩
      · exact .inr ⟨_, cap, vss, e, hl, fun _ => ⟨b, base, rfl, hh⟩, hs, hr⟩
      · exact .inr ⟨p, cap, [], e, Nat.zero_le _, fun h => absurd rfl h, fun e he => (by cases he), rfl⟩
    · simp at h
  case orow id n lo len =>
    obtain ⟨_, fz, sz', els', hg, hl, k⟩ := r
    simp only [hg, Option.bind_some] at h
    split at h
    · rename_i hc
      obtain ⟨hn, rfl, hle⟩ := hc
      obtain rfl := Option.some.inj h
      obtain ⟨_, off, cap, e, hlc, hoff, hsize⟩ := k hn
      obtain ⟨tl, hg', hlab⟩ := row_get hg
      obtain ⟨vss, arr, et, fr, ⟨h1, hfr0, hlb⟩, h2, h3, h4, h5, h6, h7, h8, h9⟩ := I.obj id _ hg'
      have hlen : ((els'.drop lo).take len).length = len := by simp only [List.length_take, List.length_drop]; omega
      refine .inr ⟨_, cap, (vss.drop lo).take len, by rw [hlen]; exact e, by rw [hlen]; exact hlc, ?_, fun x hx => h4 x (List.mem_of_mem_drop (List.mem_of_mem_take hx)), h5.drop.take⟩
      intro hne
      have hpos : 0 < len := by
        rcases Nat.eq_zero_or_pos len with h0 | h0
        · rw [h0] at hne; simp at hne
        · exact h0
      have hlens := RepLL.lens (fun x hx => (h4 x hx).1) h5
      refine ⟨_, _, rfl, ?_⟩
      rw [flatten_take (sz := sz') _ _ fun x hx => hlens x (List.mem_of_mem_drop hx), flatten_drop _ _ hlens, hoff hpos]
      exact h7.sub _ _
    · simp at h
  case ocel sz' id off len =>
    obtain ⟨⟨ob, hg, hf⟩, q, cap, e, hlc, hq, hz⟩ := r
    unfold cellsAt at h
    split at h
    · rename_i t' cs hc
      simp only [Option.bind_some] at h
      split at h
      · rename_i hcond
        obtain ⟨rfl, hle⟩ := hcond
        obtain rfl := Option.some.inj h
        obtain ⟨vs, arr, et, fr, ⟨h1, hlb⟩, h2, h3, h4, h5, h6⟩ := I.obj id _ hc
        have chunk : ∀ (n : Nat) (cs : List AV) (vs : List Value) (base : Nat), cs.all scal = true → RepL C cs vs → Holds C.w (C.φ id).blk base vs → n * sz' ≤ cs.length →
            (chunks sz' n cs).length = n ∧ (∀ e ∈ chunks sz' n cs, e.length = sz' ∧ e.all scal = true) ∧ ∃ vss, Holds C.w (C.φ id).blk base vss.flatten ∧ RepLL C (chunks sz' n cs) vss := by
          intro n
          induction n with
          | zero => intro cs vs base _ _ _ _; exact ⟨rfl, fun e he => (by cases he), [], fun j v hj => (by simp at hj), rfl⟩
          | succ n ih =>
            intro cs vs base hs hr hh hn
            rw [Nat.succ_mul] at hn
            have hdrop : (cs.drop sz').all scal = true := by
              simp only [List.all_eq_true] at hs ⊢
              exact fun x hx => hs x (List.mem_of_mem_drop hx)
            obtain ⟨h1, h2, vss, h3, h4⟩ := ih (cs.drop sz') (vs.drop sz') (base + sz') hdrop hr.drop (by
              have := hh.sub sz' (vs.drop sz').length
              rwa [List.take_of_length_le (Nat.le_refl _)] at this) (by simp only [List.length_drop]; omega)
            have htake : (vs.take sz').length = sz' := by rw [List.length_take, hr.length]; omega
            refine ⟨by simp [chunks, h1], ?_, vs.take sz' :: vss, ?_, ⟨_, _, rfl, hr.take, h4⟩⟩
            · intro x hx
              rcases List.mem_cons.1 hx with e | hx
              · subst e
                refine ⟨by simp only [List.length_take]; omega, ?_⟩
                simp only [List.all_eq_true] at hs ⊢
                exact fun y hy => hs y (List.mem_of_mem_take hy)
              · exact h2 x hx
            · intro j v hj0
              have hj : (vs.take sz' ++ vss.flatten)[j]? = some v := hj0
              rcases Nat.lt_or_ge j sz' with hlt | hge
              · rw [List.getElem?_append_left (by omega)] at hj
                rw [List.getElem?_take, if_pos hlt] at hj
                exact hh j v hj
              · rw [List.getElem?_append_right (by omega)] at hj
                have := h3 _ v hj
                rw [htake] at this
                rwa [show base + sz' + (j - sz') = base + j by omega] at this
        obtain ⟨c1, c2, vss, c3, c4⟩ := chunk len (cs.drop off) (vs.drop off) off (by
          simp only [List.all_eq_true] at h3 ⊢
          exact fun x hx => h3 x (List.mem_of_mem_drop hx)) h4.drop (by
          have := h5.sub off (vs.drop off).length
          rw [List.take_of_length_le (Nat.le_refl _)] at this
          simpa using this) (by simp only [List.length_drop]; omega)
        refine .inr ⟨_, cap, vss, by rw [c1]; exact e, by rw [c1]; exact hlc, ?_, c2, c4⟩
        intro hne
        have hpos : 0 < len := by
          rcases Nat.eq_zero_or_pos len with h0 | h0
          · rw [h0] at hne; simp [chunks] at hne
          · exact h0
        rw [hq hpos]
        exact ⟨_, _, rfl, c3⟩
      · simp at h
    · simp at h


/-- an element's cells among all -/
theorem flatten_get {α : Type} {sz : Nat} {l : List (List α)} {i : Nat} {x : List α} (h : ∀ y ∈ l, y.length = sz) (hi : l[i]? = some x) : (l.flatten.drop (i * sz)).take sz = x := by
  rw [← flatten_drop l i h]
  have hlt := lt_of_get hi
  rw [List.drop_eq_getElem_cons hlt, List.flatten_cons]
  have e : l[i] = x := (List.getElem?_eq_some_iff.1 hi).2
  rw [e, List.take_append_of_le_length (by rw [h x (List.mem_of_getElem? hi)]; omega), List.take_of_length_le (by rw [h x (List.mem_of_getElem? hi)]; omega)]

theorem sim_ias (I : Inv tb C) (F : FrRel C f a nt) {o : Oper} {t e : TypeId} {x i : AO} {y j : Operand} (ho : o.op = .indexAddr t y j) (hu : P.underlying t = some (.slice e)) (hz : (P.info? e).isSome = true)
    (hx : okAO x y = true) (hi : okAO i j = true) {n : Int} (hn : int? (eval tb f i) = some n) (h0 : 0 ≤ n) {r : AV × Option Heap} (h : val (iaddr C.H (P.cellsOf e) (eval tb f x) n.toNat) = some r) :
    Yields tb C r ((execOp a.eval o).run P C.w) := by
  have hr := rep_eval I F hx
  obtain ⟨k, _, ej⟩ := int?_rep (rep_eval I F hi) hn
  generalize eval tb f x = v at *
  simp only [iaddr] at h
  cases hels : els? C.H (P.cellsOf e) v with
  | none => rw [hels] at h; simp [val] at h
  | some els =>
    rw [hels] at h
    simp only [Option.bind_some] at h
    split at h
    · rename_i hlt
      have run : ∀ (b off len cap : Nat), a.eval y = .slice (some ⟨b, off, none⟩) len cap → n.toNat < len → (execOp a.eval o).run P C.w = .ok (.value (.pointer (some ⟨b, off + n.toNat * P.cellsOf e, none⟩))) C.w := by
        intro b off len cap hp hl
        have hc : 0 ≤ n ∧ n < (len : Int) := by omega
        simp only [execOp, ho, hp, ej, Instr.indexAt, asIntOf, Sem.run_bind, run_underlying' hu, Result.andThen_ok, Sem.run_pure, run_sizeOf' hz, if_pos hc, add_none]
      have gen : ∀ (w : AV), (els[n.toNat]?).map (fun cs => AV.ip cs 0) = some w → (∃ b base cap vss, a.eval y = .slice (some ⟨b, base, none⟩) els.length cap ∧ b < C.w.heap.size ∧ ¬ C.own b ∧ Holds C.w b base vss.flatten ∧ (∀ e' ∈ els, e'.length = P.cellsOf e ∧ e'.all scal = true) ∧ RepLL C els vss) →
          Yields tb C (w, none) ((execOp a.eval o).run P C.w) := by
        rintro w hw ⟨b, base, cap, vss, e', hb, hown, hh, hs, hrr⟩
        cases hi : els[n.toNat]? with
        | none => rw [hi] at hw; simp at hw
        | some cs =>
          rw [hi] at hw
          obtain rfl := Option.some.inj hw
          obtain ⟨vs, hv, rv⟩ := RepLL.get hrr hi
          have hlens := RepLL.lens (fun x hx => (hs x hx).1) hrr
          have := hh.sub (n.toNat * P.cellsOf e) (P.cellsOf e)
          rw [flatten_get hlens hv] at this
          exact yields_pure I (run b base _ cap e' hlt) ⟨b, base + n.toNat * P.cellsOf e, vs, rfl, hb, hown, this, (hs cs (List.mem_of_getElem? hi)).2, rv⟩
      cases v
      case orow id k lo len =>
        simp only [val, Option.map_some, Option.some.injEq] at h
        subst h
        obtain ⟨_, fz, sz, els', hg, hl, kk⟩ := hr
        simp only [els?, hg, Option.bind_some] at hels
        split at hels
        · rename_i hc
          obtain ⟨hk, hsz, hle⟩ := hc
          obtain rfl := Option.some.inj hels
          obtain ⟨_, off, cap, e', hlc, hoff, _⟩ := kk hk
          have hnl : n.toNat < len := by simp only [List.length_take, List.length_drop] at hlt; omega
          refine yields_pure I (run _ _ _ _ e' hnl) ⟨⟨_, rfl⟩, fz, sz, els', hg, hl, fun _ => ?_⟩
          rw [hoff (by omega), ← hsz, Nat.add_mul, Nat.add_assoc]
          rfl
        · simp at hels
      case ocel sz id off len =>
        simp only [val, Option.map_some, Option.some.injEq] at h
        subst h
        obtain ⟨hobj, q, cap, e', hlc, hq, _⟩ := hr
        simp only [els?] at hels
        cases hc : cellsAt C.H id with
        | none => rw [hc] at hels; simp at hels
        | some cs =>
          rw [hc] at hels
          simp only [Option.bind_some] at hels
          split at hels
          · rename_i hcond
            obtain ⟨rfl, _⟩ := hcond
            obtain rfl := Option.some.inj hels
            have hnl : n.toNat < len := by
              have : ∀ (m : Nat) (cs : List AV), (chunks (P.cellsOf e) m cs).length = m := by
                intro m; induction m with
                | zero => intro cs; rfl
                | succ m ih => intro cs; simp [chunks, ih]
              rwa [this] at hlt
            refine yields_pure I (run _ _ _ _ e' hnl) ⟨hobj, ?_⟩
            rw [hq (by omega)]
          · simp at hels
      case nils =>
        simp only [els?, Option.some.injEq] at hels
        subst hels
        simp at hlt
      case sl sz els' =>
        simp only [els?] at hels
        split at hels
        · rename_i e'
          subst e'
          obtain rfl := Option.some.inj hels
          rcases hr with ⟨b, base, cap, vss, e', hl, hb, hown, hh, hs, hrr⟩ | ⟨rfl, _⟩
          case inr => simp at hlt
          simp only [val, Option.map_map] at h
          cases hi : els'[n.toNat]? with
          | none => rw [hi] at h; simp at h
          | some cs =>
            rw [hi] at h
            obtain rfl := Option.some.inj h
            exact gen _ (by rw [hi]; rfl) ⟨b, base, cap, vss, e', hb, hown, hh, hs, hrr⟩
        · simp at hels
      all_goals simp [els?] at hels
    · simp [val] at h

theorem sim_sll (I : Inv tb C) (F : FrRel C f a nt) {o : Oper} {t e : TypeId} {x : AO} {y : Operand} {lo hi : Option AO} {ylo yhi : Option Operand} (ho : o.op = .slice t y ylo yhi none) (hu : P.underlying t = some (.slice e)) (hz : (P.info? e).isSome = true)
    (hx : okAO x y = true) (h1 : okO lo ylo = true) (h2 : okO hi yhi = true) {len l m : Nat} (hl : len? (eval tb f x) = some len) (h : bounds (eval tb f) len lo hi = some (l, m)) {r : AV × Option Heap}
    (hv : val (resl C.H (P.cellsOf e) (eval tb f x) l m) = some r) : Yields tb C r ((execOp a.eval o).run P C.w) := by
  have hr := rep_eval I F hx
  have run : ∀ (p : Option Addr) (cap : Nat), len ≤ cap → a.eval y = .slice p len cap → (execOp a.eval o).run P C.w = .ok (.value (.slice (if cap = l then p else p.map (·.add (l * P.cellsOf e))) (m - l) (cap - l))) C.w ∧ l ≤ m ∧ m ≤ len := by
    intro p cap hlc hp
    obtain ⟨hb, q1, q2⟩ := run_bounds (P := P) I F h1 h2 (cap := cap) true hlc h C.w
    refine ⟨?_, q1, q2⟩
    simp only [execOp, ho, hp, Instr.sliceAt, Option.map_none, Sem.run_bind, run_underlying' hu, Result.andThen_ok, Instr.slice, hb, run_sizeOf' hz, Sem.run_pure]
  generalize eval tb f x = v at *
  cases v <;> simp only [resl, val, Option.map_none, reduceCtorEq] at hv
  case nils =>
    simp only [Option.map_some, Option.some.injEq] at hv
    subst hv
    simp only [len?, Option.some.injEq] at hl
    subst hl
    obtain ⟨q, q1, q2⟩ := run none 0 (Nat.le_refl _) hr
    obtain rfl : m = 0 := by omega
    obtain rfl : l = 0 := by omega
    exact yields_pure I q rfl
  case sl sz els =>
    split at hv
    · rename_i e'
      subst e'
      simp only [Option.map_some, Option.some.injEq] at hv
      subst hv
      simp only [len?, Option.some.injEq] at hl
      subst hl
      rcases hr with ⟨b, base, cap, vss, e', hlc, hb, hown, hh, hs, hrr⟩ | ⟨rfl, p, cap, e'⟩
      case inr =>
        obtain ⟨q, q1, q2⟩ := run _ cap (Nat.zero_le _) e'
        simp only [List.length_nil] at q2
        obtain rfl : m = 0 := by omega
        obtain rfl : l = 0 := by omega
        by_cases hc : cap = 0
        · rw [if_pos hc] at q
          exact yields_pure I q (.inr ⟨by simp, _, _, rfl⟩)
        · rw [if_neg hc] at q
          exact yields_pure I q (.inr ⟨by simp, _, _, rfl⟩)
      obtain ⟨q, q1, q2⟩ := run _ _ hlc e'
      have hlens := RepLL.lens (fun x hx => (hs x hx).1) hrr
      have hlen : ((els.take m).drop l).length = m - l := by simp only [List.length_drop, List.length_take]; omega
      by_cases hc : cap = l
      · have hm : m = l := by omega
        rw [if_pos hc] at q
        refine yields_pure I q <| .inl ⟨b, base, cap - l, [], ?_, by omega, hb, hown, fun j v hj => (by simp at hj), ?_, ?_⟩
        · rw [hlen]
        · intro x hx
          rw [List.eq_nil_of_length_eq_zero (l := (els.take m).drop l) (by rw [hlen]; omega)] at hx
          cases hx
        · rw [List.eq_nil_of_length_eq_zero (l := (els.take m).drop l) (by rw [hlen]; omega)]
          rfl
      · rw [if_neg hc] at q
        simp only [Option.map_some, add_none] at q
        refine yields_pure I q <| .inl ⟨b, base + l * P.cellsOf e, cap - l, (vss.take m).drop l, by rw [hlen], by rw [hlen]; omega, hb, hown, ?_, ?_, hrr.sub _ _⟩
        · rw [flatten_drop (sz := P.cellsOf e) _ _ fun x hx => hlens x (List.mem_of_mem_take hx), flatten_take _ _ hlens]
          have := hh.sub (l * P.cellsOf e) (m * P.cellsOf e - l * P.cellsOf e)
          rwa [← List.drop_take] at this
        · exact fun x hx => hs x (List.mem_of_mem_take (List.mem_of_mem_drop hx))
    · simp at hv
  case orow id n l' len' =>
    simp only [len?, Option.some.injEq] at hl
    subst hl
    obtain ⟨_, fz, sz, els, hg, hle, k⟩ := hr
    simp only [hg, Option.bind_some] at hv
    split at hv
    · rename_i hc
      obtain ⟨hn, hsz, hle'⟩ := hc
      simp only [Option.map_some, Option.some.injEq] at hv
      subst hv
      obtain ⟨_, off, cap, e', hlc, hoff, hsize, hbo⟩ := k hn
      obtain ⟨q, q1, q2⟩ := run _ _ hlc e'
      by_cases hc : cap = l
      · rw [if_pos hc] at q
        refine yields_pure I q ⟨⟨_, _, rfl⟩, fz, sz, els, hg, hle, fun _ => ⟨by omega, off, _, rfl, by omega, fun hp => by omega, ?_, hbo⟩⟩
        have : (cap - l) * sz ≤ cap * sz := Nat.mul_le_mul_right _ (by omega)
        omega
      · rw [if_neg hc] at q
        simp only [Option.map_some, add_none] at q
        refine yields_pure I q ⟨⟨_, _, rfl⟩, fz, sz, els, hg, hle, fun _ => ⟨by omega, off + l * P.cellsOf e, _, rfl, by omega, fun hp => ?_, ?_, by omega⟩⟩
        · rw [hoff (by omega), hsz, Nat.add_mul]; omega
        · rw [hsz] at hsize ⊢
          rw [Nat.sub_mul]
          have : l * P.cellsOf e ≤ cap * P.cellsOf e := Nat.mul_le_mul_right _ (by omega)
          omega
    · simp at hv
  case ocel sz id off len' =>
    simp only [len?, Option.some.injEq] at hl
    subst hl
    split at hv
    · rename_i hsz
      subst hsz
      simp only [Option.map_some, Option.some.injEq] at hv
      subst hv
      obtain ⟨hobj, q0, cap, e', hlc, hoff, hz'⟩ := hr
      obtain ⟨q, q1, q2⟩ := run _ _ hlc e'
      by_cases hc : cap = l
      · rw [if_pos hc] at q
        exact yields_pure I q ⟨hobj, q0, _, rfl, by omega, fun hp => by omega, hz'⟩
      · rw [if_neg hc] at q
        simp only [Option.map_some, add_none] at q
        exact yields_pure I q ⟨hobj, _, _, rfl, by omega, fun hp => by rw [hoff (by omega)], hz'⟩
    · simp at hv


/-- an array's slice -/
theorem chunks_spec (sz : Nat) : ∀ (n : Nat) (cs : List AV) (vs : List Value) (w : World) (b base : Nat), cs.all scal = true → RepL C cs vs → Holds w b base vs → n * sz ≤ cs.length →
    (chunks sz n cs).length = n ∧ (∀ e ∈ chunks sz n cs, e.length = sz ∧ e.all scal = true) ∧ ∃ vss, Holds w b base vss.flatten ∧ RepLL C (chunks sz n cs) vss := by
  intro n
  induction n with
  | zero => intro cs vs w b base _ _ _ _; exact ⟨rfl, fun e he => (by cases he), [], fun j v hj => (by simp at hj), rfl⟩
  | succ n ih =>
    intro cs vs w b base hs hr hh hn
    rw [Nat.succ_mul] at hn
    have hdrop : (cs.drop sz).all scal = true := by
      simp only [List.all_eq_true] at hs ⊢
      exact fun x hx => hs x (List.mem_of_mem_drop hx)
    obtain ⟨h1, h2, vss, h3, h4⟩ := ih (cs.drop sz) (vs.drop sz) w b (base + sz) hdrop hr.drop (by
      have := hh.sub sz (vs.drop sz).length
      rwa [List.take_of_length_le (Nat.le_refl _)] at this) (by simp only [List.length_drop]; omega)
    have htake : (vs.take sz).length = sz := by rw [List.length_take, hr.length]; omega
    refine ⟨by simp [chunks, h1], ?_, vs.take sz :: vss, ?_, ⟨_, _, rfl, hr.take, h4⟩⟩
    · intro x hx
      rcases List.mem_cons.1 hx with e | hx
      · subst e
        refine ⟨by simp only [List.length_take]; omega, ?_⟩
        simp only [List.all_eq_true] at hs ⊢
        exact fun y hy => hs y (List.mem_of_mem_take hy)
      · exact h2 x hx
    · intro j v hj0
      have hj : (vs.take sz ++ vss.flatten)[j]? = some v := hj0
      rcases Nat.lt_or_ge j sz with hlt | hge
      · rw [List.getElem?_append_left (by omega)] at hj
        rw [List.getElem?_take, if_pos hlt] at hj
        exact hh j v hj
      · rw [List.getElem?_append_right (by omega)] at hj
        have := h3 _ v hj
        rw [htake] at this
        rwa [show base + sz + (j - sz) = base + j by omega] at this

theorem sim_sla (I : Inv tb C) (F : FrRel C f a nt) {o : Oper} {t e : TypeId} {n : Nat} {x : AO} {y : Operand} {lo hi : Option AO} {ylo yhi : Option Operand} (ho : o.op = .slice t y ylo yhi none) (hz : (P.info? e).isSome = true) (hz0 : 0 < P.cellsOf e)
    (hu : P.underlying t = some (.array n e) ∨ ∃ u, P.underlying t = some (.pointer u) ∧ P.underlying u = some (.array n e))
    (hx : okAO x y = true) (h1 : okO lo ylo = true) (h2 : okO hi yhi = true) {l m : Nat} (h : bounds (eval tb f) n lo hi = some (l, m)) {r : AV × Option Heap}
    (hv : val (arrsl C.H n (P.cellsOf e) (eval tb f x) l m) = some r) : Yields tb C r ((execOp a.eval o).run P C.w) := by
  have hr := rep_eval I F hx
  obtain ⟨hb, q1, q2⟩ := run_bounds (P := P) I F h1 h2 (cap := n) false (Nat.le_refl _) h C.w
  have run : ∀ (p : Addr), a.eval y = .pointer (some p) → (execOp a.eval o).run P C.w = .ok (.value (.slice (some (if n = l then p else p.add (l * P.cellsOf e))) (m - l) (n - l))) C.w := by
    intro p hp
    rcases hu with hu | ⟨u, hu, hu'⟩
    · simp only [execOp, ho, hp, Instr.sliceAt, Option.map_none, Sem.run_bind, run_underlying' hu, Result.andThen_ok, Instr.sureAddr, hb, run_sizeOf' hz, Sem.run_pure]
    · simp only [execOp, ho, hp, Instr.sliceAt, Option.map_none, Sem.run_bind, run_underlying' hu, run_underlying' hu', Result.andThen_ok, Instr.slice, asAddr, hb, run_sizeOf' hz, Sem.run_pure]
  generalize eval tb f x = v at *
  cases v <;> simp only [arrsl, val, Option.map_none, reduceCtorEq] at hv
  case ptr id off =>
    cases hc : cellsAt C.H id with
    | none => rw [hc] at hv; simp at hv
    | some cs =>
      rw [hc] at hv
      simp only [Option.bind_some] at hv
      split at hv
      · simp only [Option.map_some, Option.some.injEq] at hv
        subst hv
        obtain ⟨hobj, e'⟩ := hr
        have q := run _ e'
        by_cases hc : n = l
        · rw [if_pos hc] at q
          exact yields_pure I q ⟨hobj, off, _, rfl, by omega, fun hp => by omega, hz0⟩
        · rw [if_neg hc, add_none] at q
          exact yields_pure I q ⟨hobj, _, _, rfl, by omega, fun hp => rfl, hz0⟩
      · simp at hv
  case ip cs off =>
    split at hv
    · rename_i hle
      simp only [Option.map_some, Option.some.injEq] at hv
      subst hv
      obtain ⟨b, base, vs, e', hlt, hown, hh, hs, hrr⟩ := hr
      have q := run _ e'
      obtain ⟨c1, c2, vss, c3, c4⟩ := chunks_spec (C := C) (P.cellsOf e) n (cs.drop off) (vs.drop off) C.w b (base + off) (by
        simp only [List.all_eq_true] at hs ⊢
        exact fun x hx => hs x (List.mem_of_mem_drop hx)) hrr.drop (by
        have := hh.sub off (vs.drop off).length
        rwa [List.take_of_length_le (Nat.le_refl _)] at this) (by simp only [List.length_drop]; omega)
      have hlens := RepLL.lens (fun x hx => (c2 x hx).1) c4
      have hlen : (((chunks (P.cellsOf e) n (cs.drop off)).take m).drop l).length = m - l := by simp only [List.length_drop, List.length_take, c1]; omega
      by_cases hc : n = l
      · rw [if_pos hc] at q
        refine yields_pure I q <| .inl ⟨b, base + off, n - l, [], by rw [hlen], by omega, hlt, hown, fun j v hj => (by simp at hj), ?_, ?_⟩
        · intro x hx
          rw [List.eq_nil_of_length_eq_zero (l := ((chunks (P.cellsOf e) n (cs.drop off)).take m).drop l) (by rw [hlen]; omega)] at hx
          cases hx
        · rw [List.eq_nil_of_length_eq_zero (l := ((chunks (P.cellsOf e) n (cs.drop off)).take m).drop l) (by rw [hlen]; omega)]
          rfl
      · rw [if_neg hc, add_none] at q
        refine yields_pure I q <| .inl ⟨b, base + off + l * P.cellsOf e, n - l, (vss.take m).drop l, by rw [hlen], by rw [hlen]; omega, hlt, hown, ?_, fun x hx => c2 x (List.mem_of_mem_take (List.mem_of_mem_drop hx)), c4.sub _ _⟩
        rw [flatten_drop (sz := P.cellsOf e) _ _ fun x hx => hlens x (List.mem_of_mem_take hx), flatten_take _ _ hlens]
        have := c3.sub (l * P.cellsOf e) (m * P.cellsOf e - l * P.cellsOf e)
        rwa [← List.drop_take] at this
    · simp at hv

/-! Stores. -/
theorem heap_setCell {w : World} {b o : Nat} {v : Value} {arr : Array Value} {e : TypeId} {fr : Nat × Nat} (h : w.heap[b]? = some (.cells arr e fr)) :
    (w.setCell ⟨b, o, none⟩ v).heap[b]? = some (.cells (arr.setIfInBounds o v) e fr) := by
  simp [World.setCell, Array.getElem?_modify, h]
theorem heap_setCell_other {w : World} {b o c : Nat} {v : Value} (h : c ≠ b) : (w.setCell ⟨b, o, none⟩ v).heap[c]? = w.heap[c]? := by
  simp [World.setCell, Array.getElem?_modify, Ne.symm h]

theorem heap_setCells {b : Nat} : ∀ (vs : List Value) (o : Nat) {w : World} {arr : Array Value} {e : TypeId} {fr : Nat × Nat}, w.heap[b]? = some (.cells arr e fr) →
    ∃ arr', (w.setCells b o vs).heap[b]? = some (.cells arr' e fr) ∧ arr'.size = arr.size
  | [], _, _, arr, _, _, h => ⟨arr, h, rfl⟩
  | v :: r, o, w, arr, e, fr, h => by
    obtain ⟨arr', h1, h2⟩ := heap_setCells r (o + 1) (heap_setCell (o := o) (v := v) h)
    exact ⟨arr', h1, by rw [h2]; simp⟩
theorem heap_setCells_other {b c : Nat} (hc : c ≠ b) : ∀ (vs : List Value) (o : Nat) {w : World}, (w.setCells b o vs).heap[c]? = w.heap[c]?
  | [], _, _ => rfl
  | _ :: r, o, w => by rw [World.setCells, heap_setCells_other hc r (o + 1), heap_setCell_other hc]
theorem size_setCells {b : Nat} : ∀ (vs : List Value) (o : Nat) {w : World}, (w.setCells b o vs).heap.size = w.heap.size
  | [], _, _ => rfl
  | _ :: r, o, w => by rw [World.setCells, size_setCells r (o + 1)]; simp

theorem rest_setCells {b : Nat} : ∀ (vs : List Value) (o : Nat) {w : World}, Rest w (w.setCells b o vs)
  | [], _, _ => ⟨rfl, rfl, rfl⟩
  | v :: r, o, w => rest_setCells (b := b) r (o + 1) (w := w.setCell ⟨b, o, none⟩ v)

/-- cells that are written, and what holds then -/
theorem run_put {w : World} {b o : Nat} {arr : Array Value} {e : TypeId} {fr : Nat × Nat} (h : w.heap[b]? = some (.cells arr e fr)) {vs : List Value} (hle : o + vs.length ≤ arr.size)
    (hf : ∀ j, j < vs.length → w.frozen? ⟨b, o + j, none⟩ = false) (h1 : ∀ v ∈ vs, v.oneCell' = true) : (storeCells ⟨b, o, none⟩ vs).run P w = .ok () (w.setCells b o vs) := by
  have := run_storeCells_cells (P := P) b o vs 0 w (fun j hj => by
    simp only [World.cell?, h, Nat.add_zero]
    simp [Array.getElem?_eq_getElem (show o + j < arr.size by omega)]) (fun j hj => by simpa using hf j hj) h1
  simpa using this

theorem Holds.put {w : World} {b o base : Nat} {arr : Array Value} {e : TypeId} {fr : Nat × Nat} (h : w.heap[b]? = some (.cells arr e fr)) {vs us : List Value} (hh : Holds w b base us)
    (hle : o + vs.length ≤ us.length) (hsz : base + us.length ≤ arr.size) : Holds (w.setCells b (base + o) vs) b base (us.take o ++ vs ++ us.drop (o + vs.length)) := by
  intro j v hj
  rcases Nat.lt_or_ge j o with hlt | hge
  · rw [World.cell?_setCells_out b vs (base + o) w _ (fun _ _ => .inl (by simp; omega))]
    rw [List.append_assoc, List.getElem?_append_left (by simp only [List.length_take]; omega), List.getElem?_take, if_pos hlt] at hj
    exact hh j v hj
  · rcases Nat.lt_or_ge j (o + vs.length) with hlt | hge'
    · have hjv : vs[j - o]? = some v := by
        rw [List.append_assoc, List.getElem?_append_right (by simp only [List.length_take]; omega)] at hj
        simp only [List.length_take] at hj
        rw [show min o us.length = o by omega, List.getElem?_append_left (by omega)] at hj
        exact hj
      have hlt' : j - o < vs.length := by omega
      have := World.cell?_setCells_in b vs (base + o) w (fun i hi => by
        simp only [World.cell?, h]
        simp [Array.getElem?_eq_getElem (show base + o + i < arr.size by omega)]) (j - o) hlt'
      rw [show base + o + (j - o) = base + j by omega] at this
      rw [this, ← hjv, List.getElem?_eq_getElem hlt']
    · rw [World.cell?_setCells_out b vs (base + o) w _ (fun _ _ => .inr (by simp; omega))]
      rw [List.getElem?_append_right (by simp only [List.length_append, List.length_take]; omega), List.getElem?_drop] at hj
      simp only [List.length_append, List.length_take] at hj
      rw [show o + vs.length + (j - (min o us.length + vs.length)) = j by omega] at hj
      exact hh j v hj

theorem frozen_put {w : World} {b o c q : Nat} {vs : List Value} : (w.setCells b o vs).frozen? ⟨c, q, none⟩ = w.frozen? ⟨c, q, none⟩ := World.frozen?_setCells b vs o w _

theorem splice_rep {cs new : List AV} {vs us : List Value} {off : Nat} (r : RepL C cs vs) (q : RepL C new us) : RepL C (splice cs off new) (vs.take off ++ us ++ vs.drop (off + us.length)) := by
  rw [q.length]
  exact RepL.app (RepL.app r.take q) r.drop
theorem splice_scal {cs new : List AV} {off : Nat} (r : cs.all scal = true) (q : new.all scal = true) : (splice cs off new).all scal = true := by
  simp only [splice, List.all_append, Bool.and_eq_true, List.all_eq_true] at *
  exact ⟨⟨fun x hx => r x (List.mem_of_mem_take hx), q⟩, fun x hx => r x (List.mem_of_mem_drop hx)⟩
theorem splice_length {cs new : List AV} {off : Nat} (h : off + new.length ≤ cs.length) : (splice cs off new).length = cs.length := by
  simp only [splice, List.length_append, List.length_take, List.length_drop]; omega

theorem run_storeVar {t : TypeId} {b o : Nat} {v : Value} {w : World} {arr : Array Value} {e : TypeId} {fr : Nat × Nat} (hz : (P.info? t).isSome = true) (hsz : v.cells.size = P.cellsOf t) (h : w.heap[b]? = some (.cells arr e fr))
    (hle : o + P.cellsOf t ≤ arr.size) (hf : ∀ j, j < P.cellsOf t → w.frozen? ⟨b, o + j, none⟩ = false) (h1 : ∀ x ∈ v.cells.toList, x.oneCell' = true) :
    (storeVar t ⟨b, o, none⟩ v).run P w = .ok () (w.setCells b o v.cells.toList) := by
  have hne : ¬ (v.cells.size ≠ P.cellsOf t) := by omega
  have hp := run_put (P := P) h (vs := v.cells.toList) (by simpa [hsz] using hle) (fun j hj => hf j (by simpa [hsz] using hj)) h1
  simp only [storeVar, Sem.run_bind, run_sizeOf' hz, Result.andThen_ok, if_neg hne]
  simpa using hp

theorem sim_st (I : Inv tb C) (F : FrRel C f a nt) {o : Oper} {t : TypeId} {x z : AO} {y u : Operand} (ho : o.op = .store t y u) (hx : okAO x y = true) (hzu : okAO z u = true) (hz : (P.info? t).isSome = true) (hz0 : 0 < P.cellsOf t)
    {H' : Heap} (h : store C.H (P.cellsOf t) (eval tb f x) (eval tb f z) = some H') : Yields tb C (.junk, some H') ((execOp a.eval o).run P C.w) := by
  have hr := rep_eval I F hx
  have hv := rep_eval I F hzu
  generalize eval tb f x = v at *
  generalize eval tb f z = q at *
  cases v <;> simp only [store, reduceCtorEq] at h
  case ptr id off =>
    cases hc : cellsAt C.H id with
    | none => rw [hc] at h; simp at h
    | some cs =>
      rw [hc] at h
      simp only [Option.bind_some] at h
      split at h
      · rename_i hcond
        obtain ⟨hn, hle⟩ := hcond
        obtain rfl := Option.some.inj h
        obtain ⟨tl, hg, hlab⟩ := cells_get hc
        obtain ⟨_, e'⟩ := hr
        obtain ⟨vs, arr, et, fr, ⟨h1, hlb⟩, h2, h3, h4, h5, h6⟩ := I.obj id _ hg
        obtain ⟨c1, c2⟩ := cells_rep hv (by omega)
        have hsz : (a.eval u).cells.size = P.cellsOf t := by have := c1.length; rw [hn] at this; simpa using this
        have run := run_storeVar (P := P) (t := t) (o := off) hz hsz h1 (by omega) (fun j hj => h6 _ (by omega)) (ones_rep c2 c1)
        obtain ⟨arr', g1, g2⟩ := heap_setCells (a.eval u).cells.toList off h1
        have hvl : (a.eval u).cells.toList.length = P.cellsOf t := by simpa using hsz
        obtain ⟨X, hI⟩ := upd (D := ⟨C.φ, C.H.set id (AObj.cells (labAt C.H id) (splice cs off (cellsOf q))), C.w.setCells (C.φ id).blk off (a.eval u).cells.toList⟩) I (rest_setCells _ _) hg rfl (fun _ _ => rfl) (by simp only [size_setCells]; omega)
          (fun b hb hne => heap_setCells_other hne _ _) (.inl rfl) (fun _ => ⟨rfl, rfl⟩) (fun _ _ _ _ e => by cases e)
        refine ⟨_, X, hI ?_, rfl, .inr ⟨?_, trivial⟩⟩
        · refine ⟨_, arr', et, fr, ⟨g1, by rw [hlab]; exact hlb⟩, by rw [g2, h2, splice_length (by rw [hn]; exact hle)], splice_scal h3 c2, splice_rep (h4.ext X) (c1.ext X), ?_, ?_⟩
          · have := Holds.put (base := 0) (o := off) h1 h5 (vs := (a.eval u).cells.toList) (by rw [hvl, h4.length]; exact hle) (by rw [h4.length]; omega)
            simpa using this
          · intro j hj
            rw [splice_length (by rw [hn]; exact hle)] at hj
            rw [frozen_put]
            exact h6 j hj
        · simp only [execOp, ho, e', Instr.storeAt, Instr.sureAddr, Sem.run_bind, Sem.run_pure, Result.andThen_ok, run]
      · simp at h
  case pe id n i off =>
    obtain ⟨_, fz, sz, els, hg, hl, k⟩ := hr
    simp only [hg, Option.bind_some] at h
    split at h
    · rename_i hcond
      obtain ⟨hfz, hn, hcl⟩ := hcond
      cases hi : els[i]? with
      | none => rw [hi] at h; simp at h
      | some cs =>
        rw [hi] at h
        simp only [Option.bind_some] at h
        split at h
        · rename_i hle
          obtain rfl := Option.some.inj h
          have e' := k hn
          obtain ⟨tl, hg', hlab⟩ := row_get hg
          obtain ⟨vss, arr, et, fr, ⟨h1, hfr0, hlb⟩, h2, h3, h4, h5, h6, h7, h8, h9⟩ := I.obj id _ hg'
          obtain ⟨c1, c2⟩ := cells_rep hv (by omega)
          have hsz : (a.eval u).cells.size = P.cellsOf t := by have := c1.length; rw [hcl] at this; simpa using this
          have hvl : (a.eval u).cells.toList.length = P.cellsOf t := by simpa using hsz
          have hcs := (h4 cs (List.mem_of_getElem? hi)).1
          have hilt := lt_of_get hi
          have hin : i * sz + sz ≤ els.length * sz := by
            have : (i + 1) * sz ≤ els.length * sz := Nat.mul_le_mul_right _ (by omega)
            rwa [Nat.succ_mul] at this
          have hfr : ∀ j, j < P.cellsOf t → C.w.frozen? ⟨(C.φ id).blk, (C.φ id).base + i * sz + off + j, none⟩ = false := fun j hj => h8 hfz _ (by omega)
          have run := run_storeVar (P := P) (t := t) (o := (C.φ id).base + i * sz + off) hz hsz h1 (by omega) hfr (ones_rep c2 c1)
          obtain ⟨arr', g1, g2⟩ := heap_setCells (a.eval u).cells.toList ((C.φ id).base + i * sz + off) h1
          obtain ⟨X, hI⟩ := upd (D := ⟨C.φ, C.H.set id (AObj.row (labAt C.H id) false sz (els.set i (splice cs off (cellsOf q)))), C.w.setCells (C.φ id).blk ((C.φ id).base + i * sz + off) (a.eval u).cells.toList⟩) I (rest_setCells _ _) hg' rfl (fun _ _ => rfl) (by simp only [size_setCells]; omega)
            (fun b hb hne => heap_setCells_other hne _ _) (.inl rfl) (fun e => by cases e) (fun _ fz' sz' els' e => by cases e; exact ⟨_, _, _, rfl, by simp, fun _ => rfl⟩)
          refine ⟨_, X, hI ?_, rfl, .inr ⟨?_, trivial⟩⟩
          · obtain ⟨vs, hv', rv⟩ := RepLL.get h5 hi
            have hlens := RepLL.lens (fun x hx => (h4 x hx).1) h5
            refine ⟨vss.set i (vs.take off ++ (a.eval u).cells.toList ++ vs.drop (off + (a.eval u).cells.toList.length)), arr', et, fr, ⟨g1, hfr0, by rw [hlab]; exact hlb⟩, by rw [g2]; exact h2, h3, ?_, ?_, by simpa using h6, ?_, ?_, ?_⟩
            · intro x hx
              rcases List.mem_or_eq_of_mem_set hx with hx | hx
              · exact h4 x hx
              · subst hx
                exact ⟨by rw [splice_length (by omega)]; exact hcs, splice_scal (h4 cs (List.mem_of_getElem? hi)).2 c2⟩
            · exact RepLL.set (splice_rep (rv.ext X) (c1.ext X)) (h5.ext X)
            · have hfl : (vss.set i (vs.take off ++ (a.eval u).cells.toList ++ vs.drop (off + (a.eval u).cells.toList.length))).flatten =
                  vss.flatten.take (i * sz + off) ++ (a.eval u).cells.toList ++ vss.flatten.drop (i * sz + off + (a.eval u).cells.toList.length) := by
                have hvs : vs.length = sz := hlens vs (List.mem_of_getElem? hv')
                have : ∀ (l : List (List Value)) (i : Nat), (∀ y ∈ l, y.length = sz) → l[i]? = some vs → (l.set i (vs.take off ++ (a.eval u).cells.toList ++ vs.drop (off + (a.eval u).cells.toList.length))).flatten =
                    l.flatten.take (i * sz + off) ++ (a.eval u).cells.toList ++ l.flatten.drop (i * sz + off + (a.eval u).cells.toList.length) := by
                  intro l
                  induction l with
                  | nil => intro i _ e; simp at e
                  | cons y l ih =>
                    intro i hy e
                    cases i with
                    | zero =>
                      simp at e; subst e
                      simp only [List.set_cons_zero, List.flatten_cons, Nat.zero_mul, Nat.zero_add]
                      rw [List.take_append_of_le_length (by omega), List.drop_append_of_le_length (by omega)]
                      simp
                    | succ i =>
                      have hyl := hy y List.mem_cons_self
                      simp only [List.set_cons_succ, List.flatten_cons]
                      rw [ih i (fun z hz => hy z (List.mem_cons_of_mem _ hz)) (by simpa using e)]
                      rw [Nat.succ_mul, List.take_append, List.take_of_length_le (l := y) (by omega), List.drop_append, List.drop_of_length_le (l := y) (by omega), List.nil_append]
                      rw [show i * sz + sz + off - y.length = i * sz + off by omega, show i * sz + sz + off + (a.eval u).cells.toList.length - y.length = i * sz + off + (a.eval u).cells.toList.length by omega]
                      simp
                exact this vss i hlens hv'
              rw [hfl]
              have hfll : vss.flatten.length = els.length * sz := by
                have := (RepLL.flat h5).length
                rw [this]
                clear this hfl
                have : ∀ (l : List (List AV)), (∀ x ∈ l, x.length = sz) → l.flatten.length = l.length * sz := by
                  intro l
                  induction l with
                  | nil => intro _; simp
                  | cons y l ih => intro hy; rw [List.flatten_cons, List.length_append, ih fun z hz => hy z (List.mem_cons_of_mem _ hz), hy y List.mem_cons_self, List.length_cons, Nat.succ_mul]; omega
                exact this els fun x hx => (h4 x hx).1
              have := Holds.put (base := (C.φ id).base) (o := i * sz + off) h1 h7 (vs := (a.eval u).cells.toList) (by omega) (by omega)
              rwa [← Nat.add_assoc] at this
            · intro _ j hj
              rw [frozen_put]
              exact h8 hfz j hj
            · intro _ j hj hj'
              rw [frozen_put]
              exact h9 hfz j (by simpa using hj) hj'
          · simp only [execOp, ho, e', Instr.storeAt, Instr.sureAddr, Sem.run_bind, Sem.run_pure, Result.andThen_ok, run]
        · simp at h
    · simp at h

end
end Go.Proofs.YtobejhpigbllpaaGreatDoor.Am
