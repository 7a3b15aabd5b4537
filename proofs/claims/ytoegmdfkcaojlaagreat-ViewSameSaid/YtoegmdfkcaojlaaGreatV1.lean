/-
  Each of the machine's operations does what the model's does: those that call nobody.
  Each of the machine's operations does what the model's does: rows that are made, grown, copied; maps; strings and bytes.
  Each of the machine's operations does what the model's does: what is equal; what is built of parts.
  Each of the machine's operations does what the model's does: ==, what is built of parts, copies.
  Each of the machine's operations does what the model's does: what is built of parts, copies.
  Each of the machine's operations does what the model's does: maps.
  Each of the machine's operations does what the model's does: rows that are made, texts and bytes, a text's runes.
  Each of the machine's operations does what the model's does: pointers seen as unsafe ones, texts that share a row's bytes.
  What an operation must be so that the machine's carries it out: a test by the machine's own eye, and that it is enough.
-/
import Derived.Laws.IdiomCopy
import Derived.Laws.StructEq
import Derived.Laws.Cells
import Derived.Laws.AppendOwn
import Derived.Laws.Tables
import Derived.ChangeKeysEq
import Derived.MapKept
import Derived.Laws.MakeOwn
import Derived.Laws.BytesString
import Derived.Lib.ConvBytes
import Derived.Lib.Builder
import Derived.Lib.UnsafeStr
import Derived.Test.YtoegmdfkcaojlaaGreatV0
set_option linter.unusedVariables false
set_option linter.unusedSimpArgs false
namespace Go.Proofs.YtoegmdfkcaojlaaGreat.Am
def isS : AV → Value → Bool
  | .b x, .bool y => x == y
  | .i k n, .int j m => k == j && n == m
  | .s l, .string s => l == s.data.toList
  | .nilp, .pointer none => true
  | .nils, .slice none 0 0 => true
  | .nilm, .map none => true
  | .nilf, .nilFunc => true
  | .nili, .nilIface => true
  | _, _ => false
def isSs : List AV → List Value → Bool
  | [], [] => true
  | a :: r, v :: q => isS a v && isSs r q
  | _, _ => false
def isV (a : AV) (v : Value) : Bool :=
  match a, v with
  | .agg cs, .agg vs => isSs cs vs.toList
  | a, v => isS a v
theorem isS_rep {C : Ctx} {a : AV} {v : Value} (h : isS a v = true) : Rep C a v ∧ scal a = true := by
  unfold isS at h
  split at h <;> simp only [Bool.false_eq_true, Bool.and_eq_true, beq_iff_eq] at h
  · subst h; exact ⟨rfl, rfl⟩
  · obtain ⟨rfl, rfl⟩ := h; exact ⟨rfl, rfl⟩
  · subst h; exact ⟨by simp [Rep], rfl⟩
  all_goals exact ⟨rfl, rfl⟩
theorem isSs_rep {C : Ctx} : ∀ {l : List AV} {vs : List Value}, isSs l vs = true → RepL C l vs ∧ l.all scal = true
  | [], [], _ => ⟨rfl, rfl⟩
  | [], _ :: _, h => by simp [isSs] at h
  | _ :: _, [], h => by simp [isSs] at h
  | _ :: _, v :: q, h => by
    simp only [isSs, Bool.and_eq_true] at h
    obtain ⟨h1, h2⟩ := isS_rep (C := C) h.1
    obtain ⟨h3, h4⟩ := isSs_rep (C := C) h.2
    exact ⟨⟨v, q, rfl, h1, h3⟩, by simp [h2, h4]⟩
theorem isV_rep {C : Ctx} {a : AV} {v : Value} (h : isV a v = true) : Rep C a v := by
  unfold isV at h
  split at h
  · rename_i cs vs
    obtain ⟨h1, h2⟩ := isSs_rep (C := C) h
    exact ⟨vs.toList, by simp, h2, h1⟩
  · exact (isS_rep h).1
def okAO : AO → Operand → Bool
  | .t n, .tmp m => n == m
  | .k a, .const v => isV a v
  | .f n, .func m => n == m
  | .g n, .global m => n == m
  | _, _ => false
def okAOs : List AO → List Operand → Bool
  | [], [] => true
  | x :: r, y :: q => okAO x y && okAOs r q
  | _, _ => false
def okO : Option AO → Option Operand → Bool
  | none, none => true
  | some x, some y => okAO x y
  | _, _ => false
def aggT (P : Program) (t : TypeId) : Bool :=
  match P.underlying t with
  | some (.struct _) => true
  | some (.array _ _) => true
  | _ => false
structure FrRel (C : Ctx) (f : Fr) (a : Act) (nt : Nat) : Prop where
  rep : ∀ t, Rep C (get f t) (a.tmps.getD t undef)
  size : a.tmps.size = nt
  defers : a.defers = []
section
variable {cl : Nat → List AV → Heap → Out} {P : Program} {tb : Tab} {C : Ctx} {f : Fr} {a : Act} {nt : Nat}
theorem rep_eval (I : Inv tb C) (F : FrRel C f a nt) {x : AO} {y : Operand} (h : okAO x y = true) : Rep C (eval tb f x) (a.eval y) := by
  cases x <;> cases y <;> simp only [okAO, Bool.false_eq_true, beq_iff_eq] at h
  · subst h; exact F.rep _
  · exact isV_rep h
  · subst h; exact ⟨[], [], rfl, rfl, rfl⟩
  · subst h
    simp only [eval, Act.eval]
    split
    · rename_i cs hg
      obtain ⟨h1, h2, h3, vs, h4, h5⟩ := I.gl _ cs hg
      exact ⟨_, 0, vs, rfl, h1, h2, h4, h3, h5⟩
    · trivial
theorem rep_evals (I : Inv tb C) (F : FrRel C f a nt) : ∀ {xs : List AO} {ys : List Operand}, okAOs xs ys = true → RepL C (xs.map (eval tb f)) (ys.map a.eval)
  | [], [], _ => rfl
  | [], _ :: _, h => by simp [okAOs] at h
  | _ :: _, [], h => by simp [okAOs] at h
  | _ :: _, y :: q, h => by
    simp only [okAOs, Bool.and_eq_true] at h
    exact ⟨a.eval y, q.map a.eval, rfl, rep_eval I F h.1, rep_evals I F h.2⟩
theorem FrRel.put (F : FrRel C f a nt) {D : Ctx} (X : Ext C D) {d : Option Nat} (hd : ∀ t, d = some t → t < nt) {x : AV} {v : Value} (r : Rep D x v) : FrRel D (put f d x) (a.put d v) nt := by
  cases d with
  | none => exact ⟨fun t => (F.rep t).ext X, F.size, F.defers⟩
  | some t =>
    have ht := hd t rfl
    refine ⟨fun u => ?_, by simp [Act.put, F.size], F.defers⟩
    simp only [Am.put, get, Act.put]
    by_cases e : t = u
    · subst e
      rw [if_pos rfl]
      have : (a.tmps.setIfInBounds t v).getD t undef = v := by
        simp [Array.getD_eq_getD_getElem?, F.size, ht]
      rw [this]; exact r
    · rw [if_neg e]
      have : (a.tmps.setIfInBounds t v).getD u undef = a.tmps.getD u undef := by
        simp [Array.getD_eq_getD_getElem?, Array.getElem?_setIfInBounds_ne e]
      rw [this]; exact (F.rep u).ext X
theorem FrRel.ext (F : FrRel C f a nt) {D : Ctx} (X : Ext C D) : FrRel D f a nt := ⟨fun t => (F.rep t).ext X, F.size, F.defers⟩
def Yields (tb : Tab) (C : Ctx) (r : AV × Option Heap) (x : Result Next) : Prop :=
  ∃ D : Ctx, Ext C D ∧ Inv tb D ∧ D.H = r.2.getD C.H ∧ ((∃ v, x = .ok (.value v) D.w ∧ Rep D r.1 v) ∨ (x = .ok .skip D.w ∧ Rep D r.1 undef))
theorem yields_pure (I : Inv tb C) {r : AV} {v : Value} {x : Result Next} (h : x = .ok (.value v) C.w) (hr : Rep C r v) : Yields tb C (r, none) x :=
  ⟨C, Ext.refl C, I, rfl, .inl ⟨v, h, hr⟩⟩
theorem yields_new (I : Inv tb C) {r : AV} {v : Value} {x : Result Next} {p : Place} {o : AObj} {w : World} (hrest : Rest C.w w) (h : x = .ok (.value v) w)
    (hs : C.w.heap.size < w.heap.size) (hp : p.blk = C.w.heap.size) (hw : ∀ b, b < C.w.heap.size → w.heap[b]? = C.w.heap[b]?)
    (ho : Obj (C.more p o w) p o) (hr : (C.more p o w).φ C.H.length = p → Rep (C.more p o w) r v) : Yields tb C (r, some (C.H ++ [o])) x := by
  obtain ⟨X, hI, hφ⟩ := more I (o := o) hrest hs hp hw
  exact ⟨C.more p o w, X, hI ho, rfl, .inl ⟨v, h, hr hφ⟩⟩
theorem wp_of_yields {o : Oper} {r : AV × Option Heap} (h : Yields tb C r ((execOp a.eval o).run P C.w)) {next : Act → World → Prop} {Q : Exit → Act → World → Prop}
    (k : ∀ (v : Value) (D : Ctx), Ext C D → Inv tb D → D.H = r.2.getD C.H → Rep D r.1 v → next (a.put o.dst v) D.w) : o.wp P a C.w next Q := by
  unfold Oper.wp
  obtain ⟨D, X, I, hH, ⟨v, e, hr⟩ | ⟨e, hr⟩⟩ := h
  · rw [e]; exact k v D X I hH hr
  · rw [e]; exact k undef D X I hH hr
theorem run_underlying' {t : TypeId} {d : TypeDesc} (h : P.underlying t = some d) (w : World) : (underlying t).run P w = .ok d w := by
  simp [underlying, h]
theorem run_isAgg' (t : TypeId) (w : World) (hd : (P.underlying t).isSome = true) : (isAgg t).run P w = .ok (aggT P t) w := by
  obtain ⟨d, hd⟩ := Option.isSome_iff_exists.1 hd
  simp only [isAgg, Sem.run_bind, run_underlying' hd, Result.andThen_ok, aggT, hd]
  cases d <;> rfl
theorem run_typeInfo' {t : TypeId} {i : TypeInfo} (h : P.info? t = some i) (w : World) : (typeInfo t).run P w = .ok i w := by
  simp [typeInfo, h]
theorem run_sizeOf' {t : TypeId} (h : (P.info? t).isSome = true) (w : World) : (sizeOf t).run P w = .ok (P.cellsOf t) w := by
  obtain ⟨i, hi⟩ := Option.isSome_iff_exists.1 h
  simp [sizeOf, run_typeInfo' hi, Program.cellsOf, hi]
theorem info_of_underlying {t : TypeId} {d : TypeDesc} (h : P.underlying t = some d) : (P.info? t).isSome = true := by
  unfold Program.underlying at h
  cases hi : P.info? t with
  | none => rw [hi] at h; simp at h
  | some i => rfl
theorem add_none (b o n : Nat) : (⟨b, o, none⟩ : Addr).add n = ⟨b, o + n, none⟩ := by
  unfold Addr.add; split <;> simp_all
theorem run_loadCells' {w : World} {b o : Nat} {vs : List Value} (h : Holds w b o vs) : (loadCells ⟨b, o, none⟩ vs.length).run P w = .ok vs.toArray w :=
  run_loadCells_list (P := P) w ⟨b, o, none⟩ vs fun j v e => by rw [add_none]; exact h j v e
theorem Holds.sub {w : World} {b base : Nat} {vs : List Value} (h : Holds w b base vs) (off n : Nat) : Holds w b (base + off) ((vs.drop off).take n) := by
  intro j v e
  rw [List.getElem?_take] at e
  split at e
  · rw [List.getElem?_drop] at e
    rw [Nat.add_assoc]
    exact h _ v e
  · simp at e
theorem all_scal_sub {cs : List AV} (h : cs.all scal = true) (off n : Nat) : (sub cs off n).all scal = true := by
  simp only [List.all_eq_true, sub] at *
  exact fun x hx => h x (List.mem_of_mem_drop (List.mem_of_mem_take hx))
theorem asVal_rep {cs : List AV} {vs : List Value} {agg : Bool} {v : AV} (h : asVal agg cs = some v) (hs : cs.all scal = true) (r : RepL C cs vs) :
    (agg = true → Rep C v (.agg vs.toArray)) ∧ (agg = false → ∃ x, vs = [x] ∧ Rep C v x) := by
  cases agg with
  | true =>
    simp only [asVal] at h
    obtain rfl := Option.some.inj h
    exact ⟨fun _ => ⟨vs, rfl, hs, r⟩, fun e => by cases e⟩
  | false =>
    refine ⟨fun e => (by cases e), fun _ => ?_⟩
    match cs, h with
    | [c], h =>
      simp only [asVal] at h
      obtain rfl := Option.some.inj h
      obtain ⟨x, q, e, h1, h2⟩ := r
      exact ⟨x, by rw [e, show q = [] from h2], h1⟩
theorem place_rep (I : Inv tb C) {x : AV} {v : Value} (r : Rep C x v) {cs : List AV} {off : Nat} (h : place C.H x = some (cs, off)) :
    ∃ b base vs, v = .pointer (some ⟨b, base + off, none⟩) ∧ Holds C.w b base vs ∧ RepL C cs vs ∧ cs.all scal = true := by
  cases x <;> simp only [place] at h
  case ptr id o =>
    unfold cellsAt at h
    split at h
    · rename_i t' cs' hc
      simp only [Option.map_some, Option.some.injEq, Prod.mk.injEq] at h
      obtain ⟨rfl, rfl⟩ := h
      obtain ⟨_, e⟩ := r
      obtain ⟨vs, arr, et, fr, ⟨h1, hlb⟩, h2, h3, h4, h5, h6⟩ := I.obj id _ hc
      exact ⟨_, 0, vs, by simpa using e, h5, h4, h3⟩
    · simp at h
  case pe id n i o =>
    obtain ⟨_, fz, sz, els, hg, hl, e⟩ := r
    simp only [hg, Option.bind_some] at h
    split at h
    · rename_i hn
      simp only [Option.some.injEq, Prod.mk.injEq] at h
      obtain ⟨rfl, rfl⟩ := h
      obtain ⟨tl, hg', hlab⟩ := row_get hg
      obtain ⟨vss, arr, et, fr, ⟨h1, hfr0, hlb⟩, h2, h3, h4, h5, h6, h7, h8, h9⟩ := I.obj id _ hg'
      have hlens := RepLL.lens (fun x hx => (h4 x hx).1) h5
      have hfl : ∀ (l : List (List Value)) (i : Nat), (∀ y ∈ l, y.length = sz) → (l.drop i).flatten = l.flatten.drop (i * sz) := by
        intro l
        induction l with
        | nil => intro i _; simp
        | cons y l ih =>
          intro i hy
          have hyl := hy y List.mem_cons_self
          cases i with
          | zero => simp
          | succ i =>
            simp only [List.drop_succ_cons, List.flatten_cons]
            rw [ih i (fun z hz => hy z (List.mem_cons_of_mem _ hz)), show (i + 1) * sz = y.length + i * sz by rw [hyl, Nat.succ_mul]; omega, ← List.drop_drop, List.drop_left' rfl]
      refine ⟨_, (C.φ id).base + i * sz, (vss.drop i).flatten, by rw [e hn], fun j u hu => ?_, RepLL.flat h5.drop, List.all_eq_true.2 fun x hx => (by obtain ⟨y, hy, hx⟩ := List.mem_flatten.1 hx; exact List.all_eq_true.1 (h4 y (List.mem_of_mem_drop hy)).2 x hx)⟩
      rw [hfl vss i hlens, List.getElem?_drop] at hu
      rw [Nat.add_assoc]
      exact h7 _ u hu
    · simp at h
  case ip cs' o =>
    simp only [Option.some.injEq, Prod.mk.injEq] at h
    obtain ⟨rfl, rfl⟩ := h
    obtain ⟨b, base, vs, e, _, _, h1, h2, h3⟩ := r
    exact ⟨b, base, vs, e, h1, h3, h2⟩
  all_goals simp at h
theorem sim_ld (I : Inv tb C) (F : FrRel C f a nt) {o : Oper} {t : TypeId} {x : AO} {y : Operand} (ho : o.op = .load t y) (hx : okAO x y = true) (hu : (P.underlying t).isSome = true)
    {r : AV × Option Heap} (h : val (load C.H (aggT P t) (P.cellsOf t) (eval tb f x)) = some r) : Yields tb C r ((execOp a.eval o).run P C.w) := by
  have hr := rep_eval I F hx
  simp only [val, load] at h
  cases hp : place C.H (eval tb f x) with
  | none => rw [hp] at h; simp at h
  | some p =>
    obtain ⟨cs, off⟩ := p
    rw [hp] at h
    simp only [Option.bind_some] at h
    split at h
    · rename_i hle
      cases hv : asVal (aggT P t) (sub cs off (P.cellsOf t)) with
      | none => rw [hv] at h; simp at h
      | some v =>
        rw [hv] at h
        obtain rfl := Option.some.inj h
        obtain ⟨b, base, vs, e, hh, hl, hs⟩ := place_rep I hr hp
        have hsub := hh.sub off (P.cellsOf t)
        have hrl : RepL C (sub cs off (P.cellsOf t)) ((vs.drop off).take (P.cellsOf t)) := hl.drop.take
        have hlen : ((vs.drop off).take (P.cellsOf t)).length = P.cellsOf t := by
          rw [hrl.length]; simp only [sub, List.length_take, List.length_drop]; omega
        obtain ⟨q1, q2⟩ := asVal_rep hv (all_scal_sub hs off _) hrl
        have hinfo : (P.info? t).isSome = true := by
          obtain ⟨d, hd⟩ := Option.isSome_iff_exists.1 hu
          exact info_of_underlying hd
        have hlc := run_loadCells' (P := P) hsub
        rw [hlen] at hlc
        cases hag : aggT P t with
        | true =>
          refine yields_pure I (v := .agg ((vs.drop off).take (P.cellsOf t)).toArray) ?_ (q1 hag)
          simp only [execOp, ho, e, Instr.loadAt, Instr.sureAddr, loadVar, Sem.run_bind, Sem.run_pure, Result.andThen_ok, run_isAgg' t C.w hu, hag, if_true, run_sizeOf' hinfo, hlc]
        | false =>
          obtain ⟨z, hz, rz⟩ := q2 hag
          refine yields_pure I (v := z) ?_ rz
          have hc : C.w.cell? ⟨b, base + off, none⟩ = some z := by
            have := hsub 0 z (by rw [hz]; rfl)
            simpa using this
          simp only [execOp, ho, e, Instr.loadAt, Instr.sureAddr, loadVar, Sem.run_bind, Sem.run_pure, Result.andThen_ok, run_isAgg' t C.w hu, hag, Bool.false_eq_true, if_false, run_load, hc]
    · simp at h
theorem sim_mv (I : Inv tb C) (F : FrRel C f a nt) {o : Oper} {x : AO} {y : Operand} (ho : o.op = .move y ∨ o.op = .assign y) (hx : okAO x y = true) : Yields tb C (eval tb f x, none) ((execOp a.eval o).run P C.w) := by
  refine yields_pure I (v := a.eval y) ?_ (rep_eval I F hx)
  rcases ho with ho | ho <;> simp only [execOp, ho, Sem.run_pure]
theorem sim_pick (I : Inv tb C) (F : FrRel C f a nt) {o : Oper} {x1 x2 x3 : AO} {y1 y2 y3 : Operand} (ho : o.op = .pick y1 y2 y3) (h1 : okAO x1 y1 = true) (h2 : okAO x2 y2 = true) (h3 : okAO x3 y3 = true)
    {t : Bool} (h : eval tb f x1 = .b t) : Yields tb C (if t then eval tb f x2 else eval tb f x3, none) ((execOp a.eval o).run P C.w) := by
  have r1 := rep_eval I F h1
  rw [h] at r1
  refine yields_pure I (v := if t then a.eval y2 else a.eval y3) ?_ ?_
  · simp only [execOp, ho, show a.eval y1 = .bool t from r1, asBool, Sem.run_bind, Sem.run_pure, Result.andThen_ok]
  · cases t
    · exact rep_eval I F h3
    · exact rep_eval I F h2
theorem alloc_new (w : World) (o : Go.Obj) : (w.alloc o).heap[w.heap.size]? = some o := Array.getElem?_push_size
theorem alloc_old (w : World) (o : Go.Obj) {b : Nat} (h : b < w.heap.size) : (w.alloc o).heap[b]? = w.heap[b]? := by
  show (w.heap.push o)[b]? = _
  rw [Array.getElem?_push, if_neg (by omega)]
theorem alloc_size (w : World) (o : Go.Obj) : (w.alloc o).heap.size = w.heap.size + 1 := Array.size_push _
theorem yields_var (I : Inv tb C) {cs : List AV} {vs : Array Value} {e : TypeId} (hs : cs.all scal = true) (hr : RepL C cs vs.toList) {x : Result Next}
    (h : x = .ok (.value (.pointer (some ⟨C.w.heap.size, 0, none⟩))) (C.w.alloc (.cells vs e))) : Yields tb C (.ptr C.H.length 0, some (C.H ++ [AObj.cells (some e) cs])) x := by
  have hlen : vs.size = cs.length := by have := hr.length; simpa using this
  have hlt : C.w.heap.size < (C.w.alloc (.cells vs e)).heap.size := by rw [alloc_size]; omega
  refine yields_new (w := C.w.alloc (.cells vs e)) I (p := ⟨C.w.heap.size, 0, vs.size⟩) ⟨rfl, rfl, rfl⟩ h hlt rfl (fun b hb => alloc_old _ _ hb) ?_ ?_
  · have X := (more (w := C.w.alloc (.cells vs e)) I (o := AObj.cells (some e) cs) (p := ⟨C.w.heap.size, 0, vs.size⟩) ⟨rfl, rfl, rfl⟩ hlt rfl (fun b hb => alloc_old _ _ hb)).1
    have hn : (C.more ⟨C.w.heap.size, 0, vs.size⟩ (AObj.cells (some e) cs) (C.w.alloc (.cells vs e))).w.heap[C.w.heap.size]? = some (.cells vs e) := alloc_new _ _
    refine ⟨vs.toList, vs, e, (0, 0), ⟨hn, fun k hk => by cases hk; rfl⟩, hlen, hs, hr.ext X, ?_, ?_⟩
    · intro j v hj
      simp only [World.cell?, hn, Nat.zero_add]
      simpa using hj
    · intro o ho
      simp only [World.frozen?, hn]
      simp
  · intro hφ
    exact ⟨⟨AObj.cells (some e) cs, by simp [Ctx.more], rfl⟩, by rw [hφ]⟩
theorem sim_alloc (I : Inv tb C) {o : Oper} {t : TypeId} {z : List AV} {i : TypeInfo} {zv : Value} (ho : o.op = .alloc t) (hi : P.info? t = some i) (hz : i.zero = some zv) (hv : isSs z zv.cells.toList = true) :
    Yields tb C (.ptr C.H.length 0, some (C.H ++ [AObj.cells (some t) z])) ((execOp a.eval o).run P C.w) := by
  obtain ⟨h1, h2⟩ := isSs_rep (C := C) hv
  refine yields_var I (e := t) h2 h1 ?_
  simp only [execOp, ho, Instr.alloc, zeroValue, Sem.run_bind, run_typeInfo' hi, Result.andThen_ok, hz, Sem.run_pure, newVar, newRow, run_newObj]
  rfl
theorem one_rep {x : AV} {v : Value} (hx : scal x = true) (r : Rep C x v) : v.oneCell' = true ∧ v.cells = #[v] := by
  cases x <;> simp only [scal, Bool.false_eq_true] at hx <;> simp only [Rep] at r
  case pe => obtain ⟨⟨p, rfl⟩, _⟩ := r; exact ⟨rfl, rfl⟩
  case orow => obtain ⟨⟨p, c, rfl⟩, _⟩ := r; exact ⟨rfl, rfl⟩
  case ptr => obtain ⟨_, rfl⟩ := r; exact ⟨rfl, rfl⟩
  case ip => obtain ⟨_, _, _, rfl, _⟩ := r; exact ⟨rfl, rfl⟩
  case sl => rcases r with ⟨_, _, _, _, rfl, _⟩ | ⟨_, _, _, rfl⟩ <;> exact ⟨rfl, rfl⟩
  case ocel => obtain ⟨_, _, _, rfl, _⟩ := r; exact ⟨rfl, rfl⟩
  case mp => obtain ⟨_, rfl⟩ := r; exact ⟨rfl, rfl⟩
  case fn => obtain ⟨_, _, rfl, _⟩ := r; exact ⟨rfl, rfl⟩
  case ifc => obtain ⟨_, _, rfl, _⟩ := r; exact ⟨rfl, rfl⟩
  all_goals (subst r; exact ⟨rfl, rfl⟩)
theorem ones_rep : ∀ {cs : List AV} {vs : List Value}, cs.all scal = true → RepL C cs vs → ∀ v ∈ vs, v.oneCell' = true
  | [], _, _, h, v, hv => by rw [show _ = [] from h] at hv; cases hv
  | x :: _, _, hs, ⟨u, q, e, h, r⟩, v, hv => by
    simp only [List.all_cons, Bool.and_eq_true] at hs
    rw [e] at hv
    rcases List.mem_cons.1 hv with e' | hv
    · subst e'; exact (one_rep hs.1 h).1
    · exact ones_rep hs.2 r v hv
theorem cells_rep {x : AV} {v : Value} (r : Rep C x v) (hn : 0 < (cellsOf x).length) : RepL C (cellsOf x) v.cells.toList ∧ (cellsOf x).all scal = true := by
  by_cases hx : scal x = true
  · have hc : cellsOf x = [x] := by cases x <;> simp_all [scal, cellsOf]
    rw [hc, (one_rep hx r).2]
    exact ⟨⟨v, [], rfl, r, rfl⟩, by simp [hx]⟩
  · cases x <;> simp only [scal, not_true_eq_false, Bool.false_eq_true, not_false_eq_true] at hx
    case agg cs =>
      obtain ⟨vs, e, h1, h2⟩ := r
      subst e
      exact ⟨by simpa [cellsOf, Value.cells] using h2, h1⟩
    case tup cs => simp [cellsOf] at hn
    case junk => simp [cellsOf] at hn
theorem sim_box (I : Inv tb C) (F : FrRel C f a nt) {o : Oper} {t : TypeId} {x : AO} {y : Operand} (ho : o.op = .box t y) (hx : okAO x y = true) (hn : 0 < (cellsOf (eval tb f x)).length) :
    Yields tb C (.ptr C.H.length 0, some (C.H ++ [AObj.cells (some t) (cellsOf (eval tb f x))])) ((execOp a.eval o).run P C.w) := by
  obtain ⟨h1, h2⟩ := cells_rep (rep_eval I F hx) hn
  refine yields_var I (e := t) h2 h1 ?_
  simp only [execOp, ho, Instr.box, Sem.run_bind, Result.andThen_ok, Sem.run_pure, newVar, newRow, run_newObj]
  rfl
theorem sim_nilc (I : Inv tb C) (F : FrRel C f a nt) {o : Oper} {x : AO} {y : Operand} (ho : o.op = .nilCheck y) (hx : okAO x y = true) {r : AV × Option Heap}
    (h : aop tb cl (eval tb f) C.H (.nilc x) = some r) : Yields tb C r ((execOp a.eval o).run P C.w) := by
  have hr := rep_eval I F hx
  simp only [aop] at h
  split at h <;> simp only [Option.some.injEq, reduceCtorEq] at h
  · rename_i e
    subst h
    rw [e] at hr
    refine yields_pure I (v := a.eval y) ?_ hr
    obtain ⟨_, e'⟩ := hr
    simp only [execOp, ho, e', Sem.run_pure]
  · rename_i e
    subst h
    rw [e] at hr
    refine yields_pure I (v := a.eval y) ?_ hr
    obtain ⟨⟨_, e'⟩, _⟩ := hr
    simp only [execOp, ho, e', Sem.run_pure]
  · rename_i e
    subst h
    rw [e] at hr
    refine yields_pure I (v := a.eval y) ?_ hr
    obtain ⟨_, _, _, e', _⟩ := hr
    simp only [execOp, ho, e', Sem.run_pure]
  · rename_i e
    subst h
    rw [e] at hr
    refine yields_pure I (v := a.eval y) ?_ hr
    obtain ⟨_, _, e', _⟩ := hr
    simp only [execOp, ho, e', Sem.run_pure]
theorem bytes_toList (l : List UInt8) : (⟨l.toArray⟩ : ByteArray).toList = l := by
  rw [ByteArray.toList_eq]
theorem size_mk (l : List UInt8) : (⟨l.toArray⟩ : ByteArray).size = l.length := by
  show l.toArray.size = _
  simp
theorem int?_rep {x : AV} {v : Value} {n : Int} (r : Rep C x v) (h : int? x = some n) : ∃ k, x = .i k n ∧ v = .int k n := by
  cases x <;> simp only [int?, reduceCtorEq, Option.some.injEq] at h
  subst h
  exact ⟨_, rfl, r⟩
theorem sim_bin (I : Inv tb C) (F : FrRel C f a nt) {o : Oper} {op : BinOp} {t u : TypeId} {x1 x2 : AO} {y1 y2 : Operand} (ho : o.op = .binOp op t y1 y2 u) (h1 : okAO x1 y1 = true) (h2 : okAO x2 y2 = true)
    {r : AV × Option Heap} (h : val (bin op (eval tb f x1) (eval tb f x2)) = some r) : Yields tb C r ((execOp a.eval o).run P C.w) := by
  have r1 := rep_eval I F h1
  have r2 := rep_eval I F h2
  generalize hx1 : eval tb f x1 = v1 at *
  generalize hx2 : eval tb f x2 = v2 at *
  cases v1 <;> cases v2 <;> simp only [bin, val, Option.map_none, reduceCtorEq] at h
  case i.i k n k' m =>
    have e1 : a.eval y1 = .int k n := r1
    have e2 : a.eval y2 = .int k' m := r2
    have hg : (eqGuard op t y1 y2 (.int k n) (.int k' m)).run P C.w = .ok () C.w := by
      simp only [eqGuard]; split <;> rfl
    have hrun : ∀ v, (Go.binOp op t (.int k n) (.int k' m)).run P C.w = .ok v C.w → (execOp a.eval o).run P C.w = .ok (.value v) C.w := by
      intro v hv
      simp only [execOp, ho, e1, e2, Sem.run_bind, hg, Result.andThen_ok, hv, Sem.run_pure]
    by_cases hk : k = k'
    · subst hk
      cases op <;> simp only [if_true] at h
      case shl =>
        split at h <;> simp only [Option.map_none, Option.map_some, reduceCtorEq, Option.some.injEq] at h
        subst h
        exact yields_pure I (hrun _ (by simp [Go.binOp, Op.shift, *])) rfl
      case shr =>
        split at h <;> simp only [Option.map_none, Option.map_some, reduceCtorEq, Option.some.injEq] at h
        subst h
        exact yields_pure I (hrun _ (by simp [Go.binOp, Op.shift, *])) rfl
      case quo =>
        split at h <;> simp only [Option.map_none, Option.map_some, reduceCtorEq, Option.some.injEq] at h
        subst h
        exact yields_pure I (hrun _ (by simp [Go.binOp, Op.intDiv, *])) rfl
      case rem =>
        split at h <;> simp only [Option.map_none, Option.map_some, reduceCtorEq, Option.some.injEq] at h
        subst h
        exact yields_pure I (hrun _ (by simp [Go.binOp, Op.intDiv, *])) rfl
      all_goals
        simp only [Option.map_some, Option.some.injEq] at h
        subst h
        exact yields_pure I (hrun _ (by simp [Go.binOp, Op.intArith, Op.intBits, Op.intCmp, bitsI])) rfl
    · cases op <;> simp only [if_neg hk, Option.map_none, reduceCtorEq] at h
      case shl =>
        split at h <;> simp only [Option.map_none, Option.map_some, reduceCtorEq, Option.some.injEq] at h
        subst h
        exact yields_pure I (hrun _ (by simp [Go.binOp, Op.shift, *])) rfl
      case shr =>
        split at h <;> simp only [Option.map_none, Option.map_some, reduceCtorEq, Option.some.injEq] at h
        subst h
        exact yields_pure I (hrun _ (by simp [Go.binOp, Op.shift, *])) rfl
  case s.s l m =>
    have e1 : a.eval y1 = .string ⟨l.toArray⟩ := r1
    have e2 : a.eval y2 = .string ⟨m.toArray⟩ := r2
    have hg : (eqGuard op t y1 y2 (.string ⟨l.toArray⟩) (.string ⟨m.toArray⟩)).run P C.w = .ok () C.w := by
      simp only [eqGuard]; split <;> rfl
    have hrun : ∀ v, (Op.stringOp op ⟨l.toArray⟩ ⟨m.toArray⟩).run P C.w = .ok v C.w → (execOp a.eval o).run P C.w = .ok (.value v) C.w := by
      intro v hv
      simp only [execOp, ho, e1, e2, Sem.run_bind, hg, Result.andThen_ok, Sem.run_pure]
      have : Go.binOp op t (.string ⟨l.toArray⟩) (.string ⟨m.toArray⟩) = Op.stringOp op ⟨l.toArray⟩ ⟨m.toArray⟩ := by cases op <;> rfl
      rw [this, hv]
      rfl
    cases op <;> simp only [Option.map_some, Option.map_none, Option.some.injEq, reduceCtorEq] at h
    case add =>
      split at h <;> simp only [Option.map_none, Option.map_some, reduceCtorEq, Option.some.injEq] at h
      rename_i hle
      subst h
      refine yields_pure I (v := .string (⟨l.toArray⟩ ++ ⟨m.toArray⟩)) (hrun _ ?_) ?_
      · have : ¬ (((⟨l.toArray⟩ : ByteArray).size + (⟨m.toArray⟩ : ByteArray).size : Nat) : Int) > IntKind.i64.max := by
          rw [size_mk, size_mk]
          have : IntKind.i64.max = 9223372036854775807 := rfl
          rw [this]
          unfold most at hle
          omega
        simp only [Op.stringOp, if_neg this, Sem.run_pure]
      · show _ = _
        congr 1
    all_goals
      subst h
      exact yields_pure I (hrun _ (by simp only [Op.stringOp, bytes_toList, Sem.run_pure])) rfl
theorem sim_un (I : Inv tb C) (F : FrRel C f a nt) {o : Oper} {op : UnOp} {t : TypeId} {x : AO} {y : Operand} (ho : o.op = .unOp op t y) (hx : okAO x y = true)
    {r : AV × Option Heap} (h : val (un op (eval tb f x)) = some r) : Yields tb C r ((execOp a.eval o).run P C.w) := by
  have r1 := rep_eval I F hx
  generalize eval tb f x = v1 at *
  cases v1 <;> simp only [un, val, Option.map_none, reduceCtorEq] at h
  case i k n =>
    have e1 : a.eval y = .int k n := r1
    cases op <;> simp only [Option.map_some, Option.map_none, Option.some.injEq, reduceCtorEq] at h
    all_goals
      subst h
      refine yields_pure I (v := .int k _) ?_ rfl
      simp [execOp, ho, e1, Op.unary, Op.intArith, Op.intBits, bitsI]
  case b q =>
    have e1 : a.eval y = .bool q := r1
    cases op <;> simp only [Option.map_some, Option.map_none, Option.some.injEq, reduceCtorEq] at h
    subst h
    refine yields_pure I (v := .bool _) ?_ rfl
    simp [execOp, ho, e1, Op.unary]
theorem sim_cvi (I : Inv tb C) (F : FrRel C f a nt) {o : Oper} {k : IntKind} {s d : TypeId} {x : AO} {y : Operand} (ho : o.op = .convert s d y) (hs : (P.underlying s).isSome = true) (hd : P.underlying d = some (.int k)) (hx : okAO x y = true)
    {n : Int} (h : int? (eval tb f x) = some n) : Yields tb C (.i k (k.wrap n), none) ((execOp a.eval o).run P C.w) := by
  obtain ⟨k', _, e⟩ := int?_rep (rep_eval I F hx) h
  obtain ⟨ds, hs⟩ := Option.isSome_iff_exists.1 hs
  refine yields_pure I (v := .int k (k.wrap n)) ?_ rfl
  simp only [execOp, ho, e, convert, Sem.run_bind, run_underlying' hs, run_underlying' hd, Result.andThen_ok]
  cases ds <;> rfl
theorem sim_mkf (I : Inv tb C) (F : FrRel C f a nt) {o : Oper} {fn : Fn} {x1 x2 : List AO} {y1 y2 : Array Operand} (ho : o.op = .makeFunc fn y1 y2) (h1 : okAOs x1 y1.toList = true) (h2 : okAOs x2 y2.toList = true) :
    Yields tb C (.fn fn (x1.map (eval tb f)) (x2.map (eval tb f)), none) ((execOp a.eval o).run P C.w) := by
  refine yields_pure I (v := .func fn (y1.map a.eval) (y2.map a.eval)) ?_ ?_
  · simp only [execOp, ho, Instr.makeFunc, Sem.run_bind, Sem.run_pure, Result.andThen_ok]
  · exact ⟨y1.toList.map a.eval, y2.toList.map a.eval, by rw [← Array.toList_map, ← Array.toList_map], rep_evals I F h1, rep_evals I F h2⟩
theorem sim_mkif (I : Inv tb C) (F : FrRel C f a nt) {o : Oper} {t : TypeId} {x : AO} {y : Operand} (ho : o.op = .makeInterface t y) (ht : ∀ m, P.underlying t ≠ some (.interface m)) (hs : (P.underlying t).isSome = true) (hx : okAO x y = true) :
    Yields tb C (.ifc 0 .junk, none) ((execOp a.eval o).run P C.w) := by
  obtain ⟨ds, hs⟩ := Option.isSome_iff_exists.1 hs
  refine yields_pure I (v := .iface t (a.eval y)) ?_ ⟨_, _, rfl, trivial⟩
  simp only [execOp, ho, Instr.makeInterface, Sem.run_bind, run_underlying' hs, Result.andThen_ok]
  cases ds <;> first | rfl | exact absurd hs (ht _)
theorem sim_ext (I : Inv tb C) (F : FrRel C f a nt) {o : Oper} {x : AO} {y : Operand} {i : Nat} (ho : o.op = .extract y i) (hx : okAO x y = true) {vs : List AV} (h : eval tb f x = .tup vs) {v : AV} (hv : vs[i]? = some v) :
    Yields tb C (v, none) ((execOp a.eval o).run P C.w) := by
  have r := rep_eval I F hx
  rw [h] at r
  obtain ⟨us, e, hr⟩ := r
  obtain ⟨u, hu, ru⟩ := hr.get hv
  refine yields_pure I (v := u) ?_ ru
  simp only [execOp, ho, e, Instr.extract]
  simp [hu]
theorem run_builtin {o : Oper} {c : Call} {b : Builtin} (ho : o.op = .call c) (hc : c.callee = .builtin b) {x : Result Next}
    (h : ∀ q, (builtin b c.argTypes o.type q (c.args.map a.eval)).run P C.w = x) : (execOp a.eval o).run P C.w = x := by
  simp only [execOp, ho, resolve, hc, invoke, Sem.run_bind, Sem.run_pure, Result.andThen_ok]
  exact h _
theorem len?_rep {x : AV} {v : Value} {n : Nat} (r : Rep C x v) (h : len? x = some n) : ∃ p c, v = .slice p n c := by
  cases x <;> simp only [len?, reduceCtorEq, Option.some.injEq] at h
  case nils => subst h; exact ⟨none, 0, r⟩
  case sl =>
    subst h
    rcases r with ⟨b, base, cap, vss, e, _⟩ | ⟨rfl, p, cap, e⟩
    · exact ⟨_, _, e⟩
    · exact ⟨_, _, e⟩
  case orow => subst h; obtain ⟨⟨p, c, e⟩, _⟩ := r; exact ⟨_, _, e⟩
  case ocel => subst h; obtain ⟨_, o, c, e, _⟩ := r; exact ⟨_, _, e⟩
theorem sim_len (I : Inv tb C) (F : FrRel C f a nt) {o : Oper} {c : Call} {t e : TypeId} {x : AO} {y : Operand} (ho : o.op = .call c) (hc : c.callee = .builtin .len) (ht : c.argTypes[0]? = some t) (ha : c.args = #[y])
    (hx : okAO x y = true) {n : Nat} (h : len? (eval tb f x) = some n) (hu : P.underlying t = some (.slice e)) :
    Yields tb C (.i .i64 n, none) ((execOp a.eval o).run P C.w) := by
  have r := rep_eval I F hx
  refine yields_pure I (v := .int .i64 n) (run_builtin ho hc fun q => ?_) rfl
  simp only [ha, List.map_toArray, List.map_cons, List.map_nil, builtin, Sem.run_bind, Builtin.len_, ht]
  obtain ⟨p, cc, e⟩ := len?_rep r h
  simp [e, run_underlying' hu, goInt]
theorem shift_rep {x y : AV} {v : Value} {off : Nat} (r : Rep C x v) (h : shift off x = some y) : ∃ b q, v = .pointer (some ⟨b, q, none⟩) ∧ Rep C y (.pointer (some ⟨b, q + off, none⟩)) ∨ (∃ p, v = .pointer (some p)) ∧ ∀ u p, u = Value.pointer (some p) → Rep C y u := by
  cases x <;> simp only [shift, reduceCtorEq, Option.some.injEq] at h <;> subst h
  case ptr id o =>
    obtain ⟨h1, e⟩ := r
    exact ⟨_, _, .inl ⟨e, h1, rfl⟩⟩
  case pe id n i o =>
    obtain ⟨⟨p, e⟩, fz, sz, els, hg, hl, k⟩ := r
    by_cases hn : n = els.length
    · exact ⟨_, _, .inl ⟨k hn, ⟨_, rfl⟩, fz, sz, els, hg, hl, fun _ => by rw [Nat.add_assoc]⟩⟩
    · exact ⟨0, 0, .inr ⟨⟨p, e⟩, fun u p hu => ⟨⟨p, hu⟩, fz, sz, els, hg, hl, fun q => absurd q hn⟩⟩⟩
  case ip cs o =>
    obtain ⟨b, base, vs, e, h1⟩ := r
    exact ⟨_, _, .inl ⟨e, b, base, vs, by rw [Nat.add_assoc], h1⟩⟩
theorem sim_fa (I : Inv tb C) (F : FrRel C f a nt) {o : Oper} {t : TypeId} {x : AO} {y : Operand} {i : Nat} {fs : Array Field} {fd : Field} (ho : o.op = .fieldAddr t y i) (hu : P.underlying t = some (.struct fs)) (hf : fs[i]? = some fd)
    (hz : (P.info? fd.type).isSome = true) (hz0 : P.cellsOf fd.type ≠ 0) (hx : okAO x y = true) {r : AV × Option Heap} (h : val (shift fd.offset (eval tb f x)) = some r) : Yields tb C r ((execOp a.eval o).run P C.w) := by
  have hr := rep_eval I F hx
  simp only [val] at h
  cases hs : shift fd.offset (eval tb f x) with
  | none => rw [hs] at h; simp at h
  | some y' =>
    rw [hs] at h
    obtain rfl := Option.some.inj h
    have run : ∀ p : Addr, a.eval y = .pointer (some p) → (execOp a.eval o).run P C.w = .ok (.value (.pointer (some (p.add fd.offset)))) C.w := by
      intro p hp
      simp only [execOp, ho, hp, Instr.fieldAt, Sem.run_bind, run_underlying' hu, Result.andThen_ok, hf, Instr.sureAddr, Sem.run_pure, fieldPlace, run_sizeOf' hz, if_neg hz0]
    obtain ⟨b, q, ⟨e, r'⟩ | ⟨⟨p, e⟩, r'⟩⟩ := shift_rep hr hs
    · exact yields_pure I (run _ e) (by rw [add_none]; exact r')
    · exact yields_pure I (run _ e) (r' _ _ rfl)
theorem sim_iaa (I : Inv tb C) (F : FrRel C f a nt) {o : Oper} {t e : TypeId} {x i : AO} {y j : Operand} {len : Nat} (ho : o.op = .indexAddr t y j) (hu : P.underlying t = some (.array len e))
    (hz : (P.info? e).isSome = true) (hx : okAO x y = true) (hi : okAO i j = true) {n : Int} (hn : int? (eval tb f i) = some n) (h0 : 0 ≤ n ∧ n < len) {r : AV × Option Heap} (h : val (shift (n.toNat * P.cellsOf e) (eval tb f x)) = some r) :
    Yields tb C r ((execOp a.eval o).run P C.w) := by
  have hr := rep_eval I F hx
  obtain ⟨k, _, ej⟩ := int?_rep (rep_eval I F hi) hn
  simp only [val] at h
  cases hs : shift (n.toNat * P.cellsOf e) (eval tb f x) with
  | none => rw [hs] at h; simp at h
  | some y' =>
    rw [hs] at h
    obtain rfl := Option.some.inj h
    have run : ∀ p : Addr, a.eval y = .pointer (some p) → (execOp a.eval o).run P C.w = .ok (.value (.pointer (some (p.add (n.toNat * P.cellsOf e))))) C.w := by
      intro p hp
      simp only [execOp, ho, hp, ej, Instr.indexAt, asIntOf, Sem.run_bind, run_underlying' hu, Result.andThen_ok, Instr.sureAddr, Sem.run_pure, run_sizeOf' hz, if_pos h0]
    obtain ⟨b, q, ⟨e', r'⟩ | ⟨⟨p, e'⟩, r'⟩⟩ := shift_rep hr hs
    · exact yields_pure I (run _ e') (by rw [add_none]; exact r')
    · exact yields_pure I (run _ e') (r' _ _ rfl)
theorem run_part {t : TypeId} {cs : List AV} {vs : List Value} {off : Nat} {v : AV} (hu : (P.underlying t).isSome = true) (hs : cs.all scal = true) (r : RepL C cs vs) (_hle : off + P.cellsOf t ≤ cs.length)
    (h : asVal (aggT P t) (sub cs off (P.cellsOf t)) = some v) : ∃ x, (part t vs.toArray off).run P C.w = .ok x C.w ∧ Rep C v x := by
  have hinfo : (P.info? t).isSome = true := by
    obtain ⟨d, hd⟩ := Option.isSome_iff_exists.1 hu
    exact info_of_underlying hd
  have hrl : RepL C (sub cs off (P.cellsOf t)) ((vs.drop off).take (P.cellsOf t)) := r.drop.take
  obtain ⟨q1, q2⟩ := asVal_rep h (all_scal_sub hs off _) hrl
  cases hag : aggT P t with
  | true =>
    refine ⟨.agg ((vs.drop off).take (P.cellsOf t)).toArray, ?_, q1 hag⟩
    simp only [part, Sem.run_bind, run_isAgg' t C.w hu, hag, Result.andThen_ok, if_true, run_sizeOf' hinfo, Sem.run_pure]
    congr 2
    simp
  | false =>
    obtain ⟨z, hz, rz⟩ := q2 hag
    refine ⟨z, ?_, rz⟩
    have : vs[off]? = some z := by
      have : ((vs.drop off).take (P.cellsOf t))[0]? = some z := by rw [hz]; rfl
      rw [List.getElem?_take] at this
      split at this
      · simpa using this
      · simp at this
    simp only [part, Sem.run_bind, run_isAgg' t C.w hu, hag, Result.andThen_ok, Bool.false_eq_true, if_false]
    simp [this]
theorem sim_ixa (I : Inv tb C) (F : FrRel C f a nt) {o : Oper} {t e : TypeId} {x i : AO} {y j : Operand} {len : Nat} (ho : o.op = .index t y j) (hu : P.underlying t = some (.array len e))
    (hz : (P.underlying e).isSome = true) (hx : okAO x y = true) (hi : okAO i j = true) {n : Int} (hn : int? (eval tb f i) = some n) {cs : List AV} (hv : eval tb f x = .agg cs) (h0 : 0 ≤ n ∧ n < len) (hle : len * P.cellsOf e ≤ cs.length)
    {v : AV} (h : asVal (aggT P e) (sub cs (n.toNat * P.cellsOf e) (P.cellsOf e)) = some v) : Yields tb C (v, none) ((execOp a.eval o).run P C.w) := by
  have hr := rep_eval I F hx
  obtain ⟨k, _, ej⟩ := int?_rep (rep_eval I F hi) hn
  rw [hv] at hr
  obtain ⟨vs, ey, hs, hl⟩ := hr
  have hle' : n.toNat * P.cellsOf e + P.cellsOf e ≤ cs.length := by
    have : (n.toNat + 1) * P.cellsOf e ≤ len * P.cellsOf e := Nat.mul_le_mul_right _ (by omega)
    rw [Nat.succ_mul] at this
    omega
  obtain ⟨z, hz', rz⟩ := run_part hz hs hl hle' h
  have hinfo : (P.info? e).isSome = true := by
    obtain ⟨d, hd⟩ := Option.isSome_iff_exists.1 hz
    exact info_of_underlying hd
  refine yields_pure I (v := z) ?_ rz
  simp only [execOp, ho, ey, ej, Instr.index, asIntOf, Sem.run_bind, run_underlying' hu, Result.andThen_ok, Sem.run_pure, if_pos h0, run_sizeOf' hinfo, hz']
theorem run_bound {x : AV} {v : Value} {m n : Nat} (r : Rep C x v) (h : bound? x m = some n) (code : BoundsCode) (w : World) : (Instr.sliceBound v m code).run P w = .ok n w ∧ n ≤ m := by
  simp only [bound?] at h
  cases hi : int? x with
  | none => rw [hi] at h; simp at h
  | some q =>
    rw [hi] at h
    simp only [Option.bind_some] at h
    split at h
    · rename_i hq
      obtain rfl := Option.some.inj h
      obtain ⟨k, _, e⟩ := int?_rep r hi
      refine ⟨?_, by omega⟩
      simp only [Instr.sliceBound, e, asIntOf, Sem.run_bind, Sem.run_pure, Result.andThen_ok, if_pos hq]
    · simp at h
theorem run_bounds (I : Inv tb C) (F : FrRel C f a nt) {lo hi : Option AO} {ylo yhi : Option Operand} (h1 : okO lo ylo = true) (h2 : okO hi yhi = true) {len cap l m : Nat} (isS : Bool) (hlc : len ≤ cap)
    (h : bounds (eval tb f) len lo hi = some (l, m)) (w : World) : (Instr.sliceBounds isS len cap (ylo.map a.eval) (yhi.map a.eval) none).run P w = .ok (l, m, cap) w ∧ l ≤ m ∧ m ≤ len := by
  simp only [bounds] at h
  cases hi with
  | none =>
    cases yhi with
    | some _ => simp [okO] at h2
    | none =>
      simp only [Option.bind_some] at h
      cases lo with
      | none =>
        cases ylo with
        | some _ => simp [okO] at h1
        | none =>
          simp only [Option.bind_some, Option.some.injEq, Prod.mk.injEq] at h
          obtain ⟨rfl, rfl⟩ := h
          exact ⟨by simp [Instr.sliceBounds], by omega, by omega⟩
      | some x =>
        cases ylo with
        | none => simp [okO] at h1
        | some y =>
          cases hb : bound? (eval tb f x) len with
          | none => simp only [hb, Option.bind_none, reduceCtorEq] at h
          | some q =>
            simp only [hb, Option.bind_some, Option.some.injEq, Prod.mk.injEq] at h
            obtain ⟨rfl, rfl⟩ := h
            have := run_bound (P := P) (rep_eval I F h1) hb .sliceB w
            exact ⟨by simp [Instr.sliceBounds, this.1], this.2, by omega⟩
  | some z =>
    cases yhi with
    | none => simp [okO] at h2
    | some u =>
      cases hz : bound? (eval tb f z) len with
      | none => simp only [hz, Option.bind_none, reduceCtorEq] at h
      | some m' =>
        simp only [hz, Option.bind_some] at h
        obtain ⟨k, hk⟩ : ∃ k, int? (eval tb f z) = some k := by
          simp only [bound?] at hz
          cases hi : int? (eval tb f z) with
          | none => rw [hi] at hz; simp at hz
          | some k => exact ⟨k, rfl⟩
        have hzc : bound? (eval tb f z) cap = some m' := by
          simp only [bound?, hk, Option.bind_some] at hz ⊢
          split at hz
          · rename_i hq; rw [if_pos ⟨hq.1, by omega⟩]; exact hz
          · simp at hz
        have hm : m' ≤ len := (run_bound (P := P) (rep_eval I F h2) hz .sliceB w).2
        have r1 := fun code => (run_bound (P := P) (rep_eval I F h2) hzc code w).1
        cases lo with
        | none =>
          cases ylo with
          | some _ => simp [okO] at h1
          | none =>
            simp only [Option.bind_some, Option.some.injEq, Prod.mk.injEq] at h
            obtain ⟨rfl, rfl⟩ := h
            exact ⟨by simp [Instr.sliceBounds, r1], by omega, hm⟩
        | some x =>
          cases ylo with
          | none => simp [okO] at h1
          | some y =>
            cases hb : bound? (eval tb f x) m' with
            | none => simp only [hb, Option.bind_none, reduceCtorEq] at h
            | some q =>
              simp only [hb, Option.bind_some, Option.some.injEq, Prod.mk.injEq] at h
              obtain ⟨rfl, rfl⟩ := h
              have := run_bound (P := P) (rep_eval I F h1) hb .sliceB w
              exact ⟨by simp [Instr.sliceBounds, r1, this.1], this.2, hm⟩
theorem extract_mk (l : List UInt8) (i j : Nat) : (⟨l.toArray⟩ : ByteArray).extract i j = ⟨((l.take j).drop i).toArray⟩ := by
  apply ByteArray.ext
  simp [List.drop_take]
theorem RepLL.sub {l : List (List AV)} {vss : List (List Value)} (r : RepLL C l vss) (a b : Nat) : RepLL C ((l.take b).drop a) ((vss.take b).drop a) := r.take.drop
theorem flatten_drop {α : Type} {sz : Nat} : ∀ (l : List (List α)) (n : Nat), (∀ x ∈ l, x.length = sz) → (l.drop n).flatten = l.flatten.drop (n * sz)
  | _, 0, _ => by simp
  | [], n + 1, _ => by simp
  | x :: l, n + 1, h => by
    have hx := h x List.mem_cons_self
    rw [List.drop_succ_cons, flatten_drop l n fun y hy => h y (List.mem_cons_of_mem _ hy), List.flatten_cons, List.drop_append, List.drop_of_length_le (l := x) (by rw [hx, Nat.succ_mul]; omega), List.nil_append]
    congr 1
    rw [hx, Nat.succ_mul]; omega
theorem flatten_take {α : Type} {sz : Nat} : ∀ (l : List (List α)) (n : Nat), (∀ x ∈ l, x.length = sz) → (l.take n).flatten = l.flatten.take (n * sz)
  | _, 0, _ => by simp
  | [], n + 1, _ => by simp
  | x :: l, n + 1, h => by
    have hx := h x List.mem_cons_self
    rw [List.take_succ_cons, List.flatten_cons, flatten_take l n fun y hy => h y (List.mem_cons_of_mem _ hy), List.flatten_cons, List.take_append, List.take_of_length_le (l := x) (by rw [hx, Nat.succ_mul]; omega)]
    congr 2
    rw [hx, Nat.succ_mul]; omega
theorem els_rep (I : Inv tb C) {x : AV} {v : Value} {sz : Nat} {els : List (List AV)} (hsz : 0 < sz) (r : Rep C x v) (h : els? C.H sz x = some els) :
    (els = [] ∧ v = .slice none 0 0) ∨ ∃ q cap vss, v = .slice (some q) els.length cap ∧ els.length ≤ cap ∧ (els ≠ [] → ∃ b base, q = ⟨b, base, none⟩ ∧ Holds C.w b base vss.flatten) ∧ (∀ e ∈ els, e.length = sz ∧ e.all scal = true) ∧ RepLL C els vss := by
  cases x <;> simp only [els?, reduceCtorEq] at h
  case nils => obtain rfl := Option.some.inj h; exact .inl ⟨rfl, r⟩
  case sl sz' els' =>
    split at h
    · rename_i e
      subst e
      obtain rfl := Option.some.inj h
      rcases r with ⟨b, base, cap, vss, e, hl, _, _, hh, hs, hr⟩ | ⟨rfl, p, cap, e⟩
      · exact .inr ⟨_, cap, vss, e, hl, fun _ => ⟨b, base, rfl, hh⟩, hs, hr⟩
      · exact .inr ⟨p, cap, [], e, Nat.zero_le _, fun h => absurd rfl h, fun e he => (by cases he), rfl⟩
    · simp at h
  case orow id n lo len =>
    obtain ⟨_, fz, sz', els', hg, hl, k⟩ := r
    simp only [hg, Option.bind_some] at h
    split at h
    · rename_i hc
      obtain ⟨hn, rfl, hle⟩ := hc
      obtain rfl := Option.some.inj h
      obtain ⟨_, off, cap, e, hlc, hoff, hsize⟩ := k hn
      obtain ⟨tl, hg', hlab⟩ := row_get hg
      obtain ⟨vss, arr, et, fr, ⟨h1, hfr0, hlb⟩, h2, h3, h4, h5, h6, h7, h8, h9⟩ := I.obj id _ hg'
      have hlen : ((els'.drop lo).take len).length = len := by simp only [List.length_take, List.length_drop]; omega
      refine .inr ⟨_, cap, (vss.drop lo).take len, by rw [hlen]; exact e, by rw [hlen]; exact hlc, ?_, fun x hx => h4 x (List.mem_of_mem_drop (List.mem_of_mem_take hx)), h5.drop.take⟩
      intro hne
      have hpos : 0 < len := by
        rcases Nat.eq_zero_or_pos len with h0 | h0
        · rw [h0] at hne; simp at hne
        · exact h0
      have hlens := RepLL.lens (fun x hx => (h4 x hx).1) h5
      refine ⟨_, _, rfl, ?_⟩
      rw [flatten_take (sz := sz') _ _ fun x hx => hlens x (List.mem_of_mem_drop hx), flatten_drop _ _ hlens, hoff hpos]
      exact h7.sub _ _
    · simp at h
  case ocel sz' id off len =>
    obtain ⟨⟨ob, hg, hf⟩, q, cap, e, hlc, hq, hz⟩ := r
    unfold cellsAt at h
    split at h
    · rename_i t' cs hc
      simp only [Option.bind_some] at h
      split at h
      · rename_i hcond
        obtain ⟨rfl, hle⟩ := hcond
        obtain rfl := Option.some.inj h
        obtain ⟨vs, arr, et, fr, ⟨h1, hlb⟩, h2, h3, h4, h5, h6⟩ := I.obj id _ hc
        have chunk : ∀ (n : Nat) (cs : List AV) (vs : List Value) (base : Nat), cs.all scal = true → RepL C cs vs → Holds C.w (C.φ id).blk base vs → n * sz' ≤ cs.length →
            (chunks sz' n cs).length = n ∧ (∀ e ∈ chunks sz' n cs, e.length = sz' ∧ e.all scal = true) ∧ ∃ vss, Holds C.w (C.φ id).blk base vss.flatten ∧ RepLL C (chunks sz' n cs) vss := by
          intro n
          induction n with
          | zero => intro cs vs base _ _ _ _; exact ⟨rfl, fun e he => (by cases he), [], fun j v hj => (by simp at hj), rfl⟩
          | succ n ih =>
            intro cs vs base hs hr hh hn
            rw [Nat.succ_mul] at hn
            have hdrop : (cs.drop sz').all scal = true := by
              simp only [List.all_eq_true] at hs ⊢
              exact fun x hx => hs x (List.mem_of_mem_drop hx)
            obtain ⟨h1, h2, vss, h3, h4⟩ := ih (cs.drop sz') (vs.drop sz') (base + sz') hdrop hr.drop (by
              have := hh.sub sz' (vs.drop sz').length
              rwa [List.take_of_length_le (Nat.le_refl _)] at this) (by simp only [List.length_drop]; omega)
            have htake : (vs.take sz').length = sz' := by rw [List.length_take, hr.length]; omega
            refine ⟨by simp [chunks, h1], ?_, vs.take sz' :: vss, ?_, ⟨_, _, rfl, hr.take, h4⟩⟩
            · intro x hx
              rcases List.mem_cons.1 hx with e | hx
              · subst e
                refine ⟨by simp only [List.length_take]; omega, ?_⟩
                simp only [List.all_eq_true] at hs ⊢
                exact fun y hy => hs y (List.mem_of_mem_take hy)
              · exact h2 x hx
            · intro j v hj0
              have hj : (vs.take sz' ++ vss.flatten)[j]? = some v := hj0
              rcases Nat.lt_or_ge j sz' with hlt | hge
              · rw [List.getElem?_append_left (by omega)] at hj
                rw [List.getElem?_take, if_pos hlt] at hj
                exact hh j v hj
              · rw [List.getElem?_append_right (by omega)] at hj
                have := h3 _ v hj
                rw [htake] at this
                rwa [show base + sz' + (j - sz') = base + j by omega] at this
        obtain ⟨c1, c2, vss, c3, c4⟩ := chunk len (cs.drop off) (vs.drop off) off (by
          simp only [List.all_eq_true] at h3 ⊢
          exact fun x hx => h3 x (List.mem_of_mem_drop hx)) h4.drop (by
          have := h5.sub off (vs.drop off).length
          rw [List.take_of_length_le (Nat.le_refl _)] at this
          simpa using this) (by simp only [List.length_drop]; omega)
        refine .inr ⟨_, cap, vss, by rw [c1]; exact e, by rw [c1]; exact hlc, ?_, c2, c4⟩
        intro hne
        have hpos : 0 < len := by
          rcases Nat.eq_zero_or_pos len with h0 | h0
          · rw [h0] at hne; simp [chunks] at hne
          · exact h0
        rw [hq hpos]
        exact ⟨_, _, rfl, c3⟩
      · simp at h
    · simp at h
theorem flatten_get {α : Type} {sz : Nat} {l : List (List α)} {i : Nat} {x : List α} (h : ∀ y ∈ l, y.length = sz) (hi : l[i]? = some x) : (l.flatten.drop (i * sz)).take sz = x := by
  rw [← flatten_drop l i h]
  have hlt := lt_of_get hi
  rw [List.drop_eq_getElem_cons hlt, List.flatten_cons]
  have e : l[i] = x := (List.getElem?_eq_some_iff.1 hi).2
  rw [e, List.take_append_of_le_length (by rw [h x (List.mem_of_getElem? hi)]; omega), List.take_of_length_le (by rw [h x (List.mem_of_getElem? hi)]; omega)]
theorem sim_ias (I : Inv tb C) (F : FrRel C f a nt) {o : Oper} {t e : TypeId} {x i : AO} {y j : Operand} (ho : o.op = .indexAddr t y j) (hu : P.underlying t = some (.slice e)) (hz : (P.info? e).isSome = true)
    (hx : okAO x y = true) (hi : okAO i j = true) {n : Int} (hn : int? (eval tb f i) = some n) (h0 : 0 ≤ n) {r : AV × Option Heap} (h : val (iaddr C.H (P.cellsOf e) (eval tb f x) n.toNat) = some r) :
    Yields tb C r ((execOp a.eval o).run P C.w) := by
  have hr := rep_eval I F hx
  obtain ⟨k, _, ej⟩ := int?_rep (rep_eval I F hi) hn
  generalize eval tb f x = v at *
  simp only [iaddr] at h
  cases hels : els? C.H (P.cellsOf e) v with
  | none => rw [hels] at h; simp [val] at h
  | some els =>
    rw [hels] at h
    simp only [Option.bind_some] at h
    split at h
    · rename_i hlt
      have run : ∀ (b off len cap : Nat), a.eval y = .slice (some ⟨b, off, none⟩) len cap → n.toNat < len → (execOp a.eval o).run P C.w = .ok (.value (.pointer (some ⟨b, off + n.toNat * P.cellsOf e, none⟩))) C.w := by
        intro b off len cap hp hl
        have hc : 0 ≤ n ∧ n < (len : Int) := by omega
        simp only [execOp, ho, hp, ej, Instr.indexAt, asIntOf, Sem.run_bind, run_underlying' hu, Result.andThen_ok, Sem.run_pure, run_sizeOf' hz, if_pos hc, add_none]
      have gen : ∀ (w : AV), (els[n.toNat]?).map (fun cs => AV.ip cs 0) = some w → (∃ b base cap vss, a.eval y = .slice (some ⟨b, base, none⟩) els.length cap ∧ b < C.w.heap.size ∧ ¬ C.own b ∧ Holds C.w b base vss.flatten ∧ (∀ e' ∈ els, e'.length = P.cellsOf e ∧ e'.all scal = true) ∧ RepLL C els vss) →
          Yields tb C (w, none) ((execOp a.eval o).run P C.w) := by
        rintro w hw ⟨b, base, cap, vss, e', hb, hown, hh, hs, hrr⟩
        cases hi : els[n.toNat]? with
        | none => rw [hi] at hw; simp at hw
        | some cs =>
          rw [hi] at hw
          obtain rfl := Option.some.inj hw
          obtain ⟨vs, hv, rv⟩ := RepLL.get hrr hi
          have hlens := RepLL.lens (fun x hx => (hs x hx).1) hrr
          have := hh.sub (n.toNat * P.cellsOf e) (P.cellsOf e)
          rw [flatten_get hlens hv] at this
          exact yields_pure I (run b base _ cap e' hlt) ⟨b, base + n.toNat * P.cellsOf e, vs, rfl, hb, hown, this, (hs cs (List.mem_of_getElem? hi)).2, rv⟩
      cases v
      case orow id k lo len =>
        simp only [val, Option.map_some, Option.some.injEq] at h
        subst h
        obtain ⟨_, fz, sz, els', hg, hl, kk⟩ := hr
        simp only [els?, hg, Option.bind_some] at hels
        split at hels
        · rename_i hc
          obtain ⟨hk, hsz, hle⟩ := hc
          obtain rfl := Option.some.inj hels
          obtain ⟨_, off, cap, e', hlc, hoff, _⟩ := kk hk
          have hnl : n.toNat < len := by simp only [List.length_take, List.length_drop] at hlt; omega
          refine yields_pure I (run _ _ _ _ e' hnl) ⟨⟨_, rfl⟩, fz, sz, els', hg, hl, fun _ => ?_⟩
          rw [hoff (by omega), ← hsz, Nat.add_mul, Nat.add_assoc]
          rfl
        · simp at hels
      case ocel sz id off len =>
        simp only [val, Option.map_some, Option.some.injEq] at h
        subst h
        obtain ⟨hobj, q, cap, e', hlc, hq, _⟩ := hr
        simp only [els?] at hels
        cases hc : cellsAt C.H id with
        | none => rw [hc] at hels; simp at hels
        | some cs =>
          rw [hc] at hels
          simp only [Option.bind_some] at hels
          split at hels
          · rename_i hcond
            obtain ⟨rfl, _⟩ := hcond
            obtain rfl := Option.some.inj hels
            have hnl : n.toNat < len := by
              have : ∀ (m : Nat) (cs : List AV), (chunks (P.cellsOf e) m cs).length = m := by
                intro m; induction m with
                | zero => intro cs; rfl
                | succ m ih => intro cs; simp [chunks, ih]
              rwa [this] at hlt
            refine yields_pure I (run _ _ _ _ e' hnl) ⟨hobj, ?_⟩
            rw [hq (by omega)]
          · simp at hels
      case nils =>
        simp only [els?, Option.some.injEq] at hels
        subst hels
        simp at hlt
      case sl sz els' =>
        simp only [els?] at hels
        split at hels
        · rename_i e'
          subst e'
          obtain rfl := Option.some.inj hels
          rcases hr with ⟨b, base, cap, vss, e', hl, hb, hown, hh, hs, hrr⟩ | ⟨rfl, _⟩
          case inr => simp at hlt
          simp only [val, Option.map_map] at h
          cases hi : els'[n.toNat]? with
          | none => rw [hi] at h; simp at h
          | some cs =>
            rw [hi] at h
            obtain rfl := Option.some.inj h
            exact gen _ (by rw [hi]; rfl) ⟨b, base, cap, vss, e', hb, hown, hh, hs, hrr⟩
        · simp at hels
      all_goals simp [els?] at hels
    · simp [val] at h
theorem sim_sll (I : Inv tb C) (F : FrRel C f a nt) {o : Oper} {t e : TypeId} {x : AO} {y : Operand} {lo hi : Option AO} {ylo yhi : Option Operand} (ho : o.op = .slice t y ylo yhi none) (hu : P.underlying t = some (.slice e)) (hz : (P.info? e).isSome = true)
    (hx : okAO x y = true) (h1 : okO lo ylo = true) (h2 : okO hi yhi = true) {len l m : Nat} (hl : len? (eval tb f x) = some len) (h : bounds (eval tb f) len lo hi = some (l, m)) {r : AV × Option Heap}
    (hv : val (resl C.H (P.cellsOf e) (eval tb f x) l m) = some r) : Yields tb C r ((execOp a.eval o).run P C.w) := by
  have hr := rep_eval I F hx
  have run : ∀ (p : Option Addr) (cap : Nat), len ≤ cap → a.eval y = .slice p len cap → (execOp a.eval o).run P C.w = .ok (.value (.slice (if cap = l then p else p.map (·.add (l * P.cellsOf e))) (m - l) (cap - l))) C.w ∧ l ≤ m ∧ m ≤ len := by
    intro p cap hlc hp
    obtain ⟨hb, q1, q2⟩ := run_bounds (P := P) I F h1 h2 (cap := cap) true hlc h C.w
    refine ⟨?_, q1, q2⟩
    simp only [execOp, ho, hp, Instr.sliceAt, Option.map_none, Sem.run_bind, run_underlying' hu, Result.andThen_ok, Instr.slice, hb, run_sizeOf' hz, Sem.run_pure]
  generalize eval tb f x = v at *
  cases v <;> simp only [resl, val, Option.map_none, reduceCtorEq] at hv
  case nils =>
    simp only [Option.map_some, Option.some.injEq] at hv
    subst hv
    simp only [len?, Option.some.injEq] at hl
    subst hl
    obtain ⟨q, q1, q2⟩ := run none 0 (Nat.le_refl _) hr
    obtain rfl : m = 0 := by omega
    obtain rfl : l = 0 := by omega
    exact yields_pure I q rfl
  case sl sz els =>
    split at hv
    · rename_i e'
      subst e'
      simp only [Option.map_some, Option.some.injEq] at hv
      subst hv
      simp only [len?, Option.some.injEq] at hl
      subst hl
      rcases hr with ⟨b, base, cap, vss, e', hlc, hb, hown, hh, hs, hrr⟩ | ⟨rfl, p, cap, e'⟩
      case inr =>
        obtain ⟨q, q1, q2⟩ := run _ cap (Nat.zero_le _) e'
        simp only [List.length_nil] at q2
        obtain rfl : m = 0 := by omega
        obtain rfl : l = 0 := by omega
        by_cases hc : cap = 0
        · rw [if_pos hc] at q
          exact yields_pure I q (.inr ⟨by simp, _, _, rfl⟩)
        · rw [if_neg hc] at q
          exact yields_pure I q (.inr ⟨by simp, _, _, rfl⟩)
      obtain ⟨q, q1, q2⟩ := run _ _ hlc e'
      have hlens := RepLL.lens (fun x hx => (hs x hx).1) hrr
      have hlen : ((els.take m).drop l).length = m - l := by simp only [List.length_drop, List.length_take]; omega
      by_cases hc : cap = l
      · have hm : m = l := by omega
        rw [if_pos hc] at q
        refine yields_pure I q <| .inl ⟨b, base, cap - l, [], ?_, by omega, hb, hown, fun j v hj => (by simp at hj), ?_, ?_⟩
        · rw [hlen]
        · intro x hx
          rw [List.eq_nil_of_length_eq_zero (l := (els.take m).drop l) (by rw [hlen]; omega)] at hx
          cases hx
        · rw [List.eq_nil_of_length_eq_zero (l := (els.take m).drop l) (by rw [hlen]; omega)]
          rfl
      · rw [if_neg hc] at q
        simp only [Option.map_some, add_none] at q
        refine yields_pure I q <| .inl ⟨b, base + l * P.cellsOf e, cap - l, (vss.take m).drop l, by rw [hlen], by rw [hlen]; omega, hb, hown, ?_, ?_, hrr.sub _ _⟩
        · rw [flatten_drop (sz := P.cellsOf e) _ _ fun x hx => hlens x (List.mem_of_mem_take hx), flatten_take _ _ hlens]
          have := hh.sub (l * P.cellsOf e) (m * P.cellsOf e - l * P.cellsOf e)
          rwa [← List.drop_take] at this
        · exact fun x hx => hs x (List.mem_of_mem_take (List.mem_of_mem_drop hx))
    · simp at hv
  case orow id n l' len' =>
    simp only [len?, Option.some.injEq] at hl
    subst hl
    obtain ⟨_, fz, sz, els, hg, hle, k⟩ := hr
    simp only [hg, Option.bind_some] at hv
    split at hv
    · rename_i hc
      obtain ⟨hn, hsz, hle'⟩ := hc
      simp only [Option.map_some, Option.some.injEq] at hv
      subst hv
      obtain ⟨_, off, cap, e', hlc, hoff, hsize, hbo⟩ := k hn
      obtain ⟨q, q1, q2⟩ := run _ _ hlc e'
      by_cases hc : cap = l
      · rw [if_pos hc] at q
        refine yields_pure I q ⟨⟨_, _, rfl⟩, fz, sz, els, hg, hle, fun _ => ⟨by omega, off, _, rfl, by omega, fun hp => by omega, ?_, hbo⟩⟩
        have : (cap - l) * sz ≤ cap * sz := Nat.mul_le_mul_right _ (by omega)
        omega
      · rw [if_neg hc] at q
        simp only [Option.map_some, add_none] at q
        refine yields_pure I q ⟨⟨_, _, rfl⟩, fz, sz, els, hg, hle, fun _ => ⟨by omega, off + l * P.cellsOf e, _, rfl, by omega, fun hp => ?_, ?_, by omega⟩⟩
        · rw [hoff (by omega), hsz, Nat.add_mul]; omega
        · rw [hsz] at hsize ⊢
          rw [Nat.sub_mul]
          have : l * P.cellsOf e ≤ cap * P.cellsOf e := Nat.mul_le_mul_right _ (by omega)
          omega
    · simp at hv
  case ocel sz id off len' =>
    simp only [len?, Option.some.injEq] at hl
    subst hl
    split at hv
    · rename_i hsz
      subst hsz
      simp only [Option.map_some, Option.some.injEq] at hv
      subst hv
      obtain ⟨hobj, q0, cap, e', hlc, hoff, hz'⟩ := hr
      obtain ⟨q, q1, q2⟩ := run _ _ hlc e'
      by_cases hc : cap = l
      · rw [if_pos hc] at q
        exact yields_pure I q ⟨hobj, q0, _, rfl, by omega, fun hp => by omega, hz'⟩
      · rw [if_neg hc] at q
        simp only [Option.map_some, add_none] at q
        exact yields_pure I q ⟨hobj, _, _, rfl, by omega, fun hp => by rw [hoff (by omega)], hz'⟩
    · simp at hv
theorem chunks_spec (sz : Nat) : ∀ (n : Nat) (cs : List AV) (vs : List Value) (w : World) (b base : Nat), cs.all scal = true → RepL C cs vs → Holds w b base vs → n * sz ≤ cs.length →
    (chunks sz n cs).length = n ∧ (∀ e ∈ chunks sz n cs, e.length = sz ∧ e.all scal = true) ∧ ∃ vss, Holds w b base vss.flatten ∧ RepLL C (chunks sz n cs) vss := by
  intro n
  induction n with
  | zero => intro cs vs w b base _ _ _ _; exact ⟨rfl, fun e he => (by cases he), [], fun j v hj => (by simp at hj), rfl⟩
  | succ n ih =>
    intro cs vs w b base hs hr hh hn
    rw [Nat.succ_mul] at hn
    have hdrop : (cs.drop sz).all scal = true := by
      simp only [List.all_eq_true] at hs ⊢
      exact fun x hx => hs x (List.mem_of_mem_drop hx)
    obtain ⟨h1, h2, vss, h3, h4⟩ := ih (cs.drop sz) (vs.drop sz) w b (base + sz) hdrop hr.drop (by
      have := hh.sub sz (vs.drop sz).length
      rwa [List.take_of_length_le (Nat.le_refl _)] at this) (by simp only [List.length_drop]; omega)
    have htake : (vs.take sz).length = sz := by rw [List.length_take, hr.length]; omega
    refine ⟨by simp [chunks, h1], ?_, vs.take sz :: vss, ?_, ⟨_, _, rfl, hr.take, h4⟩⟩
    · intro x hx
      rcases List.mem_cons.1 hx with e | hx
      · subst e
        refine ⟨by simp only [List.length_take]; omega, ?_⟩
        simp only [List.all_eq_true] at hs ⊢
        exact fun y hy => hs y (List.mem_of_mem_take hy)
      · exact h2 x hx
    · intro j v hj0
      have hj : (vs.take sz ++ vss.flatten)[j]? = some v := hj0
      rcases Nat.lt_or_ge j sz with hlt | hge
      · rw [List.getElem?_append_left (by omega)] at hj
        rw [List.getElem?_take, if_pos hlt] at hj
        exact hh j v hj
      · rw [List.getElem?_append_right (by omega)] at hj
        have := h3 _ v hj
        rw [htake] at this
        rwa [show base + sz + (j - sz) = base + j by omega] at this
theorem sim_sla (I : Inv tb C) (F : FrRel C f a nt) {o : Oper} {t e : TypeId} {n : Nat} {x : AO} {y : Operand} {lo hi : Option AO} {ylo yhi : Option Operand} (ho : o.op = .slice t y ylo yhi none) (hz : (P.info? e).isSome = true) (hz0 : 0 < P.cellsOf e)
    (hu : P.underlying t = some (.array n e) ∨ ∃ u, P.underlying t = some (.pointer u) ∧ P.underlying u = some (.array n e))
    (hx : okAO x y = true) (h1 : okO lo ylo = true) (h2 : okO hi yhi = true) {l m : Nat} (h : bounds (eval tb f) n lo hi = some (l, m)) {r : AV × Option Heap}
    (hv : val (arrsl C.H n (P.cellsOf e) (eval tb f x) l m) = some r) : Yields tb C r ((execOp a.eval o).run P C.w) := by
  have hr := rep_eval I F hx
  obtain ⟨hb, q1, q2⟩ := run_bounds (P := P) I F h1 h2 (cap := n) false (Nat.le_refl _) h C.w
  have run : ∀ (p : Addr), a.eval y = .pointer (some p) → (execOp a.eval o).run P C.w = .ok (.value (.slice (some (if n = l then p else p.add (l * P.cellsOf e))) (m - l) (n - l))) C.w := by
    intro p hp
    rcases hu with hu | ⟨u, hu, hu'⟩
    · simp only [execOp, ho, hp, Instr.sliceAt, Option.map_none, Sem.run_bind, run_underlying' hu, Result.andThen_ok, Instr.sureAddr, hb, run_sizeOf' hz, Sem.run_pure]
    · simp only [execOp, ho, hp, Instr.sliceAt, Option.map_none, Sem.run_bind, run_underlying' hu, run_underlying' hu', Result.andThen_ok, Instr.slice, asAddr, hb, run_sizeOf' hz, Sem.run_pure]
  generalize eval tb f x = v at *
  cases v <;> simp only [arrsl, val, Option.map_none, reduceCtorEq] at hv
  case ptr id off =>
    cases hc : cellsAt C.H id with
    | none => rw [hc] at hv; simp at hv
    | some cs =>
      rw [hc] at hv
      simp only [Option.bind_some] at hv
      split at hv
      · simp only [Option.map_some, Option.some.injEq] at hv
        subst hv
        obtain ⟨hobj, e'⟩ := hr
        have q := run _ e'
        by_cases hc : n = l
        · rw [if_pos hc] at q
          exact yields_pure I q ⟨hobj, off, _, rfl, by omega, fun hp => by omega, hz0⟩
        · rw [if_neg hc, add_none] at q
          exact yields_pure I q ⟨hobj, _, _, rfl, by omega, fun hp => rfl, hz0⟩
      · simp at hv
  case ip cs off =>
    split at hv
    · rename_i hle
      simp only [Option.map_some, Option.some.injEq] at hv
      subst hv
      obtain ⟨b, base, vs, e', hlt, hown, hh, hs, hrr⟩ := hr
      have q := run _ e'
      obtain ⟨c1, c2, vss, c3, c4⟩ := chunks_spec (C := C) (P.cellsOf e) n (cs.drop off) (vs.drop off) C.w b (base + off) (by
        simp only [List.all_eq_true] at hs ⊢
        exact fun x hx => hs x (List.mem_of_mem_drop hx)) hrr.drop (by
        have := hh.sub off (vs.drop off).length
        rwa [List.take_of_length_le (Nat.le_refl _)] at this) (by simp only [List.length_drop]; omega)
      have hlens := RepLL.lens (fun x hx => (c2 x hx).1) c4
      have hlen : (((chunks (P.cellsOf e) n (cs.drop off)).take m).drop l).length = m - l := by simp only [List.length_drop, List.length_take, c1]; omega
      by_cases hc : n = l
      · rw [if_pos hc] at q
        refine yields_pure I q <| .inl ⟨b, base + off, n - l, [], by rw [hlen], by omega, hlt, hown, fun j v hj => (by simp at hj), ?_, ?_⟩
        · intro x hx
          rw [List.eq_nil_of_length_eq_zero (l := ((chunks (P.cellsOf e) n (cs.drop off)).take m).drop l) (by rw [hlen]; omega)] at hx
          cases hx
        · rw [List.eq_nil_of_length_eq_zero (l := ((chunks (P.cellsOf e) n (cs.drop off)).take m).drop l) (by rw [hlen]; omega)]
          rfl
      · rw [if_neg hc, add_none] at q
        refine yields_pure I q <| .inl ⟨b, base + off + l * P.cellsOf e, n - l, (vss.take m).drop l, by rw [hlen], by rw [hlen]; omega, hlt, hown, ?_, fun x hx => c2 x (List.mem_of_mem_take (List.mem_of_mem_drop hx)), c4.sub _ _⟩
        rw [flatten_drop (sz := P.cellsOf e) _ _ fun x hx => hlens x (List.mem_of_mem_take hx), flatten_take _ _ hlens]
        have := c3.sub (l * P.cellsOf e) (m * P.cellsOf e - l * P.cellsOf e)
        rwa [← List.drop_take] at this
    · simp at hv
theorem heap_setCell {w : World} {b o : Nat} {v : Value} {arr : Array Value} {e : TypeId} {fr : Nat × Nat} (h : w.heap[b]? = some (.cells arr e fr)) :
    (w.setCell ⟨b, o, none⟩ v).heap[b]? = some (.cells (arr.setIfInBounds o v) e fr) := by
  simp [World.setCell, Array.getElem?_modify, h]
theorem heap_setCell_other {w : World} {b o c : Nat} {v : Value} (h : c ≠ b) : (w.setCell ⟨b, o, none⟩ v).heap[c]? = w.heap[c]? := by
  simp [World.setCell, Array.getElem?_modify, Ne.symm h]
theorem heap_setCells {b : Nat} : ∀ (vs : List Value) (o : Nat) {w : World} {arr : Array Value} {e : TypeId} {fr : Nat × Nat}, w.heap[b]? = some (.cells arr e fr) →
    ∃ arr', (w.setCells b o vs).heap[b]? = some (.cells arr' e fr) ∧ arr'.size = arr.size
  | [], _, _, arr, _, _, h => ⟨arr, h, rfl⟩
  | v :: r, o, w, arr, e, fr, h => by
    obtain ⟨arr', h1, h2⟩ := heap_setCells r (o + 1) (heap_setCell (o := o) (v := v) h)
    exact ⟨arr', h1, by rw [h2]; simp⟩
theorem heap_setCells_other {b c : Nat} (hc : c ≠ b) : ∀ (vs : List Value) (o : Nat) {w : World}, (w.setCells b o vs).heap[c]? = w.heap[c]?
  | [], _, _ => rfl
  | _ :: r, o, w => by rw [World.setCells, heap_setCells_other hc r (o + 1), heap_setCell_other hc]
theorem size_setCells {b : Nat} : ∀ (vs : List Value) (o : Nat) {w : World}, (w.setCells b o vs).heap.size = w.heap.size
  | [], _, _ => rfl
  | _ :: r, o, w => by rw [World.setCells, size_setCells r (o + 1)]; simp
theorem rest_setCells {b : Nat} : ∀ (vs : List Value) (o : Nat) {w : World}, Rest w (w.setCells b o vs)
  | [], _, _ => ⟨rfl, rfl, rfl⟩
  | v :: r, o, w => rest_setCells (b := b) r (o + 1) (w := w.setCell ⟨b, o, none⟩ v)
theorem run_put {w : World} {b o : Nat} {arr : Array Value} {e : TypeId} {fr : Nat × Nat} (h : w.heap[b]? = some (.cells arr e fr)) {vs : List Value} (hle : o + vs.length ≤ arr.size)
    (hf : ∀ j, j < vs.length → w.frozen? ⟨b, o + j, none⟩ = false) (h1 : ∀ v ∈ vs, v.oneCell' = true) : (storeCells ⟨b, o, none⟩ vs).run P w = .ok () (w.setCells b o vs) := by
  have := run_storeCells_cells (P := P) b o vs 0 w (fun j hj => by
    simp only [World.cell?, h, Nat.add_zero]
    simp [Array.getElem?_eq_getElem (show o + j < arr.size by omega)]) (fun j hj => by simpa using hf j hj) h1
  simpa using this
theorem Holds.put {w : World} {b o base : Nat} {arr : Array Value} {e : TypeId} {fr : Nat × Nat} (h : w.heap[b]? = some (.cells arr e fr)) {vs us : List Value} (hh : Holds w b base us)
    (hle : o + vs.length ≤ us.length) (hsz : base + us.length ≤ arr.size) : Holds (w.setCells b (base + o) vs) b base (us.take o ++ vs ++ us.drop (o + vs.length)) := by
  intro j v hj
  rcases Nat.lt_or_ge j o with hlt | hge
  · rw [World.cell?_setCells_out b vs (base + o) w _ (fun _ _ => .inl (by simp; omega))]
    rw [List.append_assoc, List.getElem?_append_left (by simp only [List.length_take]; omega), List.getElem?_take, if_pos hlt] at hj
    exact hh j v hj
  · rcases Nat.lt_or_ge j (o + vs.length) with hlt | hge'
    · have hjv : vs[j - o]? = some v := by
        rw [List.append_assoc, List.getElem?_append_right (by simp only [List.length_take]; omega)] at hj
        simp only [List.length_take] at hj
        rw [show min o us.length = o by omega, List.getElem?_append_left (by omega)] at hj
        exact hj
      have hlt' : j - o < vs.length := by omega
      have := World.cell?_setCells_in b vs (base + o) w (fun i hi => by
        simp only [World.cell?, h]
        simp [Array.getElem?_eq_getElem (show base + o + i < arr.size by omega)]) (j - o) hlt'
      rw [show base + o + (j - o) = base + j by omega] at this
      rw [this, ← hjv, List.getElem?_eq_getElem hlt']
    · rw [World.cell?_setCells_out b vs (base + o) w _ (fun _ _ => .inr (by simp; omega))]
      rw [List.getElem?_append_right (by simp only [List.length_append, List.length_take]; omega), List.getElem?_drop] at hj
      simp only [List.length_append, List.length_take] at hj
      rw [show o + vs.length + (j - (min o us.length + vs.length)) = j by omega] at hj
      exact hh j v hj
theorem frozen_put {w : World} {b o c q : Nat} {vs : List Value} : (w.setCells b o vs).frozen? ⟨c, q, none⟩ = w.frozen? ⟨c, q, none⟩ := World.frozen?_setCells b vs o w _
theorem splice_rep {cs new : List AV} {vs us : List Value} {off : Nat} (r : RepL C cs vs) (q : RepL C new us) : RepL C (splice cs off new) (vs.take off ++ us ++ vs.drop (off + us.length)) := by
  rw [q.length]
  exact RepL.app (RepL.app r.take q) r.drop
theorem splice_scal {cs new : List AV} {off : Nat} (r : cs.all scal = true) (q : new.all scal = true) : (splice cs off new).all scal = true := by
  simp only [splice, List.all_append, Bool.and_eq_true, List.all_eq_true] at *
  exact ⟨⟨fun x hx => r x (List.mem_of_mem_take hx), q⟩, fun x hx => r x (List.mem_of_mem_drop hx)⟩
theorem splice_length {cs new : List AV} {off : Nat} (h : off + new.length ≤ cs.length) : (splice cs off new).length = cs.length := by
  simp only [splice, List.length_append, List.length_take, List.length_drop]; omega
theorem run_storeVar {t : TypeId} {b o : Nat} {v : Value} {w : World} {arr : Array Value} {e : TypeId} {fr : Nat × Nat} (hz : (P.info? t).isSome = true) (hsz : v.cells.size = P.cellsOf t) (h : w.heap[b]? = some (.cells arr e fr))
    (hle : o + P.cellsOf t ≤ arr.size) (hf : ∀ j, j < P.cellsOf t → w.frozen? ⟨b, o + j, none⟩ = false) (h1 : ∀ x ∈ v.cells.toList, x.oneCell' = true) :
    (storeVar t ⟨b, o, none⟩ v).run P w = .ok () (w.setCells b o v.cells.toList) := by
  have hne : ¬ (v.cells.size ≠ P.cellsOf t) := by omega
  have hp := run_put (P := P) h (vs := v.cells.toList) (by simpa [hsz] using hle) (fun j hj => hf j (by simpa [hsz] using hj)) h1
  simp only [storeVar, Sem.run_bind, run_sizeOf' hz, Result.andThen_ok, if_neg hne]
  simpa using hp
theorem sim_st (I : Inv tb C) (F : FrRel C f a nt) {o : Oper} {t : TypeId} {x z : AO} {y u : Operand} (ho : o.op = .store t y u) (hx : okAO x y = true) (hzu : okAO z u = true) (hz : (P.info? t).isSome = true) (hz0 : 0 < P.cellsOf t)
    {H' : Heap} (h : store C.H (P.cellsOf t) (eval tb f x) (eval tb f z) = some H') : Yields tb C (.junk, some H') ((execOp a.eval o).run P C.w) := by
  have hr := rep_eval I F hx
  have hv := rep_eval I F hzu
  generalize eval tb f x = v at *
  generalize eval tb f z = q at *
  cases v <;> simp only [store, reduceCtorEq] at h
  case ptr id off =>
    cases hc : cellsAt C.H id with
    | none => rw [hc] at h; simp at h
    | some cs =>
      rw [hc] at h
      simp only [Option.bind_some] at h
      split at h
      · rename_i hcond
        obtain ⟨hn, hle⟩ := hcond
        obtain rfl := Option.some.inj h
        obtain ⟨tl, hg, hlab⟩ := cells_get hc
        obtain ⟨_, e'⟩ := hr
        obtain ⟨vs, arr, et, fr, ⟨h1, hlb⟩, h2, h3, h4, h5, h6⟩ := I.obj id _ hg
        obtain ⟨c1, c2⟩ := cells_rep hv (by omega)
        have hsz : (a.eval u).cells.size = P.cellsOf t := by have := c1.length; rw [hn] at this; simpa using this
        have run := run_storeVar (P := P) (t := t) (o := off) hz hsz h1 (by omega) (fun j hj => h6 _ (by omega)) (ones_rep c2 c1)
        obtain ⟨arr', g1, g2⟩ := heap_setCells (a.eval u).cells.toList off h1
        have hvl : (a.eval u).cells.toList.length = P.cellsOf t := by simpa using hsz
        obtain ⟨X, hI⟩ := upd (D := ⟨C.φ, C.H.set id (AObj.cells (labAt C.H id) (splice cs off (cellsOf q))), C.w.setCells (C.φ id).blk off (a.eval u).cells.toList, C.res⟩) I (rest_setCells _ _) hg rfl (fun _ _ => rfl) (by simp only [size_setCells]; omega)
          (fun b hb hne => heap_setCells_other hne _ _) (.inl rfl) (fun _ => ⟨rfl, rfl⟩) (fun _ _ _ _ e => by cases e)
        refine ⟨_, X, hI ?_, rfl, .inr ⟨?_, trivial⟩⟩
        · refine ⟨_, arr', et, fr, ⟨g1, by rw [hlab]; exact hlb⟩, by rw [g2, h2, splice_length (by rw [hn]; exact hle)], splice_scal h3 c2, splice_rep (h4.ext X) (c1.ext X), ?_, ?_⟩
          · have := Holds.put (base := 0) (o := off) h1 h5 (vs := (a.eval u).cells.toList) (by rw [hvl, h4.length]; exact hle) (by rw [h4.length]; omega)
            simpa using this
          · intro j hj
            rw [splice_length (by rw [hn]; exact hle)] at hj
            rw [frozen_put]
            exact h6 j hj
        · simp only [execOp, ho, e', Instr.storeAt, Instr.sureAddr, Sem.run_bind, Sem.run_pure, Result.andThen_ok, run]
      · simp at h
  case pe id n i off =>
    obtain ⟨_, fz, sz, els, hg, hl, k⟩ := hr
    simp only [hg, Option.bind_some] at h
    split at h
    · rename_i hcond
      obtain ⟨hfz, hn, hcl⟩ := hcond
      cases hi : els[i]? with
      | none => rw [hi] at h; simp at h
      | some cs =>
        rw [hi] at h
        simp only [Option.bind_some] at h
        split at h
        · rename_i hle
          obtain rfl := Option.some.inj h
          have e' := k hn
          obtain ⟨tl, hg', hlab⟩ := row_get hg
          obtain ⟨vss, arr, et, fr, ⟨h1, hfr0, hlb⟩, h2, h3, h4, h5, h6, h7, h8, h9⟩ := I.obj id _ hg'
          obtain ⟨c1, c2⟩ := cells_rep hv (by omega)
          have hsz : (a.eval u).cells.size = P.cellsOf t := by have := c1.length; rw [hcl] at this; simpa using this
          have hvl : (a.eval u).cells.toList.length = P.cellsOf t := by simpa using hsz
          have hcs := (h4 cs (List.mem_of_getElem? hi)).1
          have hilt := lt_of_get hi
          have hin : i * sz + sz ≤ els.length * sz := by
            have : (i + 1) * sz ≤ els.length * sz := Nat.mul_le_mul_right _ (by omega)
            rwa [Nat.succ_mul] at this
          have hfr : ∀ j, j < P.cellsOf t → C.w.frozen? ⟨(C.φ id).blk, (C.φ id).base + i * sz + off + j, none⟩ = false := fun j hj => h8 hfz _ (by omega)
          have run := run_storeVar (P := P) (t := t) (o := (C.φ id).base + i * sz + off) hz hsz h1 (by omega) hfr (ones_rep c2 c1)
          obtain ⟨arr', g1, g2⟩ := heap_setCells (a.eval u).cells.toList ((C.φ id).base + i * sz + off) h1
          obtain ⟨X, hI⟩ := upd (D := ⟨C.φ, C.H.set id (AObj.row (labAt C.H id) false sz (els.set i (splice cs off (cellsOf q)))), C.w.setCells (C.φ id).blk ((C.φ id).base + i * sz + off) (a.eval u).cells.toList, C.res⟩) I (rest_setCells _ _) hg' rfl (fun _ _ => rfl) (by simp only [size_setCells]; omega)
            (fun b hb hne => heap_setCells_other hne _ _) (.inl rfl) (fun e => by cases e) (fun _ fz' sz' els' e => by cases e; exact ⟨_, _, _, rfl, by simp, fun _ => rfl⟩)
          refine ⟨_, X, hI ?_, rfl, .inr ⟨?_, trivial⟩⟩
          · obtain ⟨vs, hv', rv⟩ := RepLL.get h5 hi
            have hlens := RepLL.lens (fun x hx => (h4 x hx).1) h5
            refine ⟨vss.set i (vs.take off ++ (a.eval u).cells.toList ++ vs.drop (off + (a.eval u).cells.toList.length)), arr', et, fr, ⟨g1, hfr0, by rw [hlab]; exact hlb⟩, by rw [g2]; exact h2, h3, ?_, ?_, by simpa using h6, ?_, ?_, ?_⟩
            · intro x hx
              rcases List.mem_or_eq_of_mem_set hx with hx | hx
              · exact h4 x hx
              · subst hx
                exact ⟨by rw [splice_length (by omega)]; exact hcs, splice_scal (h4 cs (List.mem_of_getElem? hi)).2 c2⟩
            · exact RepLL.set (splice_rep (rv.ext X) (c1.ext X)) (h5.ext X)
            · have hfl : (vss.set i (vs.take off ++ (a.eval u).cells.toList ++ vs.drop (off + (a.eval u).cells.toList.length))).flatten =
                  vss.flatten.take (i * sz + off) ++ (a.eval u).cells.toList ++ vss.flatten.drop (i * sz + off + (a.eval u).cells.toList.length) := by
                have hvs : vs.length = sz := hlens vs (List.mem_of_getElem? hv')
                have : ∀ (l : List (List Value)) (i : Nat), (∀ y ∈ l, y.length = sz) → l[i]? = some vs → (l.set i (vs.take off ++ (a.eval u).cells.toList ++ vs.drop (off + (a.eval u).cells.toList.length))).flatten =
                    l.flatten.take (i * sz + off) ++ (a.eval u).cells.toList ++ l.flatten.drop (i * sz + off + (a.eval u).cells.toList.length) := by
                  intro l
                  induction l with
                  | nil => intro i _ e; simp at e
                  | cons y l ih =>
                    intro i hy e
                    cases i with
                    | zero =>
                      simp at e; subst e
                      simp only [List.set_cons_zero, List.flatten_cons, Nat.zero_mul, Nat.zero_add]
                      rw [List.take_append_of_le_length (by omega), List.drop_append_of_le_length (by omega)]
                      simp
                    | succ i =>
                      have hyl := hy y List.mem_cons_self
                      simp only [List.set_cons_succ, List.flatten_cons]
                      rw [ih i (fun z hz => hy z (List.mem_cons_of_mem _ hz)) (by simpa using e)]
                      rw [Nat.succ_mul, List.take_append, List.take_of_length_le (l := y) (by omega), List.drop_append, List.drop_of_length_le (l := y) (by omega), List.nil_append]
                      rw [show i * sz + sz + off - y.length = i * sz + off by omega, show i * sz + sz + off + (a.eval u).cells.toList.length - y.length = i * sz + off + (a.eval u).cells.toList.length by omega]
                      simp
                exact this vss i hlens hv'
              rw [hfl]
              have hfll : vss.flatten.length = els.length * sz := by
                have := (RepLL.flat h5).length
                rw [this]
                clear this hfl
                have : ∀ (l : List (List AV)), (∀ x ∈ l, x.length = sz) → l.flatten.length = l.length * sz := by
                  intro l
                  induction l with
                  | nil => intro _; simp
                  | cons y l ih => intro hy; rw [List.flatten_cons, List.length_append, ih fun z hz => hy z (List.mem_cons_of_mem _ hz), hy y List.mem_cons_self, List.length_cons, Nat.succ_mul]; omega
                exact this els fun x hx => (h4 x hx).1
              have := Holds.put (base := (C.φ id).base) (o := i * sz + off) h1 h7 (vs := (a.eval u).cells.toList) (by omega) (by omega)
              rwa [← Nat.add_assoc] at this
            · intro _ j hj
              rw [frozen_put]
              exact h8 hfz j hj
            · intro _ j hj hj'
              rw [frozen_put]
              exact h9 hfz j (by simpa using hj) hj'
          · simp only [execOp, ho, e', Instr.storeAt, Instr.sureAddr, Sem.run_bind, Sem.run_pure, Result.andThen_ok, run]
        · simp at h
    · simp at h
end
end Go.Proofs.YtoegmdfkcaojlaaGreat.Am
namespace Go.Proofs.YtoegmdfkcaojlaaGreat.Am
section
variable {cl : Nat → List AV → Heap → Out} {P : Program} {tb : Tab} {C : Ctx} {f : Fr} {a : Act} {nt : Nat}
theorem flat_length {α : Type} {sz : Nat} : ∀ (l : List (List α)), (∀ x ∈ l, x.length = sz) → l.flatten.length = l.length * sz
  | [], _ => by simp
  | y :: l, h => by
    rw [List.flatten_cons, List.length_append, flat_length l fun z hz => h z (List.mem_cons_of_mem _ hz), h y List.mem_cons_self, List.length_cons, Nat.succ_mul]; omega
theorem flat_scal : ∀ {l : List (List AV)}, (∀ x ∈ l, x.all scal = true) → l.flatten.all scal = true
  | [], _ => rfl
  | y :: l, h => by
    rw [List.flatten_cons, List.all_append, h y List.mem_cons_self, flat_scal fun z hz => h z (List.mem_cons_of_mem _ hz)]
    rfl
theorem bytes_rep (l : List UInt8) : RepLL C (byteEls l) (l.map fun c => [Value.int .u8 c.toNat]) ∧ (∀ x ∈ byteEls l, x.length = 1 ∧ x.all scal = true) := by
  induction l with
  | nil => exact ⟨rfl, fun x hx => by cases hx⟩
  | cons c l ih =>
    refine ⟨⟨_, _, rfl, ⟨_, _, rfl, rfl, rfl⟩, ih.1⟩, fun x hx => ?_⟩
    rcases List.mem_cons.1 hx with e | hx
    · subst e; exact ⟨rfl, rfl⟩
    · exact ih.2 x hx
theorem news_rep (I : Inv tb C) {x : AV} {v : Value} {sz : Nat} {els : List (List AV)} (hsz : 0 < sz) (r : Rep C x v) (h : news C.H sz x = some els) :
    (Builtin.lenOf v).run P C.w = .ok els.length C.w ∧ ∃ vss, RepLL C els vss ∧ (∀ e ∈ els, e.length = sz ∧ e.all scal = true) ∧
      ∀ (m : Nat) (w : World), m ≤ els.length → w.heap = C.w.heap → (Builtin.firstCells sz m v).run P w = .ok (vss.take m).flatten.toArray w := by
  have slc : els? C.H sz x = some els → (Builtin.lenOf v).run P C.w = .ok els.length C.w ∧ ∃ vss, RepLL C els vss ∧ (∀ e ∈ els, e.length = sz ∧ e.all scal = true) ∧
      ∀ (m : Nat) (w : World), m ≤ els.length → w.heap = C.w.heap → (Builtin.firstCells sz m v).run P w = .ok (vss.take m).flatten.toArray w := by
    intro h
    rcases els_rep I hsz r h with ⟨rfl, e⟩ | ⟨q, cap, vss, e, hlc, hh, hs, hr⟩
    · subst e
      refine ⟨rfl, [], rfl, fun e he => (by cases he), fun m w _ _ => ?_⟩
      simp [Builtin.firstCells]
    · subst e
      refine ⟨rfl, vss, hr, hs, fun m w hm hw => ?_⟩
      have hlens := RepLL.lens (fun x hx => (hs x hx).1) hr
      have hlen : (vss.take m).flatten.length = m * sz := by
        rw [flat_length _ fun x hx => hlens x (List.mem_of_mem_take hx), List.length_take, hr.length]; congr 1; omega
      by_cases hne : els = []
      · subst hne
        have hv : vss = [] := List.eq_nil_of_length_eq_zero (by rw [hr.length]; rfl)
        subst hv
        have hm0 : m = 0 := by simpa using hm
        subst hm0
        simp only [Builtin.firstCells, Nat.zero_mul, List.take_nil, List.flatten_nil]
        rfl
      obtain ⟨b, base, rfl, hh2⟩ := hh hne
      have hh' : Holds w b base (vss.take m).flatten := by
        intro j u hj
        rw [flatten_take _ _ hlens, List.getElem?_take] at hj
        split at hj
        · have := hh2 j u hj
          rwa [cell?_same (w := C.w) (w' := w) (by rw [hw])]
        · cases hj
      have := run_loadCells' (P := P) hh'
      rw [hlen] at this
      simpa [Builtin.firstCells] using this
  cases x <;> simp only [news] at h <;> try exact slc h
  case s l =>
    split at h
    · rename_i e
      subst e
      obtain rfl := Option.some.inj h
      have ev : v = .string ⟨l.toArray⟩ := r
      subst ev
      obtain ⟨h1, h2⟩ := bytes_rep (C := C) l
      refine ⟨by simp [Builtin.lenOf, size_mk, byteEls], _, h1, h2, fun m w hm hw => ?_⟩
      simp only [Builtin.firstCells, Sem.run_pure]
      congr 1
      rw [extract_mk]
      have : ∀ (l : List UInt8) (m : Nat), List.take m (List.map (fun b : UInt8 => Value.int .u8 b.toNat) l) = (List.take m (List.map (fun c : UInt8 => [Value.int .u8 c.toNat]) l)).flatten := by
        intro l
        induction l with
        | nil => intro m; simp
        | cons c l ih =>
          intro m
          cases m with
          | zero => simp
          | succ m => simp [ih]
      simp [List.map_take, this]
    · simp at h
theorem run_app_room {t u ty e : TypeId} (ht : P.underlying t = some (.slice e)) (hu : ∃ d, P.underlying u = some d ∧ ∀ k, d ≠ .int k) (hz : (P.info? e).isSome = true) {p : Option Addr} {n cap m : Nat} {x : Value} {w : World} {us : List Value}
    (hl : (Builtin.lenOf x).run P w = .ok m w) (hc : (Builtin.firstCells (P.cellsOf e) m x).run P w = .ok us.toArray w) (hroom : n + m ≤ cap) :
    (Builtin.append_ #[t, u] ty #[.slice p n cap, x]).run P w = (match p with
      | some q => (storeCells (q.add (n * P.cellsOf e)) us).run P w
      | none => .ok () w).andThen fun _ w' => .ok (.slice p (n + m) cap) w' := by
  obtain ⟨d, hu, hk⟩ := hu
  have hd : (match d with | .int _ => true | _ => false) = false := by cases d <;> first | rfl | exact absurd rfl (hk _)
  simp only [Builtin.append_, List.getElem?_toArray, List.getElem?_cons_zero, List.getElem?_cons_succ, Sem.run_bind, run_underlying' ht, run_underlying' hu, Result.andThen_ok, run_sizeOf' hz, Sem.run_pure]
  cases p with
  | none => cases d <;> first | exact absurd rfl (hk _) | simp [hl, hc, hroom]
  | some q => cases d <;> first | exact absurd rfl (hk _) | simp [hl, hc, hroom]
theorem run_app_grow {t u ty e : TypeId} (ht : P.underlying t = some (.slice e)) (hu : ∃ d, P.underlying u = some d ∧ ∀ k, d ≠ .int k) {i : TypeInfo} (hi : P.info? e = some i) {z : Value} (hzz : i.zero = some z) {p : Option Addr} {n cap m : Nat} {x : Value} {w : World}
    {us olds : List Value} (hl : (Builtin.lenOf x).run P w = .ok m w) (hc : ∀ w', w'.heap = w.heap → (Builtin.firstCells (P.cellsOf e) m x).run P w' = .ok us.toArray w')
    (ho : ∀ w', w'.heap = w.heap → (Builtin.firstCells (P.cellsOf e) n (.slice p n cap)).run P w' = .ok olds.toArray w') (hroom : cap < n + m) (hb : (n + m) * i.bytes ≤ 140737488355328) (hbz : 0 < i.bytes) :
    ∃ K, n + m ≤ K ∧ (Builtin.append_ #[t, u] ty #[.slice p n cap, x]).run P w =
      .ok (.slice (some ⟨w.heap.size, 0, none⟩) (n + m) K) ({ w with drawn := w.drawn + 1 }.alloc (.cells (olds.toArray ++ us.toArray ++ Builtin.zeroCells z.cells (K - (n + m))) e)) := by
  obtain ⟨d, hu, hk⟩ := hu
  have hz : (P.info? e).isSome = true := by rw [hi]; rfl
  have hcells : P.cellsOf e = i.size := by simp [Program.cellsOf, hi]
  have hch : (choose (.appendCap (n + m) cap e)).run P w = .ok (grownCap w (n + m) cap e) { w with drawn := w.drawn + 1 } := by
    simp [Question.forced, grownCap]
  have hnr : ¬ (n + m ≤ cap) := by omega
  have hfit := growslice_fits (bytes := i.bytes) hroom hb
  have hfit' : ¬ (Builtin.nextslicecap (n + m) cap * i.bytes > 2 ^ 48) := by omega
  refine ⟨grownCap w (n + m) cap e, grownCap_ge w (n + m) cap e, ?_⟩
  have h1 := hc { w with drawn := w.drawn + 1 } rfl
  have h2 := ho { w with drawn := w.drawn + 1 } rfl
  have hbz' : i.bytes ≠ 0 := by omega
  simp only [Builtin.append_, List.getElem?_toArray, List.getElem?_cons_zero, List.getElem?_cons_succ, Sem.run_bind, run_underlying' ht, run_underlying' hu, Result.andThen_ok, run_sizeOf' hz, Sem.run_pure]
  cases d <;> first
    | exact absurd rfl (hk _)
    | (simp only [Bool.false_eq_true, if_false, hl, Result.andThen_ok, Sem.run_bind, Sem.run_pure, if_neg hnr, Sem.run_ite, run_typeInfo' hi, hbz', or_self, and_false, hfit', hch, run_askRoom, h1, h2, zeroValue, hzz, newRow, run_newObj, gt_iff_lt]
       rfl)
theorem row_new {fz : Bool} {sz : Nat} {els : List (List AV)} {vss : List (List Value)} {arr : Array Value} {e : TypeId} {w : World} (hw : w.heap = C.w.heap) (hsz : 0 < sz) (hs : ∀ x ∈ els, x.length = sz ∧ x.all scal = true) (hr : RepLL C els vss)
    (harr : ∀ (j : Nat) (v : Value), vss.flatten[j]? = some v → arr[j]? = some v) (hle : els.length * sz ≤ arr.size) : let p : Place := ⟨C.w.heap.size, 0, arr.size⟩
    let w' := w.alloc (.cells arr e)
    C.w.heap.size < w'.heap.size ∧ (∀ b, b < C.w.heap.size → w'.heap[b]? = C.w.heap[b]?) ∧ ∀ D : Ctx, Ext C D → D.w = w' → Obj D p (AObj.row (some e) fz sz els) := by
  have hsize : w.heap.size = C.w.heap.size := by rw [hw]
  have hn : (w.alloc (.cells arr e)).heap[C.w.heap.size]? = some (.cells arr e) := by rw [← hsize]; exact alloc_new _ _
  refine ⟨by rw [alloc_size, hsize]; omega, fun b hb => by rw [alloc_old _ _ (by omega), hw], ?_⟩
  intro D X hD
  refine ⟨vss, arr, e, (0, 0), ⟨by rw [hD]; exact hn, Nat.le_refl _, fun k hk => by cases hk; rfl⟩, rfl, hsz, hs, RepLL.ext X hr, by simpa using hle, ?_, ?_, ?_⟩
  · intro j v hj
    rw [hD]
    simp only [World.cell?, hn, Nat.zero_add]
    simpa using harr j v hj
  · intro _ o _
    rw [hD]
    simp only [World.frozen?, hn]
    simp
  · intro _ o _ _
    rw [hD]
    simp only [World.frozen?, hn]
    simp
theorem yields_row (I : Inv tb C) {fz : Bool} {sz : Nat} {els : List (List AV)} {vss : List (List Value)} {arr : Array Value} {e : TypeId} {w : World} (hrest : Rest C.w w) (hw : w.heap = C.w.heap) (hsz : 0 < sz) (hs : ∀ x ∈ els, x.length = sz ∧ x.all scal = true) (hr : RepLL C els vss)
    (harr : ∀ (j : Nat) (v : Value), vss.flatten[j]? = some v → arr[j]? = some v) {K : Nat} (hK : els.length ≤ K) (hle : K * sz ≤ arr.size) {x : Result Next}
    (h : x = .ok (.value (.slice (some ⟨C.w.heap.size, 0, none⟩) els.length K)) (w.alloc (.cells arr e))) :
    Yields tb C (.orow C.H.length els.length 0 els.length, some (C.H ++ [AObj.row (some e) fz sz els])) x := by
  have hle' : els.length * sz ≤ arr.size := Nat.le_trans (Nat.mul_le_mul_right _ hK) hle
  obtain ⟨h1, h2, h3⟩ := row_new (fz := fz) (e := e) hw hsz hs hr harr hle'
  refine yields_new (w := w.alloc (.cells arr e)) I (p := ⟨C.w.heap.size, 0, arr.size⟩) hrest h h1 rfl h2 (h3 _ (more (w := w.alloc (.cells arr e)) I hrest h1 rfl h2).1 rfl) ?_
  intro hφ
  refine ⟨⟨_, _, rfl⟩, fz, sz, els, by simp [Ctx.more, rowAt], Nat.le_refl _, fun _ => ⟨by omega, 0, K, by rw [hφ], hK, fun _ => by rw [hφ]; simp, by rw [hφ]; simpa using hle, by rw [hφ]; exact Nat.zero_le _⟩⟩
theorem flatten_append_get {vss : List (List Value)} {us : List Value} {rest : Array Value} (j : Nat) (v : Value) (h : vss.flatten[j]? = some v) (e : us = vss.flatten) : (#[] ++ us.toArray ++ rest)[j]? = some v := by
  subst e
  have := lt_of_get h
  rw [Array.getElem?_append_left (by simpa using this)]
  simpa using h
theorem sim_app (I : Inv tb C) (F : FrRel C f a nt) {o : Oper} {c : Call} {t u e : TypeId} {s x : AO} {y1 y2 : Operand} (ho : o.op = .call c) (hc : c.callee = .builtin .append) (hargs : c.args = #[y1, y2]) (htys : c.argTypes = #[t, u])
    (ht : P.underlying t = some (.slice e)) (hu : ∃ d, P.underlying u = some d ∧ ∀ k, d ≠ .int k) {i : TypeInfo} (hi : P.info? e = some i) {z : Value} (hzz : i.zero = some z) (hzs : z.cells.size = P.cellsOf e) (hz0 : 0 < P.cellsOf e) (hbz : 0 < i.bytes)
    (h1 : okAO s y1 = true) (h2 : okAO x y2 = true) {new : List (List AV)} (hn : news C.H (P.cellsOf e) (eval tb f x) = some new) {r : AV × Option Heap} (h : appd C.H e (P.cellsOf e) i.bytes (eval tb f s) new = some r) :
    Yields tb C r ((execOp a.eval o).run P C.w) := by
  have hz : (P.info? e).isSome = true := by rw [hi]; rfl
  have r1 := rep_eval I F h1
  obtain ⟨hl, vss, hrr, hs, hfc⟩ := news_rep (P := P) I hz0 (rep_eval I F h2) hn
  have hlens := RepLL.lens (fun x hx => (hs x hx).1) hrr
  have hfc' : ∀ w', w'.heap = C.w.heap → (Builtin.firstCells (P.cellsOf e) new.length (a.eval y2)).run P w' = .ok vss.flatten.toArray w' := by
    intro w' hw
    have := hfc new.length w' (Nat.le_refl _) hw
    rwa [List.take_of_length_le (by rw [hrr.length]; omega)] at this
  have hul : vss.flatten.length = new.length * P.cellsOf e := by rw [flat_length _ hlens, hrr.length]
  have run : ∀ {v w'}, (Builtin.append_ #[t, u] o.type #[a.eval y1, a.eval y2]).run P C.w = .ok v w' → (execOp a.eval o).run P C.w = .ok (.value v) w' := by
    intro v w' hv
    refine run_builtin ho hc fun q => ?_
    simp only [hargs, htys, List.map_toArray, List.map_cons, List.map_nil, builtin, Sem.run_bind, hv, Result.andThen_ok, Sem.run_pure]
  generalize eval tb f s = v at *
  cases v <;> simp only [appd, reduceCtorEq] at h
  case nils =>
    have e1 : a.eval y1 = .slice none 0 0 := r1
    split at h
    · rename_i h0
      obtain rfl := Option.some.inj h
      have := run_app_room (P := P) (ty := o.type) ht hu hz (p := none) (n := 0) (cap := 0) hl (hfc' C.w rfl) (by omega)
      refine yields_pure I (v := .slice none 0 0) (run ?_) rfl
      rw [e1, this]
      simp [h0]
    · rename_i h0
      split at h
      · rename_i hb
        obtain rfl := Option.some.inj h
        obtain ⟨K, hK, hrun⟩ := run_app_grow (P := P) (ty := o.type) (p := none) (n := 0) (cap := 0) (olds := []) ht hu hi hzz hl hfc' (fun w' _ => by simp [Builtin.firstCells]) (by omega) (by rw [Nat.zero_add]; unfold most at hb; omega) hbz
        rw [← e1] at hrun
        simp only [Nat.zero_add] at hrun hK
        refine yields_row (w := { C.w with drawn := C.w.drawn + 1 }) I ⟨rfl, rfl, rfl⟩ rfl hz0 hs hrr (fun j v hj => flatten_append_get j v hj rfl) hK ?_ (run hrun)
        simp only [Array.size_append, List.size_toArray, size_zeroCells, hzs, hul, List.length_nil, Nat.zero_add]
        rw [← Nat.add_mul, show new.length + (K - new.length) = K by omega]
        exact Nat.le_refl _
      · simp at h
  case orow id n lo len =>
    obtain ⟨_, fz, sz, els, hg, hle, k⟩ := r1
    simp only [hg, Option.bind_some] at h
    split at h
    · rename_i hcond
      obtain ⟨rfl, hn', rfl, hsz, hb, hfz⟩ := hcond
      obtain ⟨_, off, cap, e1, hlc, hoff, hsize, hbo⟩ := k hn'
      subst hsz
      subst hn'
      obtain ⟨tl, hg', hlab⟩ := row_get hg
      obtain ⟨ws, arr, et, fr, ⟨g1, hfr0, hlb⟩, g2, g3, g4, g5, g6, g7, g8, g9⟩ := I.obj id _ hg'
      have hwl := RepLL.lens (fun x hx => (g4 x hx).1) g5
      have hwfl : ws.flatten.length = els.length * P.cellsOf e := by rw [flat_length _ hwl, g5.length]
      split at h
      · rename_i h0
        obtain rfl := Option.some.inj h
        have := run_app_room (P := P) (ty := o.type) ht hu hz (p := some ⟨(C.φ id).blk, off, none⟩) (n := els.length) (cap := cap) hl (hfc' C.w rfl) (by omega)
        have hv0 : vss.flatten = [] := List.eq_nil_of_length_eq_zero (by rw [hul, h0]; simp)
        rw [hv0] at this
        refine yields_pure I (v := .slice (some ⟨(C.φ id).blk, off, none⟩) els.length cap) (run ?_) ⟨⟨_, _, rfl⟩, fz, _, els, hg, Nat.le_refl _, fun _ => ⟨by omega, off, cap, rfl, hlc, hoff, hsize, hbo⟩⟩
        rw [e1, this]
        simp [h0, storeCells]
      · rename_i h0
        obtain rfl := Option.some.inj h
        have hpos : 0 < new.length := by omega
        by_cases hroom : els.length + new.length ≤ cap
        · -- in place
          have hcap : (els.length + new.length) * P.cellsOf e ≤ cap * P.cellsOf e := Nat.mul_le_mul_right _ hroom
          rw [Nat.add_mul] at hcap
          have hoffs : off = (C.φ id).base ∨ els.length = 0 := by
            rcases Nat.eq_zero_or_pos els.length with h | h
            · exact .inr h
            · exact .inl (by rw [hoff h]; simp)
          have hst := run_put (P := P) (o := off + els.length * P.cellsOf e) (vs := vss.flatten) g1 (by rw [hul]; omega) (fun j hj => g9 hfz _ (by
              rcases hoffs with h | h
              · omega
              · rw [h]; omega) (by rw [hul] at hj; omega)) (ones_rep (flat_scal fun x hx => (hs x hx).2) hrr.flat)
          have := run_app_room (P := P) (ty := o.type) ht hu hz (p := some ⟨(C.φ id).blk, off, none⟩) (n := els.length) (cap := cap) hl (hfc' C.w rfl) hroom
          simp only [add_none, hst, Result.andThen_ok] at this
          obtain ⟨arr', q1, q2⟩ := heap_setCells vss.flatten (off + els.length * P.cellsOf e) g1
          obtain ⟨X, hI⟩ := upd (D := ⟨fun j => if j = id then ⟨(C.φ id).blk, off, (C.φ id).size⟩ else C.φ j, C.H.set id (AObj.row (labIf (labAt C.H id) e) fz (P.cellsOf e) (els ++ new)), C.w.setCells (C.φ id).blk (off + els.length * P.cellsOf e) vss.flatten, C.res⟩) I (rest_setCells _ _) hg' rfl
            (fun j hj => if_neg hj) (by simp only [size_setCells]; omega) (fun b hb hne => heap_setCells_other hne _ _) (.inl (by simp)) (fun e => by cases e)
            (fun _ fz' sz' els' e => by cases e; exact ⟨_, _, _, rfl, by simp, fun e => absurd e (by rw [List.length_append]; omega)⟩)
          refine ⟨_, X, hI ?_, rfl, .inl ⟨.slice (some ⟨(C.φ id).blk, off, none⟩) (els.length + new.length) cap, run (by rw [e1, this]), ?_⟩⟩
          · simp only [if_true]
            refine ⟨ws ++ vss, arr', et, fr, ⟨q1, hfr0, fun k hk => by
              unfold labIf at hk
              split at hk
              · rename_i hl'; rw [hlab] at hl'; cases hk; exact hlb _ hl'
              · cases hk⟩, by rw [q2]; exact g2, g3, ?_, RepLL.app (RepLL.ext X g5) (RepLL.ext X hrr), ?_, ?_, ?_, ?_⟩
            · intro y hy
              rcases List.mem_append.1 hy with hy | hy
              · exact g4 y hy
              · exact hs y hy
            · simp only [List.length_append]; rw [Nat.add_mul]; omega
            · intro j v hj
              rw [List.flatten_append] at hj
              rcases Nat.lt_or_ge j ws.flatten.length with hlt | hge
              · rw [List.getElem?_append_left hlt] at hj
                rw [World.cell?_setCells_out _ _ _ _ _ fun _ _ => .inl (by simp; omega)]
                have hoff' : off = (C.φ id).base := hoffs.resolve_right fun h0 => by rw [h0] at hwfl; omega
                rw [hoff']
                exact g7 j v hj
              · rw [List.getElem?_append_right hge] at hj
                have hlt' := lt_of_get hj
                have := World.cell?_setCells_in (C.φ id).blk vss.flatten (off + els.length * P.cellsOf e) C.w (fun q hq => by
                  simp only [World.cell?, g1]
                  simp [Array.getElem?_eq_getElem (show off + els.length * P.cellsOf e + q < arr.size by omega)]) (j - ws.flatten.length) hlt'
                rw [show off + els.length * P.cellsOf e + (j - ws.flatten.length) = off + j by omega] at this
                rw [this, ← hj, List.getElem?_eq_getElem hlt']
            · intro hf j hj
              rw [frozen_put]
              exact g8 hf j hj
            · intro _ j hj hj'
              simp only [List.length_append] at hj
              rw [Nat.add_mul] at hj
              rw [frozen_put]
              refine g9 hfz j ?_ hj'
              rcases hoffs with h | h
              · omega
              · rw [h]; omega
          · exact ⟨⟨_, _, rfl⟩, fz, P.cellsOf e, els ++ new, row_at (List.getElem?_set_self (lt_of_get hg')), by simp, fun _ => ⟨by simp, off, cap, by simp, by omega, fun _ => by simp, by simpa using hsize, by simp⟩⟩
        · -- a new place
          have hold : ∀ w', w'.heap = C.w.heap → (Builtin.firstCells (P.cellsOf e) els.length (.slice (some ⟨(C.φ id).blk, off, none⟩) els.length cap)).run P w' = .ok ws.flatten.toArray w' := by
            intro w' hw
            have hh : Holds w' (C.φ id).blk off ws.flatten := by
              intro j v hj
              have hlt := lt_of_get hj
              have hoff' : off = (C.φ id).base := by
                rcases Nat.eq_zero_or_pos els.length with h | h
                · rw [h] at hwfl; omega
                · rw [hoff h]; simp
              rw [cell?_same (w := C.w) (w' := w') (by rw [hw]), hoff']
              exact g7 j v hj
            have := run_loadCells' (P := P) hh
            rw [hwfl] at this
            simpa [Builtin.firstCells] using this
          obtain ⟨K, hK, hrun⟩ := run_app_grow (P := P) (ty := o.type) (p := some ⟨(C.φ id).blk, off, none⟩) (n := els.length) (cap := cap) (olds := ws.flatten) ht hu hi hzz hl hfc' hold (by omega) (by unfold most at hb; omega) hbz
          rw [← e1] at hrun
          have hall : ∀ x ∈ els ++ new, x.length = P.cellsOf e ∧ x.all scal = true := by
            intro y hy
            rcases List.mem_append.1 hy with hy | hy
            · exact g4 y hy
            · exact hs y hy
          have hsize' : (ws.flatten.toArray ++ vss.flatten.toArray ++ Builtin.zeroCells z.cells (K - (els.length + new.length))).size = K * P.cellsOf e := by
            simp only [Array.size_append, List.size_toArray, size_zeroCells, hzs, hul, hwfl]
            rw [← Nat.add_mul, ← Nat.add_mul]
            congr 1
            omega
          obtain ⟨w1, w2, w3⟩ := row_new (fz := fz) (e := e) (w := { C.w with drawn := C.w.drawn + 1 }) (vss := ws ++ vss) (arr := ws.flatten.toArray ++ vss.flatten.toArray ++ Builtin.zeroCells z.cells (K - (els.length + new.length))) rfl hz0 hall (RepLL.app g5 hrr)
            (fun j v hj => by
              rw [List.flatten_append] at hj
              have := lt_of_get hj
              rw [Array.getElem?_append_left (by simpa using this)]
              simpa using hj) (by rw [hsize', List.length_append]; exact Nat.mul_le_mul_right _ hK)
          obtain ⟨X, hI⟩ := upd (D := ⟨fun j => if j = id then ⟨C.w.heap.size, 0, (ws.flatten.toArray ++ vss.flatten.toArray ++ Builtin.zeroCells z.cells (K - (els.length + new.length))).size⟩ else C.φ j, C.H.set id (AObj.row (labIf (labAt C.H id) e) fz (P.cellsOf e) (els ++ new)), { C.w with drawn := C.w.drawn + 1 }.alloc (.cells (ws.flatten.toArray ++ vss.flatten.toArray ++ Builtin.zeroCells z.cells (K - (els.length + new.length))) e), C.res⟩) I ⟨rfl, rfl, rfl⟩ hg' rfl
            (fun j hj => if_neg hj) (Nat.le_of_lt w1) (fun b hb _ => w2 b hb) (.inr ⟨by simp, by simp⟩) (fun e => by cases e)
            (fun _ fz' sz' els' e => by cases e; exact ⟨_, _, _, rfl, by simp, fun e => absurd e (by rw [List.length_append]; omega)⟩)
          refine ⟨_, X, hI ?_, rfl, .inl ⟨_, run hrun, ?_⟩⟩
          · simp only [if_true]
            obtain ⟨vss', arr'', e'', fr'', ⟨y1, y2, y3⟩, yy⟩ := w3 _ X rfl
            exact ⟨vss', arr'', e'', fr'', ⟨y1, y2, fun k hk => by
              unfold labIf at hk
              split at hk
              · cases hk; exact y3 _ rfl
              · cases hk⟩, yy⟩
          · exact ⟨⟨_, _, rfl⟩, fz, P.cellsOf e, els ++ new, row_at (List.getElem?_set_self (lt_of_get hg')), by simp, fun _ => ⟨by simp, 0, K, by simp, hK, fun _ => by simp, by simp only [if_true, hsize']; omega, by simp⟩⟩
    · simp at h
theorem flat_take_len {sz m : Nat} {l : List (List AV)} (h : ∀ x ∈ l, x.length = sz) (hm : m ≤ l.length) : (l.take m).flatten.length = m * sz := by
  rw [flat_length _ fun x hx => h x (List.mem_of_mem_take hx), List.length_take, Nat.min_eq_left hm]
theorem sim_cpy (I : Inv tb C) (F : FrRel C f a nt) {o : Oper} {c : Call} {t e : TypeId} {ts : Array TypeId} {d x : AO} {y1 y2 : Operand} (ho : o.op = .call c) (hc : c.callee = .builtin .copy) (hargs : c.args = #[y1, y2]) (htys : c.argTypes = ts) (ht0 : ts[0]? = some t)
    (ht : P.underlying t = some (.slice e)) (hz : (P.info? e).isSome = true) (hz0 : 0 < P.cellsOf e) (h1 : okAO d y1 = true) (h2 : okAO x y2 = true) {src : List (List AV)} (hn : news C.H (P.cellsOf e) (eval tb f x) = some src) {r : AV × Option Heap}
    (h : copyTo C.H (P.cellsOf e) (eval tb f d) src = some r) : Yields tb C r ((execOp a.eval o).run P C.w) := by
  have r1 := rep_eval I F h1
  obtain ⟨hl, vss, hrr, hs, hfc⟩ := news_rep (P := P) I hz0 (rep_eval I F h2) hn
  have hlens := RepLL.lens (fun x hx => (hs x hx).1) hrr
  have run : ∀ {v w'}, (Builtin.copy_ ts o.type #[a.eval y1, a.eval y2]).run P C.w = .ok v w' → (execOp a.eval o).run P C.w = .ok (.value v) w' := by
    intro v w' hv
    refine run_builtin ho hc fun q => ?_
    simp only [hargs, htys, List.map_toArray, List.map_cons, List.map_nil, builtin, Sem.run_bind, hv, Result.andThen_ok, Sem.run_pure]
  have body : ∀ {p : Option Addr} {len cap : Nat}, a.eval y1 = .slice p len cap → (Builtin.copy_ ts o.type #[a.eval y1, a.eval y2]).run P C.w =
      (match p with
        | some q => (storeCells q (vss.take (min src.length len)).flatten).run P C.w
        | none => .ok () C.w).andThen fun _ w' => .ok (goInt ((min src.length len : Nat) : Int)) w' := by
    intro p len cap he
    have hm : min src.length len ≤ src.length := Nat.min_le_left _ _
    have hf := hfc (min src.length len) C.w hm rfl
    have hmin : Nat.min src.length len = min src.length len := rfl
    simp only [Builtin.copy_, ht0, List.getElem?_toArray, List.getElem?_cons_zero, List.getElem?_cons_succ, Sem.run_bind, run_underlying' ht, Result.andThen_ok, he, hl, run_sizeOf' hz, hmin, hf]
    cases p <;> simp
  have hvt : ∀ m, m ≤ src.length → RepL C (src.take m).flatten (vss.take m).flatten ∧ (src.take m).flatten.all scal = true ∧ (src.take m).flatten.length = m * P.cellsOf e ∧ (vss.take m).flatten.length = m * P.cellsOf e := by
    intro m hm
    have hr := RepLL.flat (RepLL.take (n := m) hrr)
    have hlen := flat_take_len (m := m) (fun x hx => (hs x hx).1) hm
    exact ⟨hr, flat_scal fun x hx => (hs x (List.mem_of_mem_take hx)).2, hlen, by rw [hr.length, hlen]⟩
  generalize eval tb f d = v at *
  cases v <;> simp only [copyTo, reduceCtorEq] at h
  case nils =>
    obtain rfl := Option.some.inj h
    have e1 : a.eval y1 = .slice none 0 0 := r1
    refine yields_pure I (v := goInt 0) (run ?_) rfl
    rw [body e1]
    simp
  case ocel sz id off len =>
    obtain ⟨_, o', cap, e1, hlc, hoff, _⟩ := r1
    cases hcs : cellsAt C.H id with
    | none => rw [hcs] at h; simp at h
    | some cs =>
      rw [hcs] at h
      simp only [Option.bind_some] at h
      split at h
      · rename_i hcond
        obtain ⟨hsz, hle⟩ := hcond
        obtain rfl := Option.some.inj h
        obtain ⟨tl, hg, hlab⟩ := cells_get hcs
        obtain ⟨vs, arr, et, fr, ⟨g1, hlb⟩, g2, g3, g4, g5, g6⟩ := I.obj id _ hg
        generalize hm : min src.length len = m at *
        have hms : m ≤ src.length := by omega
        have hml : m * P.cellsOf e ≤ len * P.cellsOf e := Nat.mul_le_mul_right _ (by omega)
        obtain ⟨q1, q2, q3, q4⟩ := hvt m hms
        have hsp : cs.take off ++ (src.take m).flatten ++ cs.drop (off + m * P.cellsOf e) = splice cs off (src.take m).flatten := by simp only [splice, q3]
        have hst : (storeCells ⟨(C.φ id).blk, o', none⟩ (vss.take m).flatten).run P C.w = .ok () (C.w.setCells (C.φ id).blk off (vss.take m).flatten) := by
          by_cases h0 : 0 < len
          · rw [hoff h0]
            exact run_put g1 (by rw [q4, g2]; omega) (fun j hj => g6 _ (by rw [q4] at hj; omega)) (ones_rep q2 q1)
          · have : m = 0 := by omega
            subst this
            simp [storeCells, World.setCells]
        obtain ⟨arr', k1, k2⟩ := heap_setCells (vss.take m).flatten off g1
        obtain ⟨X, hI⟩ := upd (D := ⟨C.φ, C.H.set id (AObj.cells (labAt C.H id) (splice cs off (src.take m).flatten)), C.w.setCells (C.φ id).blk off (vss.take m).flatten, C.res⟩) I (rest_setCells _ _) hg rfl (fun _ _ => rfl) (by simp only [size_setCells]; omega)
          (fun b hb hne => heap_setCells_other hne _ _) (.inl rfl) (fun _ => ⟨rfl, rfl⟩) (fun _ _ _ _ e => by cases e)
        refine ⟨_, X, hI ?_, by simp only [Option.getD_some, hsp], .inl ⟨goInt m, run ?_, rfl⟩⟩
        · refine ⟨_, arr', et, fr, ⟨k1, by rw [hlab]; exact hlb⟩, by rw [k2, g2, splice_length (by rw [q3]; omega)], splice_scal g3 q2, splice_rep (g4.ext X) (q1.ext X), ?_, ?_⟩
          · have := Holds.put (base := 0) (o := off) g1 g5 (vs := (vss.take m).flatten) (by rw [q4, g4.length]; omega) (by rw [g4.length]; omega)
            simpa using this
          · intro j hj
            rw [splice_length (by rw [q3]; omega)] at hj
            rw [frozen_put]
            exact g6 j hj
        · rw [body e1]
          simp only [hm, hst, Result.andThen_ok]
      · simp at h
  case orow id n lo len =>
    obtain ⟨_, fz, sz, els, hg, hle, k⟩ := r1
    simp only [hg, Option.bind_some] at h
    split at h
    · rename_i hcond
      obtain ⟨hfz, hn', hsz, hlo⟩ := hcond
      obtain rfl := Option.some.inj h
      subst hsz
      obtain ⟨_, off, cap, e1, hlc, hoff, hsize, hbo⟩ := k hn'
      obtain ⟨tl, hg', hlab⟩ := row_get hg
      obtain ⟨ws, arr, et, fr, ⟨g1, hfr0, hlb⟩, g2, g3, g4, g5, g6, g7, g8, g9⟩ := I.obj id _ hg'
      generalize hm : min src.length len = m at *
      have hms : m ≤ src.length := by omega
      obtain ⟨q1, q2, q3, q4⟩ := hvt m hms
      have hwl := RepLL.lens (fun x hx => (g4 x hx).1) g5
      have hwfl : ws.flatten.length = els.length * P.cellsOf e := by rw [flat_length _ hwl, g5.length]
      have hb1 : lo * P.cellsOf e + m * P.cellsOf e ≤ els.length * P.cellsOf e := by
        rw [← Nat.add_mul]; exact Nat.mul_le_mul_right _ (by omega)
      have hst : (storeCells ⟨(C.φ id).blk, off, none⟩ (vss.take m).flatten).run P C.w = .ok () (C.w.setCells (C.φ id).blk ((C.φ id).base + lo * P.cellsOf e) (vss.take m).flatten) := by
        by_cases h0 : 0 < len
        · rw [hoff h0]
          exact run_put g1 (by rw [q4, g2]; omega) (fun j hj => g8 hfz _ (by rw [q4] at hj; omega)) (ones_rep q2 q1)
        · have : m = 0 := by omega
          subst this
          simp [storeCells, World.setCells]
      obtain ⟨arr', k1, k2⟩ := heap_setCells (vss.take m).flatten ((C.φ id).base + lo * P.cellsOf e) g1
      obtain ⟨X, hI⟩ := upd (D := ⟨C.φ, C.H.set id (AObj.row (labAt C.H id) false (P.cellsOf e) (els.take lo ++ src.take m ++ els.drop (lo + m))), C.w.setCells (C.φ id).blk ((C.φ id).base + lo * P.cellsOf e) (vss.take m).flatten, C.res⟩) I (rest_setCells _ _) hg' rfl (fun _ _ => rfl) (by simp only [size_setCells]; omega)
        (fun b hb hne => heap_setCells_other hne _ _) (.inl rfl) (fun e => by cases e) (fun _ fz' sz' els' e => by cases e; exact ⟨_, _, _, rfl, by simp only [List.length_append, List.length_take, List.length_drop]; omega, fun _ => rfl⟩)
      have hnl : (els.take lo ++ src.take m ++ els.drop (lo + m)).length = els.length := by simp only [List.length_append, List.length_take, List.length_drop]; omega
      refine ⟨_, X, hI ?_, rfl, .inl ⟨goInt m, run ?_, rfl⟩⟩
      · refine ⟨ws.take lo ++ vss.take m ++ ws.drop (lo + m), arr', et, fr, ⟨k1, hfr0, by rw [hlab]; exact hlb⟩, by rw [k2]; exact g2, g3, ?_, ?_, by rw [hnl]; exact g6, ?_, ?_, ?_⟩
        · intro y hy
          simp only [List.mem_append] at hy
          rcases hy with (hy | hy) | hy
          · exact g4 y (List.mem_of_mem_take hy)
          · exact hs y (List.mem_of_mem_take hy)
          · exact g4 y (List.mem_of_mem_drop hy)
        · exact RepLL.app (RepLL.app (RepLL.take (g5.ext X)) (RepLL.take (hrr.ext X))) (RepLL.drop (g5.ext X))
        · have hfl : (ws.take lo ++ vss.take m ++ ws.drop (lo + m)).flatten = ws.flatten.take (lo * P.cellsOf e) ++ (vss.take m).flatten ++ ws.flatten.drop (lo * P.cellsOf e + (vss.take m).flatten.length) := by
            rw [List.flatten_append, List.flatten_append, flatten_take _ _ hwl, flatten_drop _ _ hwl, q4, ← Nat.add_mul]
          rw [hfl]
          exact Holds.put (base := (C.φ id).base) (o := lo * P.cellsOf e) g1 g7 (vs := (vss.take m).flatten) (by omega) (by omega)
        · intro _ j hj
          rw [frozen_put]
          exact g8 hfz j hj
        · intro _ j hj hj'
          rw [frozen_put]
          exact g9 hfz j (by rwa [hnl] at hj) hj'
      · rw [body e1]
        simp only [hm, hst, Result.andThen_ok]
    · simp at h
end
end Go.Proofs.YtoegmdfkcaojlaaGreat.Am
namespace Go.Proofs.YtoegmdfkcaojlaaGreat.Am
def shpF (P : Program) (sh : TypeId → Option (List CK)) : Nat → List Field → Option (List CK)
  | _, [] => some []
  | pos, f :: fs => (sh f.type).bind fun l => if f.offset = pos ∧ f.name ≠ "_" ∧ l.length = P.cellsOf f.type then (shpF P sh (pos + l.length) fs).map (l ++ ·) else none
def shp (P : Program) : Nat → TypeId → Option (List CK)
  | 0, _ => none
  | d + 1, t =>
    match P.underlying t with
    | some .bool => some [.b]
    | some (.int k) => some [.i k]
    | some .string => some [.s]
    | some (.struct fs) => if P.stoodInHeld t then none else shpF P (shp P d) 0 fs.toList
    | some (.array n e) => (shp P d e).bind fun l => if l.length = P.cellsOf e then some (List.replicate n l).flatten else none
    | _ => none
theorem eqS_length : ∀ {l : List CK} {x y : List AV} {b : Bool}, eqS l x y = some b → x.length = l.length ∧ y.length = l.length
  | [], [], [], _, _ => ⟨rfl, rfl⟩
  | [], [], _ :: _, _, h => by simp [eqS] at h
  | [], _ :: _, _, _, h => by simp [eqS] at h
  | _ :: _, [], _, _, h => by simp [eqS] at h
  | _ :: _, _ :: _, [], _, h => by simp [eqS] at h
  | c :: l, v :: x, u :: y, b, h => by
    simp only [eqS] at h
    obtain ⟨a, _, h⟩ := Option.bind_eq_some_iff.1 h
    obtain ⟨d, h, _⟩ := Option.map_eq_some_iff.1 h
    obtain ⟨h1, h2⟩ := eqS_length h
    simp [h1, h2]
theorem eqS_append : ∀ {l m : List CK} {x y : List AV} {b : Bool}, eqS (l ++ m) x y = some b → ∃ a c, eqS l (x.take l.length) (y.take l.length) = some a ∧ eqS m (x.drop l.length) (y.drop l.length) = some c ∧ b = (a && c)
  | [], m, x, y, b, h => ⟨true, b, by simp [eqS], by simpa using h, by simp⟩
  | c :: l, m, [], _, _, h => by simp [eqS] at h
  | c :: l, m, _ :: _, [], _, h => by simp [eqS] at h
  | c :: l, m, v :: x, u :: y, b, h => by
    simp only [List.cons_append, eqS] at h
    obtain ⟨a, ha, h⟩ := Option.bind_eq_some_iff.1 h
    obtain ⟨d, h', hd⟩ := Option.map_eq_some_iff.1 h
    subst hd
    obtain ⟨p, q, h1, h2, hpq⟩ := eqS_append h'
    subst hpq
    refine ⟨a && p, q, ?_, by simpa using h2, by simp [Bool.and_assoc]⟩
    simp only [List.length_cons, List.take_succ_cons, eqS, ha, Option.bind_some, h1, Option.map_some]
section
variable {cl : Nat → List AV → Heap → Out} {P : Program} {tb : Tab} {C : Ctx} {f : Fr} {a : Act} {nt : Nat}
def IsV (P : Program) (t : TypeId) (cs : List Value) (v : Value) : Prop := if aggT P t = true then v = .agg cs.toArray else cs = [v]
theorem shp_plain {d : Nat} {t : TypeId} {l : List CK} (h : shp P d t = some l) (ha : aggT P t = false) : l.length = 1 := by
  cases d with
  | zero => simp [shp] at h
  | succ d =>
    simp only [shp] at h
    simp only [aggT] at ha
    split at h <;> simp_all
    all_goals (subst h; rfl)
theorem shp_some {d : Nat} {t : TypeId} {l : List CK} (h : shp P d t = some l) : (P.underlying t).isSome = true := by
  cases d with
  | zero => simp [shp] at h
  | succ d =>
    simp only [shp] at h
    cases hu : P.underlying t with
    | none => rw [hu] at h; simp at h
    | some _ => rfl
theorem run_part_is {d : Nat} {t : TypeId} {l : List CK} (h : shp P d t = some l) (hc : l.length = P.cellsOf t) {cs : List Value} {off : Nat} (hle : off + l.length ≤ cs.length) (w : World) :
    ∃ v, (part t cs.toArray off).run P w = .ok v w ∧ IsV P t ((cs.drop off).take l.length) v := by
  have hu := shp_some h
  have hi : (P.info? t).isSome = true := by
    obtain ⟨d, hd⟩ := Option.isSome_iff_exists.1 hu
    exact info_of_underlying hd
  cases ha : aggT P t with
  | true =>
    refine ⟨.agg (cs.toArray.extract off (off + P.cellsOf t)), ?_, ?_⟩
    · simp only [part, Sem.run_bind, run_isAgg' t w hu, ha, Result.andThen_ok, if_true, run_sizeOf' hi, Sem.run_pure]
    · simp only [IsV, ha, if_true]
      congr 1
      rw [← Array.toList_inj, Array.toList_extract, hc]
      simp [List.extract]
  | false =>
    have h1 := shp_plain h ha
    have hlt : off < cs.length := by omega
    refine ⟨cs[off], ?_, ?_⟩
    · simp only [part, Sem.run_bind, run_isAgg' t w hu, ha, Result.andThen_ok, Bool.false_eq_true, if_false]
      simp [hlt]
    · simp only [IsV, ha, Bool.false_eq_true, if_false, h1]
      rw [List.drop_eq_getElem_cons hlt]
      rfl
def ckT : CK → TypeDesc
  | .b => .bool
  | .i k => .int k
  | .s => .string
theorem run_one {c : CK} {x y : AV} {v u : Value} {b : Bool} (h : eq1 c x y = some b) (rx : Rep C x v) (ry : Rep C y u) :
    (∃ p q, c = .b ∧ v = .bool p ∧ u = .bool q ∧ b = (p == q)) ∨ (∃ k p q, c = .i k ∧ v = .int k p ∧ u = .int k q ∧ b = (p == q)) ∨ ∃ p q : List UInt8, c = .s ∧ v = .string ⟨p.toArray⟩ ∧ u = .string ⟨q.toArray⟩ ∧ b = (p == q) := by
  unfold eq1 at h
  split at h
  · rename_i p q
    simp only [Option.some.injEq] at h
    exact .inl ⟨p, q, rfl, rx, ry, h.symm⟩
  · rename_i k k1 p k2 q
    split at h
    · rename_i hk
      obtain ⟨rfl, rfl⟩ := hk
      simp only [Option.some.injEq] at h
      exact .inr (.inl ⟨_, p, q, rfl, rx, ry, h.symm⟩)
    · cases h
  · rename_i p q
    simp only [Option.some.injEq] at h
    exact .inr (.inr ⟨p, q, rfl, rx, ry, h.symm⟩)
  · cases h
theorem run_eq_one (d : Nat) {c : CK} {t : TypeId} {x y : AV} {v u : Value} {b : Bool} (h : eq1 c x y = some b) (rx : Rep C x v) (ry : Rep C y u) (w : World)
    (ht : P.underlying t = some (ckT c)) : (Op.equalIn (d + 1) t v u).run P w = .ok b w := by
  rcases run_one h rx ry with ⟨p, q, rfl, rfl, rfl, rfl⟩ | ⟨k, p, q, rfl, rfl, rfl, rfl⟩ | ⟨p, q, rfl, rfl, rfl, rfl⟩
  · exact run_equalIn_bool' w d t p q ht
  · exact run_equalIn_int w d t k k p q ht
  · rw [run_equalIn_string w d t _ _ ht, bytes_toList, bytes_toList]
theorem one_of {x y : List AV} {cx cy : List Value} {c : CK} {b : Bool} (h : eqS [c] x y = some b) (rx : RepL C x cx) (ry : RepL C y cy) : ∃ a e v u, x = [a] ∧ y = [e] ∧ cx = [v] ∧ cy = [u] ∧ Rep C a v ∧ Rep C e u ∧ eq1 c a e = some b := by
  obtain ⟨h1, h2⟩ := eqS_length h
  match x, y, h1, h2 with
  | [p], [q], _, _ =>
    obtain ⟨v, r, e1, rv, e2⟩ := rx
    obtain ⟨u, r', e3, ru, e4⟩ := ry
    simp only [eqS] at h
    obtain ⟨b', hb, h⟩ := Option.bind_eq_some_iff.1 h
    simp only [Option.map_some, Option.some.injEq, Bool.and_true] at h
    subst h
    exact ⟨p, q, v, u, rfl, rfl, by rw [e1, show r = [] from e2], by rw [e3, show r' = [] from e4], rv, ru, hb⟩
def EqFor (P : Program) (C : Ctx) (dd : Nat) (t : TypeId) (l : List CK) : Prop :=
  ∀ (ax ay : List AV) (cx cy : List Value) (b : Bool) (x y : Value) (w : World), RepL C ax cx → RepL C ay cy → eqS l ax ay = some b → IsV P t cx x → IsV P t cy y → (Op.equalIn dd t x y).run P w = .ok b w
theorem run_fields (dd d : Nat) (IH : ∀ t l, shp P d t = some l → EqFor P C dd t l) : ∀ (fs : List Field) (pos : Nat) (l : List CK), shpF P (shp P d) pos fs = some l → ∀ (ax ay : List AV) (cx cy : List Value) (b : Bool) (w : World),
    RepL C ax (cx.drop pos) → RepL C ay (cy.drop pos) → eqS l ax ay = some b → (Op.eqFields dd cx.toArray cy.toArray fs).run P w = .ok b w
  | [], pos, l, h, ax, ay, cx, cy, b, w, rx, ry, e => by
    simp only [shpF, Option.some.injEq] at h
    subst h
    obtain ⟨h1, h2⟩ := eqS_length e
    match ax, ay, h1, h2 with
    | [], [], _, _ =>
      simp only [eqS, Option.some.injEq] at e
      subst e
      simp [Op.eqFields]
  | f :: fs, pos, l, h, ax, ay, cx, cy, b, w, rx, ry, e => by
    simp only [shpF] at h
    obtain ⟨m, hm, h⟩ := Option.bind_eq_some_iff.1 h
    split at h
    · rename_i hc
      obtain ⟨hoff, hname, hcells⟩ := hc
      obtain ⟨r, hr, rfl⟩ := Option.map_eq_some_iff.1 h
      obtain ⟨p, q, e1, e2, rfl⟩ := eqS_append e
      obtain ⟨n1, n2⟩ := eqS_length e
      rw [List.length_append] at n1 n2
      have lx := rx.length
      have ly := ry.length
      rw [List.length_drop] at lx ly
      by_cases h0 : m.length = 0
      · -- an empty part
        obtain ⟨v, hv, iv⟩ : ∃ v, (part f.type cx.toArray f.offset).run P w = .ok v w ∧ IsV P f.type ((cx.drop f.offset).take m.length) v := by
          cases ha : aggT P f.type with
          | false => have := shp_plain hm ha; omega
          | true =>
            have hu := shp_some hm
            have hi : (P.info? f.type).isSome = true := by
              obtain ⟨d, hd⟩ := Option.isSome_iff_exists.1 hu
              exact info_of_underlying hd
            refine ⟨.agg (cx.toArray.extract f.offset (f.offset + P.cellsOf f.type)), ?_, ?_⟩
            · simp only [part, Sem.run_bind, run_isAgg' f.type w hu, ha, Result.andThen_ok, if_true, run_sizeOf' hi, Sem.run_pure]
            · simp only [IsV, ha, if_true]
              congr 1
              rw [← Array.toList_inj, Array.toList_extract, hcells]
              simp [List.extract]
        obtain ⟨u, hu', iu⟩ : ∃ v, (part f.type cy.toArray f.offset).run P w = .ok v w ∧ IsV P f.type ((cy.drop f.offset).take m.length) v := by
          cases ha : aggT P f.type with
          | false => have := shp_plain hm ha; omega
          | true =>
            have hu := shp_some hm
            have hi : (P.info? f.type).isSome = true := by
              obtain ⟨d, hd⟩ := Option.isSome_iff_exists.1 hu
              exact info_of_underlying hd
            refine ⟨.agg (cy.toArray.extract f.offset (f.offset + P.cellsOf f.type)), ?_, ?_⟩
            · simp only [part, Sem.run_bind, run_isAgg' f.type w hu, ha, Result.andThen_ok, if_true, run_sizeOf' hi, Sem.run_pure]
            · simp only [IsV, ha, if_true]
              congr 1
              rw [← Array.toList_inj, Array.toList_extract, hcells]
              simp [List.extract]
        have hq := IH f.type m hm _ _ _ _ _ v u w (by rw [hoff]; exact rx.take) (by rw [hoff]; exact ry.take) e1 iv iu
        simp only [Op.eqFields, hname, ne_eq, not_false_eq_true, if_true, Sem.run_bind, hv, hu', hq, Result.andThen_ok]
        cases p
        · simp
        · simp only [Bool.not_true, Bool.false_eq_true, if_false, Bool.true_and]
          exact run_fields dd d IH fs _ r hr _ _ cx cy q w (by rw [← List.drop_drop]; exact rx.drop) (by rw [← List.drop_drop]; exact ry.drop) e2
      · obtain ⟨v, hv, iv⟩ := run_part_is (P := P) hm hcells (cs := cx) (off := f.offset) (by omega) w
        obtain ⟨u, hu, iu⟩ := run_part_is (P := P) hm hcells (cs := cy) (off := f.offset) (by omega) w
        have hq := IH f.type m hm _ _ _ _ _ v u w (by rw [hoff]; exact rx.take) (by rw [hoff]; exact ry.take) e1 iv iu
        simp only [Op.eqFields, hname, ne_eq, not_false_eq_true, if_true, Sem.run_bind, hv, hu, hq, Result.andThen_ok]
        cases p
        · simp
        · simp only [Bool.not_true, Bool.false_eq_true, if_false, Bool.true_and]
          exact run_fields dd d IH fs _ r hr _ _ cx cy q w (by rw [← List.drop_drop]; exact rx.drop) (by rw [← List.drop_drop]; exact ry.drop) e2
    · cases h
theorem run_items (dd : Nat) {e : TypeId} {d : Nat} {m : List CK} (hm : shp P d e = some m) (hc : m.length = P.cellsOf e) (hz : aggT P e = true ∨ 0 < m.length) (IH : EqFor P C dd e m) : ∀ (n pos : Nat) (ax ay : List AV) (cx cy : List Value) (b : Bool) (w : World),
    RepL C ax (cx.drop (pos * m.length)) → RepL C ay (cy.drop (pos * m.length)) → eqS (List.replicate n m).flatten ax ay = some b → (Op.eqItems dd e (P.cellsOf e) cx.toArray cy.toArray (List.range' pos n)).run P w = .ok b w
  | 0, pos, ax, ay, cx, cy, b, w, rx, ry, h => by
    simp only [List.replicate_zero, List.flatten_nil] at h
    obtain ⟨h1, h2⟩ := eqS_length h
    match ax, ay, h1, h2 with
    | [], [], _, _ =>
      simp only [eqS, Option.some.injEq] at h
      subst h
      simp [Op.eqItems]
  | n + 1, pos, ax, ay, cx, cy, b, w, rx, ry, h => by
    rw [List.replicate_succ, List.flatten_cons] at h
    obtain ⟨p, q, e1, e2, rfl⟩ := eqS_append h
    obtain ⟨n1, n2⟩ := eqS_length h
    rw [List.length_append] at n1 n2
    have lx := rx.length
    have ly := ry.length
    rw [List.length_drop] at lx ly
    have prt : ∀ cs : List Value, pos * m.length + m.length ≤ cs.length ∨ (m.length = 0 ∧ aggT P e = true) → ∃ v, (part e cs.toArray (pos * P.cellsOf e)).run P w = .ok v w ∧ IsV P e ((cs.drop (pos * m.length)).take m.length) v := by
      intro cs hcs
      rw [← hc]
      rcases hcs with hcs | ⟨h0, ha⟩
      · exact run_part_is (P := P) hm hc hcs w
      · have hu := shp_some hm
        have hi : (P.info? e).isSome = true := by
          obtain ⟨d, hd⟩ := Option.isSome_iff_exists.1 hu
          exact info_of_underlying hd
        refine ⟨.agg (cs.toArray.extract (pos * m.length) (pos * m.length + P.cellsOf e)), ?_, ?_⟩
        · simp only [part, Sem.run_bind, run_isAgg' e w hu, ha, Result.andThen_ok, if_true, run_sizeOf' hi, Sem.run_pure]
        · simp only [IsV, ha, if_true]
          congr 1
          rw [← Array.toList_inj, Array.toList_extract, ← hc]
          simp [List.extract]
    obtain ⟨v, hv, iv⟩ := prt cx (by
      rcases Nat.eq_zero_or_pos m.length with h0 | h0
      · exact .inr ⟨h0, hz.resolve_right (by omega)⟩
      · left; omega)
    obtain ⟨u, hu, iu⟩ := prt cy (by
      rcases Nat.eq_zero_or_pos m.length with h0 | h0
      · exact .inr ⟨h0, hz.resolve_right (by omega)⟩
      · left; omega)
    have hq := IH _ _ _ _ _ v u w rx.take ry.take e1 iv iu
    simp only [List.range'_succ, Op.eqItems, Sem.run_bind, hv, hu, hq, Result.andThen_ok]
    cases p
    · simp
    · simp only [Bool.not_true, Bool.false_eq_true, if_false, Bool.true_and]
      refine run_items dd hm hc hz IH n (pos + 1) _ _ cx cy q w ?_ ?_ e2
      · rw [Nat.succ_mul, ← List.drop_drop]; exact rx.drop
      · rw [Nat.succ_mul, ← List.drop_drop]; exact ry.drop
theorem eq_sound (k : Nat) : ∀ (d : Nat) (t : TypeId) (l : List CK), shp P d t = some l → EqFor P C (k + d) t l
  | 0, _, _, h => by simp [shp] at h
  | d + 1, t, l, h => by
    intro ax ay cx cy b x y w rx ry e ix iy
    simp only [shp] at h
    have plain : ∀ c : CK, l = [c] → P.underlying t = some (ckT c) → (Op.equalIn (k + (d + 1)) t x y).run P w = .ok b w := by
      intro c hl hu
      subst hl
      obtain ⟨p, q, v, u, rfl, rfl, rfl, rfl, rv, ru, h1⟩ := one_of e rx ry
      have hag : aggT P t = false := by
        simp only [aggT, hu]
        cases c <;> rfl
      simp only [IsV, hag, Bool.false_eq_true, if_false, List.cons.injEq, and_true] at ix iy
      subst ix; subst iy
      exact run_eq_one (k + d) h1 rv ru w hu
    split at h
    · rename_i hu; exact plain .b (by simpa using h.symm) hu
    · rename_i q hu; exact plain (.i q) (by simpa using h.symm) hu
    · rename_i hu; exact plain .s (by simpa using h.symm) hu
    · rename_i fs hu
      split at h
      · cases h
      · rename_i hst
        have hag : aggT P t = true := by simp only [aggT, hu]
        simp only [IsV, hag, if_true] at ix iy
        subst ix; subst iy
        have hf : P.fieldsOf t = fs := by simp only [Program.fieldsOf, hu]
        rw [show k + (d + 1) = (k + d) + 1 from rfl, run_equalIn_struct w (k + d) t _ _ (by rw [hf]; exact hu) (by simpa using hst), hf]
        exact run_fields (k + d) d (fun t l => eq_sound k d t l) fs.toList 0 l h _ _ cx cy b w (by simpa using rx) (by simpa using ry) e
    · rename_i n el hu
      obtain ⟨m, hm, h⟩ := Option.bind_eq_some_iff.1 h
      split at h
      · rename_i hc
        obtain rfl := Option.some.inj h
        have hag : aggT P t = true := by simp only [aggT, hu]
        simp only [IsV, hag, if_true] at ix iy
        subst ix; subst iy
        obtain ⟨i, hi⟩ : ∃ i, P.info? el = some i := by
          obtain ⟨dd, hd⟩ := Option.isSome_iff_exists.1 (shp_some hm)
          exact Option.isSome_iff_exists.1 (info_of_underlying hd)
        rw [show k + (d + 1) = (k + d) + 1 from rfl, run_equalIn_array w (k + d) _ _ hu hi, List.range_eq_range']
        refine run_items (k + d) hm hc ?_ (eq_sound k d el m hm) n 0 _ _ cx cy b w (by simpa using rx) (by simpa using ry) e
        cases ha : aggT P el with
        | true => exact .inl rfl
        | false => right; have := shp_plain hm ha; omega
      · cases h
    · cases h
end
end Go.Proofs.YtoegmdfkcaojlaaGreat.Am
namespace Go.Proofs.YtoegmdfkcaojlaaGreat.Am
section
variable {cl : Nat → List AV → Heap → Out} {P : Program} {tb : Tab} {C : Ctx} {f : Fr} {a : Act} {nt : Nat}
def okEK (P : Program) (ek : EK) (t : TypeId) : Bool :=
  match ek, P.underlying t with
  | .one .b, some .bool => true
  | .agg l, some (.struct _) => decide (shp P 50 t = some l) && !P.eqGuardType P.depth t
  | .agg l, some (.array _ _) => decide (shp P 50 t = some l) && !P.eqGuardType P.depth t
  | .p, some (.pointer _) => true
  | .m, some (.map _ _) => true
  | .f, some (.func _ _ _) => true
  | .n, some (.interface _) => true
  | .sl, some (.slice _) => true
  | _, _ => false
theorem run_equal_of {op : BinOp} {t : TypeId} {x y : Value} {b : Bool} {w : World} (h : (Op.equalIn 10000 t x y).run P w = .ok b w) (hb : (∃ p q, x = .bool p ∧ y = .bool q) ∨ (∃ p q, x = .agg p ∧ y = .agg q) ∨ (∃ p q, x = .pointer p ∧ y = .pointer q) ∨
    (∃ p q, x = .map p ∧ y = .map q) ∨ (x = .nilFunc ∨ y = .nilFunc) ∧ (∀ k n, x ≠ .int k n ∧ y ≠ .int k n) ∨ (x = .nilIface ∨ y = .nilIface) ∧ (∀ k n, x ≠ .int k n ∧ y ≠ .int k n) ∨ (∃ p l c q l' c', x = .slice p l c ∧ y = .slice q l' c')) :
    (op = .eql → (Go.binOp op t x y).run P w = .ok (.bool b) w) ∧ (op = .neq → (Go.binOp op t x y).run P w = .ok (.bool (!b)) w) := by
  have h' : (Op.equal t x y).run P w = .ok b w := h
  constructor <;> rintro rfl
  · rcases hb with ⟨p, q, rfl, rfl⟩ | ⟨p, q, rfl, rfl⟩ | ⟨p, q, rfl, rfl⟩ | ⟨p, q, rfl, rfl⟩ | ⟨rfl | rfl, _⟩ | ⟨rfl | rfl, _⟩ | ⟨p, l, c, q, l', c', rfl, rfl⟩ <;>
      first
      | (simp only [Go.binOp, Sem.run_bind, h', Result.andThen_ok, Sem.run_pure]; done)
      | (cases x <;> simp only [Go.binOp, Sem.run_bind, h', Result.andThen_ok, Sem.run_pure])
      | (cases y <;> simp only [Go.binOp, Sem.run_bind, h', Result.andThen_ok, Sem.run_pure])
  · rcases hb with ⟨p, q, rfl, rfl⟩ | ⟨p, q, rfl, rfl⟩ | ⟨p, q, rfl, rfl⟩ | ⟨p, q, rfl, rfl⟩ | ⟨rfl | rfl, _⟩ | ⟨rfl | rfl, _⟩ | ⟨p, l, c, q, l', c', rfl, rfl⟩ <;>
      first
      | (simp only [Go.binOp, Sem.run_bind, h', Result.andThen_ok, Sem.run_pure]; done)
      | (cases x <;> simp only [Go.binOp, Sem.run_bind, h', Result.andThen_ok, Sem.run_pure])
      | (cases y <;> simp only [Go.binOp, Sem.run_bind, h', Result.andThen_ok, Sem.run_pure])
theorem agg_sound {t : TypeId} {l : List CK} {x y : List AV} {v u : Value} {b : Bool} (hu : aggT P t = true) (hk : shp P 50 t = some l) (hg : P.eqGuardType P.depth t = false) (h : eqS l x y = some b) (rx : Rep C (.agg x) v) (ry : Rep C (.agg y) u) (p q : Operand) (w : World) :
    (∀ op, (eqGuard op t p q v u).run P w = .ok () w) ∧ ∀ op, (op = .eql → (Go.binOp op t v u).run P w = .ok (.bool b) w) ∧ (op = .neq → (Go.binOp op t v u).run P w = .ok (.bool (!b)) w) := by
  obtain ⟨cx, rfl, _, r1⟩ := rx
  obtain ⟨cy, rfl, _, r2⟩ := ry
  refine ⟨fun op => run_eqGuard_agg w op t p q _ _ hg, fun op => run_equal_of (eq_sound (C := C) 9950 50 t l hk _ _ cx cy b _ _ w r1 r2 h ?_ ?_) (.inr (.inl ⟨_, _, rfl, rfl⟩))⟩
  · simp only [IsV, hu, if_true]
  · simp only [IsV, hu, if_true]
theorem guard_of {t : TypeId} {v u : Value} (p q : Operand) (w : World) (h1 : ∀ l, v ≠ .agg l) (h2 : v ≠ .nilIface ∨ u ≠ .nilIface) : ∀ op, (eqGuard op t p q v u).run P w = .ok () w := by
  intro op
  cases v <;> first
    | exact absurd rfl (h1 _)
    | (simp only [eqGuard]; split <;> rfl)
    | (cases u <;> first
        | exact absurd rfl (h2.resolve_left fun h => h rfl)
        | (simp only [eqGuard]; split <;> rfl))
theorem eqIn_ptr (d : Nat) {t e : TypeId} (hu : P.underlying t = some (.pointer e)) {o1 o2 : Option Addr} {b : Bool} (h : (o1 = none ∧ b = o2.isNone) ∨ (o2 = none ∧ o1.isSome = true ∧ b = false)) (w : World) :
    (Op.equalIn (d + 1) t (.pointer o1) (.pointer o2)).run P w = .ok b w := by
  rcases h with ⟨rfl, rfl⟩ | ⟨rfl, h1, rfl⟩
  · simp only [Op.equalIn, Sem.run_bind, run_underlying' hu, Result.andThen_ok, Sem.run_pure]
  · cases o1 with
    | none => cases h1
    | some a => simp only [Op.equalIn, Sem.run_bind, run_underlying' hu, Result.andThen_ok, Sem.run_pure]
theorem eqIn_map (d : Nat) {t k e : TypeId} (hu : P.underlying t = some (.map k e)) {o1 o2 : Option Nat} {b : Bool} (h : (o1 = none ∧ b = o2.isNone) ∨ (o2 = none ∧ o1.isSome = true ∧ b = false)) (w : World) :
    (Op.equalIn (d + 1) t (.map o1) (.map o2)).run P w = .ok b w := by
  rcases h with ⟨rfl, rfl⟩ | ⟨rfl, h1, rfl⟩
  · simp only [Op.equalIn, Sem.run_bind, run_underlying' hu, Result.andThen_ok, Sem.run_pure]
  · cases o1 with
    | none => cases h1
    | some a => simp only [Op.equalIn, Sem.run_bind, run_underlying' hu, Result.andThen_ok, Sem.run_pure]
theorem eqIn_fnn (d : Nat) {t : TypeId} {x1 x2 x3} (hu : P.underlying t = some (.func x1 x2 x3)) (w : World) : (Op.equalIn (d + 1) t .nilFunc .nilFunc).run P w = .ok true w := by
  simp only [Op.equalIn, Sem.run_bind, run_underlying' hu, Result.andThen_ok, Sem.run_pure]
theorem eqIn_fnf (d : Nat) {t : TypeId} {x1 x2 x3} (hu : P.underlying t = some (.func x1 x2 x3)) {p q r} (w : World) : (Op.equalIn (d + 1) t .nilFunc (.func p q r)).run P w = .ok false w := by
  simp only [Op.equalIn, Sem.run_bind, run_underlying' hu, Result.andThen_ok, Sem.run_pure]
theorem eqIn_ffn (d : Nat) {t : TypeId} {x1 x2 x3} (hu : P.underlying t = some (.func x1 x2 x3)) {p q r} (w : World) : (Op.equalIn (d + 1) t (.func p q r) .nilFunc).run P w = .ok false w := by
  simp only [Op.equalIn, Sem.run_bind, run_underlying' hu, Result.andThen_ok, Sem.run_pure]
theorem eqIn_ni (d : Nat) {t : TypeId} {x1} (hu : P.underlying t = some (.interface x1)) {p q} (w : World) : (Op.equalIn (d + 1) t .nilIface (.iface p q)).run P w = .ok false w := by
  simp only [Op.equalIn, Sem.run_bind, run_underlying' hu, Result.andThen_ok, Sem.run_pure]
theorem eqIn_in (d : Nat) {t : TypeId} {x1} (hu : P.underlying t = some (.interface x1)) {p q} (w : World) : (Op.equalIn (d + 1) t (.iface p q) .nilIface).run P w = .ok false w := by
  simp only [Op.equalIn, Sem.run_bind, run_underlying' hu, Result.andThen_ok, Sem.run_pure]
theorem eqIn_sl (d : Nat) {t e : TypeId} (hu : P.underlying t = some (.slice e)) {o1 o2 : Option Addr} {l c l' c' : Nat} {b : Bool} (h : (o1 = none ∧ b = o2.isNone) ∨ (o2 = none ∧ o1.isSome = true ∧ b = false)) (w : World) :
    (Op.equalIn (d + 1) t (.slice o1 l c) (.slice o2 l' c')).run P w = .ok b w := by
  rcases h with ⟨rfl, rfl⟩ | ⟨rfl, h1, rfl⟩
  · simp only [Op.equalIn, Sem.run_bind, run_underlying' hu, Result.andThen_ok, Sem.run_pure]
  · cases o1 with
    | none => cases h1
    | some a => simp only [Op.equalIn, Sem.run_bind, run_underlying' hu, Result.andThen_ok, Sem.run_pure]
theorem eqK_sound {ek : EK} {t : TypeId} {x y : AV} {v u : Value} {b : Bool} (hk : okEK P ek t = true) (h : eqK ek x y = some b) (rx : Rep C x v) (ry : Rep C y u) (p q : Operand) (w : World) :
    (∀ op, (eqGuard op t p q v u).run P w = .ok () w) ∧ ∀ op, (op = .eql → (Go.binOp op t v u).run P w = .ok (.bool b) w) ∧ (op = .neq → (Go.binOp op t v u).run P w = .ok (.bool (!b)) w) := by
  unfold okEK at hk
  split at hk
  · rename_i hu
    simp only [eqK] at h
    rcases run_one h rx ry with ⟨p, q, _, rfl, rfl, rfl⟩ | ⟨k, p, q, e, _⟩ | ⟨p, q, e, _⟩
    · exact ⟨fun op => by cases op <;> rfl, fun op => run_equal_of (run_equalIn_bool' w 9999 t p q hu) (.inl ⟨_, _, rfl, rfl⟩)⟩
    · cases e
    · cases e
  · rename_i l fs hu
    simp only [Bool.and_eq_true, decide_eq_true_eq, Bool.not_eq_true'] at hk
    unfold eqK at h
    split at h <;> first | contradiction | skip
    rename_i l' cx cy e
    cases e
    exact agg_sound (by simp only [aggT, hu]) hk.1 hk.2 h rx ry p q w
  · rename_i l n e hu
    simp only [Bool.and_eq_true, decide_eq_true_eq, Bool.not_eq_true'] at hk
    unfold eqK at h
    split at h <;> first | contradiction | skip
    rename_i l' cx cy e
    cases e
    exact agg_sound (by simp only [aggT, hu]) hk.1 hk.2 h rx ry p q w
  · rename_i e hu
    have fin : ∀ (o1 o2 : Option Addr), v = .pointer o1 → u = .pointer o2 → ((o1 = none ∧ b = o2.isNone) ∨ (o2 = none ∧ o1.isSome = true ∧ b = false)) →
        (∀ op, (eqGuard op t p q v u).run P w = .ok () w) ∧ ∀ op, (op = .eql → (Go.binOp op t v u).run P w = .ok (.bool b) w) ∧ (op = .neq → (Go.binOp op t v u).run P w = .ok (.bool (!b)) w) := by
      rintro o1 o2 rfl rfl hh
      refine ⟨guard_of p q w (fun l e => by cases e) (.inl fun e => by cases e), fun op => run_equal_of ?_ (.inr (.inr (.inl ⟨_, _, rfl, rfl⟩)))⟩
      exact eqIn_ptr 9999 hu hh w
    unfold eqK at h
    split at h <;> first | contradiction | (simp only [Option.some.injEq] at h; subst h)
    · exact fin none none rx ry (.inl ⟨rfl, rfl⟩)
    · exact fin none _ rx ry.2 (.inl ⟨rfl, rfl⟩)
    · obtain ⟨⟨a, e⟩, _⟩ := ry; exact fin none _ rx e (.inl ⟨rfl, rfl⟩)
    · obtain ⟨_, _, _, e, _⟩ := ry; exact fin none _ rx e (.inl ⟨rfl, rfl⟩)
    · exact fin _ none rx.2 ry (.inr ⟨rfl, rfl, rfl⟩)
    · obtain ⟨⟨a, e⟩, _⟩ := rx; exact fin _ none e ry (.inr ⟨rfl, rfl, rfl⟩)
    · obtain ⟨_, _, _, e, _⟩ := rx; exact fin _ none e ry (.inr ⟨rfl, rfl, rfl⟩)
  · rename_i k e hu
    have fin : ∀ (o1 o2 : Option Nat), v = .map o1 → u = .map o2 → ((o1 = none ∧ b = o2.isNone) ∨ (o2 = none ∧ o1.isSome = true ∧ b = false)) →
        (∀ op, (eqGuard op t p q v u).run P w = .ok () w) ∧ ∀ op, (op = .eql → (Go.binOp op t v u).run P w = .ok (.bool b) w) ∧ (op = .neq → (Go.binOp op t v u).run P w = .ok (.bool (!b)) w) := by
      rintro o1 o2 rfl rfl hh
      refine ⟨guard_of p q w (fun l e => by cases e) (.inl fun e => by cases e), fun op => run_equal_of ?_ (.inr (.inr (.inr (.inl ⟨_, _, rfl, rfl⟩))))⟩
      exact eqIn_map 9999 hu hh w
    unfold eqK at h
    split at h <;> first | contradiction | (simp only [Option.some.injEq] at h; subst h)
    · exact fin none none rx ry (.inl ⟨rfl, rfl⟩)
    · exact fin none _ rx ry.2 (.inl ⟨rfl, rfl⟩)
    · exact fin _ none rx.2 ry (.inr ⟨rfl, rfl, rfl⟩)
  · rename_i x1 x2 x3 hu
    have fin : (Op.equalIn 10000 t v u).run P w = .ok b w → (v = .nilFunc ∨ u = .nilFunc) ∧ (∀ k n, v ≠ .int k n ∧ u ≠ .int k n) → (∀ l, v ≠ .agg l) → v ≠ .nilIface →
        (∀ op, (eqGuard op t p q v u).run P w = .ok () w) ∧ ∀ op, (op = .eql → (Go.binOp op t v u).run P w = .ok (.bool b) w) ∧ (op = .neq → (Go.binOp op t v u).run P w = .ok (.bool (!b)) w) :=
      fun h1 h2 h3 h4 => ⟨guard_of p q w h3 (.inl h4), fun op => run_equal_of h1 (.inr (.inr (.inr (.inr (.inl h2)))))⟩
    unfold eqK at h
    split at h <;> first | contradiction | (simp only [Option.some.injEq] at h; subst h)
    · obtain rfl := show v = .nilFunc from rx
      obtain rfl := show u = .nilFunc from ry
      exact fin (eqIn_fnn 9999 hu w) ⟨.inl rfl, fun _ _ => ⟨fun e => (by cases e), fun e => (by cases e)⟩⟩ (fun _ e => by cases e) (fun e => by cases e)
    · obtain rfl := show v = .nilFunc from rx
      obtain ⟨_, _, rfl, _⟩ := ry
      exact fin (eqIn_fnf 9999 hu w) ⟨.inl rfl, fun _ _ => ⟨fun e => (by cases e), fun e => (by cases e)⟩⟩ (fun _ e => by cases e) (fun e => by cases e)
    · obtain rfl := show u = .nilFunc from ry
      obtain ⟨_, _, rfl, _⟩ := rx
      exact fin (eqIn_ffn 9999 hu w) ⟨.inr rfl, fun _ _ => ⟨fun e => (by cases e), fun e => (by cases e)⟩⟩ (fun _ e => by cases e) (fun e => by cases e)
  · rename_i x1 hu
    have fin : (Op.equalIn 10000 t v u).run P w = .ok b w → (v = .nilIface ∨ u = .nilIface) ∧ (∀ k n, v ≠ .int k n ∧ u ≠ .int k n) → (∀ l, v ≠ .agg l) → (v ≠ .nilIface ∨ u ≠ .nilIface) →
        (∀ op, (eqGuard op t p q v u).run P w = .ok () w) ∧ ∀ op, (op = .eql → (Go.binOp op t v u).run P w = .ok (.bool b) w) ∧ (op = .neq → (Go.binOp op t v u).run P w = .ok (.bool (!b)) w) :=
      fun h1 h2 h3 h4 => ⟨guard_of p q w h3 h4, fun op => run_equal_of h1 (.inr (.inr (.inr (.inr (.inr (.inl h2))))))⟩
    unfold eqK at h
    split at h <;> first | contradiction | (simp only [Option.some.injEq] at h; subst h)
    · obtain rfl := show v = .nilIface from rx
      obtain ⟨_, _, rfl, _⟩ := ry
      exact fin (eqIn_ni 9999 hu w) ⟨.inl rfl, fun _ _ => ⟨fun e => (by cases e), fun e => (by cases e)⟩⟩ (fun _ e => by cases e) (.inr fun e => by cases e)
    · obtain rfl := show u = .nilIface from ry
      obtain ⟨_, _, rfl, _⟩ := rx
      exact fin (eqIn_in 9999 hu w) ⟨.inr rfl, fun _ _ => ⟨fun e => (by cases e), fun e => (by cases e)⟩⟩ (fun _ e => by cases e) (.inl fun e => by cases e)
  · rename_i x1 hu
    have fin : ∀ (o1 o2 : Option Addr) (l c l' c' : Nat), v = .slice o1 l c → u = .slice o2 l' c' → ((o1 = none ∧ b = o2.isNone) ∨ (o2 = none ∧ o1.isSome = true ∧ b = false)) →
        (∀ op, (eqGuard op t p q v u).run P w = .ok () w) ∧ ∀ op, (op = .eql → (Go.binOp op t v u).run P w = .ok (.bool b) w) ∧ (op = .neq → (Go.binOp op t v u).run P w = .ok (.bool (!b)) w) := by
      rintro o1 o2 l c l' c' rfl rfl hh
      refine ⟨guard_of p q w (fun l e => by cases e) (.inl fun e => by cases e), fun op => run_equal_of ?_ (.inr (.inr (.inr (.inr (.inr (.inr ⟨_, _, _, _, _, _, rfl, rfl⟩))))))⟩
      exact eqIn_sl 9999 hu hh w
    have some_sl : ∀ {sz els y}, Rep C (.sl sz els) y → ∃ o l c, y = .slice (some o) l c := by
      intro sz els y r
      rcases r with ⟨_, _, _, _, e, _⟩ | ⟨_, _, _, e⟩ <;> exact ⟨_, _, _, e⟩
    have some_or : ∀ {id n lo len y}, Rep C (.orow id n lo len) y → ∃ o l c, y = .slice (some o) l c := by
      intro id n lo len y r
      obtain ⟨⟨_, _, e⟩, _⟩ := r
      exact ⟨_, _, _, e⟩
    have some_oc : ∀ {id n lo len y}, Rep C (.ocel id n lo len) y → ∃ o l c, y = .slice (some o) l c := by
      intro id n lo len y r
      obtain ⟨_, _, _, e, _⟩ := r
      exact ⟨_, _, _, e⟩
    unfold eqK at h
    split at h <;> first | contradiction | (simp only [Option.some.injEq] at h; subst h)
    · exact fin none none _ _ _ _ rx ry (.inl ⟨rfl, rfl⟩)
    · obtain ⟨o, l, c, e⟩ := some_sl rx; exact fin _ none _ _ _ _ e ry (.inr ⟨rfl, rfl, rfl⟩)
    · obtain ⟨o, l, c, e⟩ := some_or rx; exact fin _ none _ _ _ _ e ry (.inr ⟨rfl, rfl, rfl⟩)
    · obtain ⟨o, l, c, e⟩ := some_oc rx; exact fin _ none _ _ _ _ e ry (.inr ⟨rfl, rfl, rfl⟩)
    · obtain ⟨o, l, c, e⟩ := some_sl ry; exact fin none _ _ _ _ _ rx e (.inl ⟨rfl, rfl⟩)
    · obtain ⟨o, l, c, e⟩ := some_or ry; exact fin none _ _ _ _ _ rx e (.inl ⟨rfl, rfl⟩)
    · obtain ⟨o, l, c, e⟩ := some_oc ry; exact fin none _ _ _ _ _ rx e (.inl ⟨rfl, rfl⟩)
  · cases hk
theorem sim_eq (I : Inv tb C) (F : FrRel C f a nt) {o : Oper} {op : BinOp} {t u : TypeId} {ek : EK} {neg : Bool} {x1 x2 : AO} {y1 y2 : Operand} (ho : o.op = .binOp op t y1 y2 u) (hop : op = if neg then .neq else .eql) (hk : okEK P ek t = true)
    (h1 : okAO x1 y1 = true) (h2 : okAO x2 y2 = true) {b : Bool} (h : eqK ek (eval tb f x1) (eval tb f x2) = some b) : Yields tb C (.b (if neg then !b else b), none) ((execOp a.eval o).run P C.w) := by
  obtain ⟨q1, q2⟩ := eqK_sound hk h (rep_eval I F h1) (rep_eval I F h2) y1 y2 C.w
  cases neg with
  | true =>
    simp only [if_true] at hop
    refine yields_pure I (v := .bool (!b)) ?_ rfl
    simp only [execOp, ho, Sem.run_bind, q1 op, Result.andThen_ok, (q2 op).2 hop, Sem.run_pure]
  | false =>
    simp only [Bool.false_eq_true, if_false] at hop
    refine yields_pure I (v := .bool b) ?_ rfl
    simp only [execOp, ho, Sem.run_bind, q1 op, Result.andThen_ok, (q2 op).1 hop, Sem.run_pure]
end
end Go.Proofs.YtoegmdfkcaojlaaGreat.Am
namespace Go.Proofs.YtoegmdfkcaojlaaGreat.Am
section
variable {cl : Nat → List AV → Heap → Out} {P : Program} {tb : Tab} {C : Ctx} {f : Fr} {a : Act} {nt : Nat}
theorem foldl_splice : ∀ (l : List Value) (off k : Nat) (cs : Array Value), off + k + l.length ≤ cs.size →
    ((l.zipIdx k).foldl (fun cs (p : Value × Nat) => cs.setIfInBounds (off + p.2) p.1) cs).toList = cs.toList.take (off + k) ++ l ++ cs.toList.drop (off + k + l.length)
  | [], off, k, cs, _ => by simp
  | v :: l, off, k, cs, h => by
    simp only [List.length_cons] at h
    rw [List.zipIdx_cons, List.foldl_cons]
    rw [foldl_splice l off (k + 1) _ (by simp only [Array.size_setIfInBounds]; omega)]
    simp only [Array.toList_setIfInBounds]
    have hlt : off + k < cs.toList.length := by simp only [Array.length_toList]; omega
    rw [← Nat.add_assoc, List.take_set, List.drop_set_of_lt (by omega)]
    have ht : (cs.toList.take (off + k + 1)).set (off + k) v = cs.toList.take (off + k) ++ [v] := by
      rw [List.take_succ_eq_append_getElem hlt, List.set_append_right _ _ (by simp only [List.length_take]; omega)]
      simp only [List.length_take]
      rw [show off + k - min (off + k) cs.toList.length = 0 by omega]
      rfl
    rw [ht]
    simp only [List.length_cons]
    rw [show off + k + 1 + l.length = off + k + (l.length + 1) by omega]
    simp
def okParts (place : Nat → Option (Nat × Nat)) : List (Nat × Nat × AO) → List (Nat × Operand) → Bool
  | [], [] => true
  | (off, n, x) :: r, (i, y) :: q => (match place i with
    | some (off', n') => Nat.beq off off' && Nat.beq n n'
    | none => false) && Nat.blt 0 n && okAO x y && okParts place r q
  | _, _ => false
theorem okParts_spec {place : Nat → Option (Nat × Nat)} {off n i : Nat} {x : AO} {y : Operand} {r : List (Nat × Nat × AO)} {q : List (Nat × Operand)} (h : okParts place ((off, n, x) :: r) ((i, y) :: q) = true) :
    place i = some (off, n) ∧ 0 < n ∧ okAO x y = true ∧ okParts place r q = true := by
  simp only [okParts, Bool.and_eq_true] at h
  obtain ⟨⟨⟨h1, h2⟩, h3⟩, h4⟩ := h
  refine ⟨?_, by simpa using h2, h3, h4⟩
  split at h1
  · rename_i o' n' hp
    simp only [Bool.and_eq_true, Nat.beq_eq] at h1
    rw [hp, h1.1, h1.2]
  · cases h1
theorem fill_cons {place : Nat → Option (Nat × Nat)} {cells : Array Value} {i off n : Nat} {v : Value} {rest : List (Nat × Value)} (hp : place i = some (off, n)) (hn : v.cells.size = n) (hle : off + n ≤ cells.size) :
    ∃ cells' : Array Value, Instr.fill place cells ((i, v) :: rest) = Instr.fill place cells' rest ∧ cells'.toList = cells.toList.take off ++ v.cells.toList ++ cells.toList.drop (off + v.cells.toList.length) := by
  refine ⟨v.cells.zipIdx.foldl (fun cs (c, j) => cs.setIfInBounds (off + j) c) cells, ?_, ?_⟩
  · simp only [Instr.fill, hp]
    rw [if_neg]
    simp
    omega
  · rw [← Array.foldl_toList, Array.toList_zipIdx]
    have := foldl_splice v.cells.toList off 0 cells (by simp; omega)
    simpa using this
theorem fill_rep (I : Inv tb C) (F : FrRel C f a nt) {place : Nat → Option (Nat × Nat)} : ∀ (ps : List (Nat × Nat × AO)) (ys : List (Nat × Operand)), okParts place ps ys = true → ∀ {cs cs' : List AV} {cells : Array Value}, RepL C cs cells.toList → cs.all scal = true →
    fillL cs (eval tb f) ps = some cs' → ∃ cells', Instr.fill place cells (ys.map fun (i, y) => (i, a.eval y)) = some cells' ∧ RepL C cs' cells'.toList ∧ cs'.all scal = true
  | [], [], _, cs, cs', cells, hr, hs, h => by
    simp only [fillL, Option.some.injEq] at h
    subst h
    exact ⟨cells, rfl, hr, hs⟩
  | [], _ :: _, h, _, _, _, _, _, _ => by simp [okParts] at h
  | (_, _, _) :: _, [], h, _, _, _, _, _, _ => by simp [okParts] at h
  | (off, n, x) :: ps, (i, y) :: ys, hok, cs, cs', cells, hr, hs, h => by
    obtain ⟨h1, h2, h3, h4⟩ := okParts_spec hok
    simp only [fillL] at h
    split at h
    · rename_i hc
      obtain ⟨hn, hle⟩ := hc
      obtain ⟨c1, c2⟩ := cells_rep (rep_eval I F h3) (by omega)
      have hsz : (a.eval y).cells.size = n := by have := c1.length; rw [hn] at this; simpa using this
      have hcl : cells.size = cs.length := by have := hr.length; simpa using this
      obtain ⟨cells1, e1, e2⟩ := fill_cons (rest := ys.map fun (i, y) => (i, a.eval y)) h1 hsz (by omega : off + n ≤ cells.size)
      obtain ⟨cells2, e3, e4, e5⟩ := fill_rep I F ps ys h4 (cells := cells1) (by rw [e2]; exact splice_rep hr c1) (splice_scal hs c2) h
      exact ⟨cells2, by rw [List.map_cons, e1, e3], e4, e5⟩
    · cases h
def plc? (P : Program) (t : TypeId) : Option (Nat → Option (Nat × Nat)) :=
  match P.underlying t with
  | some (.array _ e) => if (P.info? e).isSome then some fun i => some (i * P.cellsOf e, P.cellsOf e) else none
  | some (.struct fields) => if fields.toList.all fun f => (P.info? f.type).isSome then some fun i => match fields[i]? with
    | some f => some (f.offset, P.cellsOf f.type)
    | none => none
    else none
  | _ => none
theorem places_of : ∀ (fs : List Field), fs.all (fun f => (P.info? f.type).isSome) = true → fs.mapM (fun f => (P.info? f.type).map fun i => (f.offset, i.size)) = some (fs.map fun f => (f.offset, P.cellsOf f.type))
  | [], _ => by simp
  | f :: fs, h => by
    simp only [List.all_cons, Bool.and_eq_true] at h
    obtain ⟨i, hi⟩ := Option.isSome_iff_exists.1 h.1
    rw [List.mapM_cons, places_of fs h.2]
    simp [hi, Program.cellsOf]
theorem built_of {t : TypeId} {place : Nat → Option (Nat × Nat)} {it : TypeInfo} {z : Value} (h : plc? P t = some place) (hi : P.info? t = some it) (hz : it.zero = some z) (parts : List (Nat × Value)) : P.built t parts = Instr.fill place z.cells parts := by
  unfold plc? at h
  unfold Program.built
  split at h
  · rename_i n e hu
    split at h
    · rename_i hs
      obtain ⟨ie, he⟩ := Option.isSome_iff_exists.1 hs
      obtain rfl := Option.some.inj h
      simp only [hi, hu, hz, he, Program.cellsOf]
      simp
    · cases h
  · rename_i fs hu
    split at h
    · rename_i hs
      obtain rfl := Option.some.inj h
      simp only [hi, hu, hz, places_of fs.toList hs]
      congr 1
      funext i
      simp only [List.getElem?_toArray, List.getElem?_map, Array.getElem?_toList]
      cases fs[i]? <;> rfl
    · cases h
  · cases h
theorem sim_bld (I : Inv tb C) (F : FrRel C f a nt) {o : Oper} {t : TypeId} {zero : List AV} {ps : List (Nat × Nat × AO)} {ys : Array (Nat × Operand)} (ho : o.op = .build t ys) {place : Nat → Option (Nat × Nat)} {it : TypeInfo} {z : Value} (h : plc? P t = some place)
    (hi : P.info? t = some it) (hz : it.zero = some z) (hzs : isSs zero z.cells.toList = true) (hp : okParts place ps ys.toList = true) {cs : List AV} (hv : fillL zero (eval tb f) ps = some cs) : Yields tb C (.agg cs, none) ((execOp a.eval o).run P C.w) := by
  obtain ⟨r1, r2⟩ := isSs_rep (C := C) hzs
  obtain ⟨cells, e1, e2, e3⟩ := fill_rep I F ps ys.toList hp r1 r2 hv
  refine yields_pure I (v := .agg cells) ?_ ⟨cells.toList, by simp, e3, e2⟩
  have hb : P.built t (ys.map fun (i, x) => (i, a.eval x)).toList = some cells := by
    rw [built_of h hi hz, Array.toList_map]
    exact e1
  simp only [execOp, ho, Sem.run_bind, run_build C.w t _ cells hb, Result.andThen_ok, Sem.run_pure]
theorem flatten_set {α : Type} {sz : Nat} (new : List α) (hn : new.length = sz) : ∀ (l : List (List α)) (i : Nat), (∀ y ∈ l, y.length = sz) → i < l.length →
    (l.set i new).flatten = l.flatten.take (i * sz) ++ new ++ l.flatten.drop (i * sz + new.length)
  | [], _, _, h => by simp at h
  | y :: l, 0, hy, _ => by
    have hyl := hy y List.mem_cons_self
    simp only [List.set_cons_zero, List.flatten_cons, Nat.zero_mul, Nat.zero_add, List.take_zero, List.nil_append]
    rw [List.drop_append, List.drop_of_length_le (by omega), show new.length - y.length = 0 by omega]
    simp
  | y :: l, i + 1, hy, h => by
    have hyl := hy y List.mem_cons_self
    simp only [List.set_cons_succ, List.flatten_cons]
    rw [flatten_set new hn l i (fun z hz => hy z (List.mem_cons_of_mem _ hz)) (by simpa using h)]
    rw [Nat.succ_mul, List.take_append, List.take_of_length_le (l := y) (by omega), List.drop_append, List.drop_of_length_le (l := y) (by omega), List.nil_append]
    rw [show i * sz + sz - y.length = i * sz by omega, show i * sz + sz + new.length - y.length = i * sz + new.length by omega]
    simp
def okElems (sz : Nat) : List (Nat × AO) → List (Nat × Operand) → Bool
  | [], [] => true
  | (i, x) :: r, (j, y) :: q => i == j && okAO x y && okElems sz r q
  | _, _ => false
theorem fillE_rep (I : Inv tb C) (F : FrRel C f a nt) {sz : Nat} (hsz : 0 < sz) : ∀ (ps : List (Nat × AO)) (ys : List (Nat × Operand)), okElems sz ps ys = true → ∀ {els els' : List (List AV)} {vss : List (List Value)} {cells : Array Value}, RepLL C els vss →
    (∀ e ∈ els, e.length = sz ∧ e.all scal = true) → cells.toList = vss.flatten → fillE els sz (eval tb f) ps = some els' →
    ∃ cells' vss', Instr.fill (fun i => some (i * sz, sz)) cells (ys.map fun (i, y) => (i, a.eval y)) = some cells' ∧ RepLL C els' vss' ∧ (∀ e ∈ els', e.length = sz ∧ e.all scal = true) ∧ cells'.toList = vss'.flatten ∧ els'.length = els.length
  | [], [], _, els, els', vss, cells, hr, hs, hc, h => by
    simp only [fillE, Option.some.injEq] at h
    subst h
    exact ⟨cells, vss, rfl, hr, hs, hc, rfl⟩
  | [], _ :: _, h, _, _, _, _, _, _, _, _ => by simp [okElems] at h
  | (_, _) :: _, [], h, _, _, _, _, _, _, _, _ => by simp [okElems] at h
  | (i, x) :: ps, (j, y) :: ys, hok, els, els', vss, cells, hr, hs, hc, h => by
    simp only [okElems, Bool.and_eq_true, beq_iff_eq] at hok
    obtain ⟨⟨rfl, h3⟩, h4⟩ := hok
    simp only [fillE] at h
    split at h
    · rename_i hcc
      obtain ⟨hn, hi⟩ := hcc
      obtain ⟨c1, c2⟩ := cells_rep (rep_eval I F h3) (by omega)
      have hvl : (a.eval y).cells.toList.length = sz := by rw [c1.length, hn]
      have hlens := RepLL.lens (fun x hx => (hs x hx).1) hr
      have hcl : cells.size = els.length * sz := by
        rw [← Array.length_toList, hc, flat_length _ hlens, hr.length]
      have hle : i * sz + sz ≤ cells.size := by
        rw [hcl, ← Nat.succ_mul]
        exact Nat.mul_le_mul_right _ hi
      obtain ⟨cells1, e1, e2⟩ := fill_cons (place := fun i => some (i * sz, sz)) (rest := ys.map fun (i, y) => (i, a.eval y)) rfl (by simpa using hvl) hle
      obtain ⟨cells2, vss2, e3, e4, e5, e6, e7⟩ := fillE_rep I F hsz ps ys h4 (cells := cells1) (RepLL.set (i := i) c1 hr) (fun e he => by
        rcases List.mem_or_eq_of_mem_set he with he | he
        · exact hs e he
        · subst he; exact ⟨hn, c2⟩) (by rw [e2, hc, flatten_set _ hvl _ _ hlens (by rw [hr.length]; exact hi)]) h
      exact ⟨cells2, vss2, by rw [List.map_cons, e1, e3], e4, e5, e6, by rw [e7]; simp⟩
    · cases h
theorem zeros_list (z : Array Value) (n : Nat) : ((Array.range (n * z.size)).map (z[· % z.size]!)).toList = (List.replicate n z.toList).flatten := by
  apply List.ext_getElem
  · simp [List.length_flatten]
  · intro i h1 h2
    have hi : i < n * z.size := by simpa using h1
    have hpos : 0 < z.size := by
      rcases Nat.eq_zero_or_pos z.size with h | h
      · rw [h] at hi; simp at hi
      · exact h
    have hmod : i % z.size < z.size := Nat.mod_lt _ hpos
    have key : ∀ (n i : Nat), i < n * z.size → (List.replicate n z.toList).flatten[i]? = z.toList[i % z.size]? := by
      intro n
      induction n with
      | zero => intro i h; simp at h
      | succ n ih =>
        intro i h
        rw [List.replicate_succ, List.flatten_cons]
        rcases Nat.lt_or_ge i z.size with hlt | hge
        · rw [List.getElem?_append_left (by simpa using hlt), Nat.mod_eq_of_lt hlt]
        · rw [List.getElem?_append_right (by simpa using hge)]
          simp only [Array.length_toList]
          rw [ih (i - z.size) (by rw [Nat.succ_mul] at h; omega), ← Nat.mod_eq_sub_mod hge]
    have := key n i hi
    rw [List.getElem?_eq_getElem h2] at this
    simp only [Array.toList_map, Array.toList_range, List.getElem_map, List.getElem_range]
    rw [getElem!_pos z (i % z.size) hmod]
    have h3 : z.toList[i % z.size]? = some z[i % z.size] := by simp [hmod]
    rw [h3] at this
    exact (Option.some.inj this).symm
theorem bls_run (I : Inv tb C) (F : FrRel C f a nt) {o : Oper} {t e : TypeId} {len : Nat} {zero : List (List AV)} {ps : List (Nat × AO)} {ys : Array (Nat × Operand)} (ho : o.op = .buildSlice t len ys) (hu : P.underlying t = some (.slice e)) {i : TypeInfo} {z : Value}
    (hi : P.info? e = some i) (hz : i.zero = some z) (hzz : z.cells.size = P.cellsOf e) (hz0 : 0 < P.cellsOf e) (hb : len * P.cellsOf e ≤ 2 ^ 24) (hl : zero.length = len) (hzs : zero.all (isSs · z.cells.toList) = true) (hp : okElems (P.cellsOf e) ps ys.toList = true)
    {els : List (List AV)} (hv : fillE zero (P.cellsOf e) (eval tb f) ps = some els) : ∃ (cells : Array Value) (vss : List (List Value)), RepLL C els vss ∧ (∀ x ∈ els, x.length = P.cellsOf e ∧ x.all scal = true) ∧
      cells.toList = vss.flatten ∧ els.length * P.cellsOf e ≤ cells.size ∧ (execOp a.eval o).run P C.w = .ok (.value (.slice (some ⟨C.w.heap.size, 0, none⟩) els.length els.length)) (C.w.alloc (.cells cells e)) := by
  have hinfo : (P.info? e).isSome = true := by rw [hi]; rfl
  have hcells : P.cellsOf e = i.size := by simp [Program.cellsOf, hi]
  -- the zeros
  have hz1 : ∀ l : List (List AV), l.all (isSs · z.cells.toList) = true → RepLL C l (List.replicate l.length z.cells.toList) ∧ ∀ e' ∈ l, e'.length = P.cellsOf e ∧ e'.all scal = true := by
    intro l
    induction l with
    | nil => intro _; exact ⟨rfl, fun e he => by cases he⟩
    | cons x l ih =>
      intro h
      simp only [List.all_cons, Bool.and_eq_true] at h
      obtain ⟨r1, r2⟩ := isSs_rep (C := C) h.1
      obtain ⟨q1, q2⟩ := ih h.2
      refine ⟨⟨_, _, by rw [List.length_cons, List.replicate_succ], r1, q1⟩, fun e' he => ?_⟩
      rcases List.mem_cons.1 he with rfl | he
      · exact ⟨by rw [← r1.length]; simpa using hzz, r2⟩
      · exact q2 e' he
  obtain ⟨q1, q2⟩ := hz1 zero hzs
  have hc : ((Array.range (len * P.cellsOf e)).map (fun j => (if len * P.cellsOf e = 0 then (#[] : Array Value) else z.cells)[j % (if len * P.cellsOf e = 0 then (#[] : Array Value) else z.cells).size]!)).toList = (List.replicate zero.length z.cells.toList).flatten := by
    by_cases h0 : len * P.cellsOf e = 0
    · have hl0 : len = 0 := by
        rcases Nat.mul_eq_zero.1 h0 with h | h
        · exact h
        · omega
      rw [hl, hl0]
      simp
    · simp only [if_neg h0]
      rw [hl, ← hzz]
      exact zeros_list z.cells len
  obtain ⟨cells, vss, e1, e2, e3, e4, e5⟩ := fillE_rep I F hz0 ps ys.toList hp q1 q2 hc hv
  have hel : els.length = len := by rw [e5, hl]
  have hsize : cells.size = els.length * P.cellsOf e := by
    rw [← Array.length_toList, e4, flat_length _ (RepLL.lens (fun x hx => (e3 x hx).1) e2), e2.length]
  refine ⟨cells, vss, e2, e3, e4, by omega, ?_⟩
  · have hnb : ¬ (len * P.cellsOf e > 2 ^ 24) := by omega
    have e1' : Instr.fill (fun i => some (i * P.cellsOf e, P.cellsOf e)) ((Array.range (len * P.cellsOf e)).map (fun j => (if len * P.cellsOf e = 0 then (#[] : Array Value) else z.cells)[j % (if len * P.cellsOf e = 0 then (#[] : Array Value) else z.cells).size]!))
        (ys.map fun x => (x.fst, a.eval x.snd)).toList = some cells := by
      rw [Array.toList_map]; exact e1
    by_cases h0 : len * P.cellsOf e = 0
    · simp only [if_pos h0] at e1'
      simp only [execOp, ho, Instr.buildSlice, Sem.run_bind, run_underlying' hu, Result.andThen_ok, run_sizeOf' hinfo, if_neg hnb, Sem.run_pure, if_pos h0, e1', newRow, run_newObj, hel]
      rfl
    · simp only [if_neg h0] at e1'
      simp only [execOp, ho, Instr.buildSlice, Sem.run_bind, run_underlying' hu, Result.andThen_ok, run_sizeOf' hinfo, if_neg hnb, Sem.run_pure, if_neg h0, zeroValue, run_typeInfo' hi, hz, e1', newRow, run_newObj, hel]
      rfl
theorem sim_bls (I : Inv tb C) (F : FrRel C f a nt) {o : Oper} {t e : TypeId} {len : Nat} {zero : List (List AV)} {ps : List (Nat × AO)} {ys : Array (Nat × Operand)} (ho : o.op = .buildSlice t len ys) (hu : P.underlying t = some (.slice e)) {i : TypeInfo} {z : Value}
    (hi : P.info? e = some i) (hz : i.zero = some z) (hzz : z.cells.size = P.cellsOf e) (hz0 : 0 < P.cellsOf e) (hb : len * P.cellsOf e ≤ 2 ^ 24) (hl : zero.length = len) (hzs : zero.all (isSs · z.cells.toList) = true) (hp : okElems (P.cellsOf e) ps ys.toList = true)
    {els : List (List AV)} (hv : fillE zero (P.cellsOf e) (eval tb f) ps = some els) : Yields tb C (.orow C.H.length els.length 0 els.length, some (C.H ++ [AObj.row (some e) false (P.cellsOf e) els])) ((execOp a.eval o).run P C.w) := by
  obtain ⟨cells, vss, e2, e3, e4, e5, e6⟩ := bls_run I F ho hu hi hz hzz hz0 hb hl hzs hp hv
  refine yields_row (e := e) (w := C.w) (arr := cells) (K := els.length) I ⟨rfl, rfl, rfl⟩ rfl hz0 e3 e2 (fun j v hj => ?_) (Nat.le_refl _) e5 e6
  rw [← e4] at hj; simpa using hj
theorem sim_bll (I : Inv tb C) (F : FrRel C f a nt) {o : Oper} {t e : TypeId} {len : Nat} {zero : List (List AV)} {ps : List (Nat × AO)} {ys : Array (Nat × Operand)} (ho : o.op = .buildSlice t len ys) (hu : P.underlying t = some (.slice e)) {i : TypeInfo} {z : Value}
    (hi : P.info? e = some i) (hz : i.zero = some z) (hzz : z.cells.size = P.cellsOf e) (hz0 : 0 < P.cellsOf e) (hb : len * P.cellsOf e ≤ 2 ^ 24) (hl : zero.length = len) (hzs : zero.all (isSs · z.cells.toList) = true) (hp : okElems (P.cellsOf e) ps ys.toList = true)
    {els : List (List AV)} (hv : fillE zero (P.cellsOf e) (eval tb f) ps = some els) : Yields tb C (.sl (P.cellsOf e) els, none) ((execOp a.eval o).run P C.w) := by
  obtain ⟨cells, vss, e2, e3, e4, e5, e6⟩ := bls_run I F ho hu hi hz hzz hz0 hb hl hzs hp hv
  obtain ⟨X, ID⟩ := grown (w := C.w.alloc (.cells cells e)) I ⟨rfl, rfl, rfl⟩ (by rw [alloc_size]; omega) fun b hb => alloc_old _ _ hb
  refine ⟨_, X, ID, rfl, .inl ⟨_, e6, .inl ⟨C.w.heap.size, 0, els.length, vss, rfl, Nat.le_refl _, by rw [alloc_size]; omega, ?_, fun j v hj => ?_, e3, RepLL.ext X e2⟩⟩⟩
  · rintro (⟨id, hid, e'⟩ | hr)
    · have := I.lt id hid
      simp only at e'
      omega
    · exact absurd (I.rs _ hr).1 (Nat.lt_irrefl _)
  · have hn : (C.w.alloc (.cells cells e)).heap[C.w.heap.size]? = some (.cells cells e) := alloc_new _ _
    simp only [World.cell?, hn, Nat.zero_add]
    rw [← e4] at hj
    simpa using hj
theorem sim_s2a (I : Inv tb C) (F : FrRel C f a nt) {o : Oper} {t e : TypeId} {n : Nat} {x : AO} {y : Operand} (ho : o.op = .sliceToArrayPointer t y) (hu : P.underlying t = some (.array n e)) (hn : 0 < n) (hx : okAO x y = true) {r : AV × Option Heap}
    (h : val (arrOf n (P.cellsOf e) (eval tb f x)) = some r) : Yields tb C r ((execOp a.eval o).run P C.w) := by
  have hr := rep_eval I F hx
  have run : ∀ {p : Option Addr} {len cap : Nat}, a.eval y = .slice p len cap → n ≤ len → (execOp a.eval o).run P C.w = .ok (.value (.pointer p)) C.w := by
    intro p len cap he hle
    simp only [execOp, ho, he, Instr.arrayAt, Sem.run_bind, run_underlying' hu, Result.andThen_ok, if_neg (show ¬ len < n by omega), Sem.run_pure]
  generalize eval tb f x = v at *
  cases v <;> simp only [arrOf, val, Option.map_none, reduceCtorEq] at h
  case ocel sz id off len =>
    split at h
    · rename_i hc
      simp only [Option.map_some, Option.some.injEq] at h
      subst h
      obtain ⟨hobj, o', cap, e', hlc, hoff, hsz⟩ := hr
      refine yields_pure I (run e' hc.2) ⟨hobj, ?_⟩
      rw [hoff (by omega)]
    · simp at h
  case orow id k lo len =>
    split at h
    · rename_i hc
      simp only [Option.map_some, Option.some.injEq] at h
      subst h
      obtain ⟨⟨p, c, e'⟩, fz, sz, els, hg, hl, hk⟩ := hr
      by_cases hkn : k = els.length
      · obtain ⟨hle, off, cap, e'', hlc, hoff, _⟩ := hk hkn
        refine yields_pure I (run e'' hc.1) ⟨⟨_, rfl⟩, fz, sz, els, hg, hl, fun _ => ?_⟩
        rw [hoff (by omega)]
        rfl
      · exact yields_pure I (run e' hc.1) ⟨⟨_, rfl⟩, fz, sz, els, hg, hl, fun q => absurd q hkn⟩
    · simp at h
  case sl sz els =>
    split at h
    · rename_i hc
      simp only [Option.map_some, Option.some.injEq] at h
      subst h
      rcases hr with ⟨b, base, cap, vss, e', hlc, hlt, hown, hh, hs, hrr⟩ | ⟨rfl, _⟩
      case inr => have := hc.2; simp at this; omega
      refine yields_pure I (run e' hc.2) ⟨b, base, (vss.take n).flatten, by simp, hlt, hown, ?_, flat_scal fun x hx => (hs x (List.mem_of_mem_take hx)).2, RepLL.flat hrr.take⟩
      have hlens := RepLL.lens (fun x hx => (hs x hx).1) hrr
      rw [flatten_take _ _ hlens]
      have := hh.sub 0 (n * sz)
      simpa using this
    · simp at h
theorem sim_mnx (I : Inv tb C) (F : FrRel C f a nt) {o : Oper} {c : Call} {mx : Bool} {x1 x2 : AO} {y1 y2 : Operand} (ho : o.op = .call c) (hc : c.callee = .builtin (if mx then .max else .min)) (ha : c.args = #[y1, y2]) (h1 : okAO x1 y1 = true) (h2 : okAO x2 y2 = true)
    {k : IntKind} {p q : Int} (e1 : eval tb f x1 = .i k p) (e2 : eval tb f x2 = .i k q) : Yields tb C (.i k (if mx then (if q > p then q else p) else (if q < p then q else p)), none) ((execOp a.eval o).run P C.w) := by
  have r1 := rep_eval I F h1
  have r2 := rep_eval I F h2
  rw [e1] at r1
  rw [e2] at r2
  have r1' : a.eval y1 = .int k p := r1
  have r2' : a.eval y2 = .int k q := r2
  refine yields_pure I (v := .int k (if mx then (if q > p then q else p) else (if q < p then q else p))) (run_builtin ho hc fun qs => ?_) rfl
  cases mx
  · simp only [ha, List.map_toArray, List.map_cons, List.map_nil, Bool.false_eq_true, if_false, builtin, Sem.run_bind, Builtin.min_, List.foldlM_cons, List.foldlM_nil, r1', r2', Builtin.min2]
    split <;> simp_all
  · simp only [ha, List.map_toArray, List.map_cons, List.map_nil, if_true, builtin, Sem.run_bind, Builtin.max_, List.foldlM_cons, List.foldlM_nil, r1', r2', Builtin.max2]
    split <;> simp_all
end
end Go.Proofs.YtoegmdfkcaojlaaGreat.Am
namespace Go.Proofs.YtoegmdfkcaojlaaGreat.Am
section
variable {cl : Nat → List AV → Heap → Out} {P : Program} {tb : Tab} {C : Ctx} {f : Fr} {a : Act} {nt : Nat}
def plainV : Value → Bool
  | .bool _ => true
  | .int _ _ => true
  | .string _ => true
  | _ => false
theorem plainV_same {v : Value} (h : plainV v = true) (n : Nat) : Instr.sameBits n v v = true := by
  cases v <;> simp only [plainV, Bool.false_eq_true] at h <;> cases n <;> simp [Instr.sameBits, beq_toListBytes]
theorem eq1_true {c : CK} {x y : AV} {v u : Value} (h : eq1 c x y = some true) (rx : Rep C x v) (ry : Rep C y u) : v = u ∧ plainV v = true := by
  rcases run_one h rx ry with ⟨p, q, _, rfl, rfl, e⟩ | ⟨k, p, q, _, rfl, rfl, e⟩ | ⟨p, q, _, rfl, rfl, e⟩
  all_goals
    have := eq_of_beq e.symm
    subst this
    exact ⟨rfl, rfl⟩
theorem eqS_true : ∀ {l : List CK} {x y : List AV} {cx cy : List Value}, eqS l x y = some true → RepL C x cx → RepL C y cy → cx = cy ∧ cx.all plainV = true
  | [], [], [], _, _, _, rx, ry => by
    simp only [RepL] at rx ry
    subst rx; subst ry
    exact ⟨rfl, rfl⟩
  | [], [], _ :: _, _, _, h, _, _ => by simp [eqS] at h
  | [], _ :: _, _, _, _, h, _, _ => by simp [eqS] at h
  | _ :: _, [], _, _, _, h, _, _ => by simp [eqS] at h
  | _ :: _, _ :: _, [], _, _, h, _, _ => by simp [eqS] at h
  | c :: l, v :: x, u :: y, _, _, h, ⟨p, cx, e1, r1, r2⟩, ⟨q, cy, e2, r3, r4⟩ => by
    subst e1; subst e2
    simp only [eqS] at h
    obtain ⟨a, ha, h⟩ := Option.bind_eq_some_iff.1 h
    obtain ⟨d, hd, h⟩ := Option.map_eq_some_iff.1 h
    simp only [Bool.and_eq_true] at h
    obtain ⟨rfl, rfl⟩ := h
    obtain ⟨rfl, h1⟩ := eq1_true ha r1 r3
    obtain ⟨rfl, h2⟩ := eqS_true hd r2 r4
    exact ⟨rfl, by simp [h1, h2]⟩
def okKey (P : Program) (ek : EK) (t : TypeId) : Bool :=
  match ek, P.underlying t with
  | .one .b, some .bool => true
  | .one (.i k), some (.int q) => decide (k = q)
  | .one .s, some .string => true
  | .agg l, some (.struct _) => decide (shp P 50 t = some l)
  | .agg l, some (.array _ _) => decide (shp P 50 t = some l)
  | _, _ => false
theorem okKey_spec {ek : EK} {t : TypeId} (h : okKey P ek t = true) : (∃ c, ek = .one c ∧ P.underlying t = some (ckT c)) ∨
    ∃ l d, ek = .agg l ∧ aggT P t = true ∧ shp P 50 t = some l ∧ P.underlying t = some d ∧ ∀ v u, Instr.sameNow d v u = none := by
  unfold okKey at h
  split at h
  · rename_i hu; exact .inl ⟨.b, rfl, hu⟩
  · rename_i k q hu
    have : k = q := by simpa using h
    subst this
    exact .inl ⟨.i k, rfl, hu⟩
  · rename_i hu; exact .inl ⟨.s, rfl, hu⟩
  · rename_i l fs hu
    exact .inr ⟨l, _, rfl, by simp only [aggT, hu], by simpa using h, hu, fun v u => by simp [Instr.sameNow]⟩
  · rename_i l n e hu
    exact .inr ⟨l, _, rfl, by simp only [aggT, hu], by simpa using h, hu, fun v u => by simp [Instr.sameNow]⟩
  · cases h
def CheckFor (P : Program) (em : Bool) (dd : Nat) (t : TypeId) (l : List CK) : Prop :=
  ∀ (cx : List Value) (x : Value) (w : World), cx.length = l.length → IsV P t cx x → (Instr.checkKey em dd t x).run P w = .ok () w
theorem check_plain (em : Bool) (d : Nat) {c : CK} {t : TypeId} (hu : P.underlying t = some (ckT c)) (x : Value) (w : World) : (Instr.checkKey em (d + 1) t x).run P w = .ok () w := by
  rw [Instr.checkKey]
  simp only [Sem.run_bind, run_underlying' hu, Result.andThen_ok]
  cases c <;> cases x <;> simp [ckT]
theorem check_sound (em : Bool) (k : Nat) : ∀ (d : Nat) (t : TypeId) (l : List CK), shp P d t = some l → CheckFor P em (k + d) t l
  | 0, _, _, h => by simp [shp] at h
  | d + 1, t, l, h => by
    intro cx x w hl ix
    simp only [shp] at h
    split at h
    · rename_i hu; exact check_plain em (k + d) (c := .b) hu x w
    · rename_i q hu; exact check_plain em (k + d) (c := .i q) hu x w
    · rename_i hu; exact check_plain em (k + d) (c := .s) hu x w
    · rename_i fs hu
      split at h
      · cases h
      · have hag : aggT P t = true := by simp only [aggT, hu]
        simp only [IsV, hag, if_true] at ix
        subst ix
        rw [show k + (d + 1) = (k + d) + 1 from rfl, Instr.checkKey]
        simp only [Sem.run_bind, run_underlying' hu, Result.andThen_ok]
        rw [← Array.forIn_toList]
        have key : ∀ (L : List Field) (pos : Nat) (m : List CK), shpF P (shp P d) pos L = some m → pos + m.length ≤ cx.length →
            (forIn L PUnit.unit fun f (_ : PUnit) => (do
              if f.name ≠ "_" then Instr.checkKey em (k + d) f.type (← part f.type cx.toArray f.offset)
              pure (ForInStep.yield PUnit.unit) : Sem (ForInStep PUnit))).run P w = .ok PUnit.unit w := by
          intro L
          induction L with
          | nil => intro _ _ _ _; simp
          | cons f L ih =>
            intro pos m hm hle
            simp only [shpF] at hm
            obtain ⟨m1, hm1, hm⟩ := Option.bind_eq_some_iff.1 hm
            split at hm
            · rename_i hc
              obtain ⟨hoff, hname, hcells⟩ := hc
              obtain ⟨r, hr, rfl⟩ := Option.map_eq_some_iff.1 hm
              rw [List.length_append] at hle
              obtain ⟨v, hv, iv⟩ := run_part_is (P := P) hm1 hcells (cs := cx) (off := f.offset) (by omega) w
              have hck := check_sound em k d f.type m1 hm1 _ v w (by simp only [List.length_take, List.length_drop]; omega) iv
              simp only [List.forIn_cons, Sem.run_bind, hname, ne_eq, not_false_eq_true, if_true, Result.andThen_ok, hv, hck, Sem.run_pure]
              exact ih _ r hr (by omega)
            · cases hm
        have := key fs.toList 0 l h (by omega)
        simp only [ne_eq, ite_not] at this ⊢
        simp at this ⊢
        rw [this]
        rfl
    · rename_i n el hu
      obtain ⟨m, hm, h⟩ := Option.bind_eq_some_iff.1 h
      split at h
      · rename_i hc
        obtain rfl := Option.some.inj h
        have hag : aggT P t = true := by simp only [aggT, hu]
        simp only [IsV, hag, if_true] at ix
        subst ix
        obtain ⟨i, hi⟩ : ∃ i, P.info? el = some i := by
          obtain ⟨dd, hd⟩ := Option.isSome_iff_exists.1 (shp_some hm)
          exact Option.isSome_iff_exists.1 (info_of_underlying hd)
        rw [show k + (d + 1) = (k + d) + 1 from rfl, Instr.checkKey]
        simp only [Sem.run_bind, run_underlying' hu, Result.andThen_ok]
        simp only [Std.Legacy.Range.forIn_eq_forIn_range', Std.Legacy.Range.size, Nat.sub_zero, Nat.add_one_sub_one, Nat.div_one]
        have hlen : (List.replicate n m).flatten.length = n * m.length := by simp [List.length_flatten]
        rw [hlen] at hl
        have each : ∀ j ∈ List.range' 0 n, j < n := fun j hj => by simpa using hj
        generalize List.range' 0 n = is at each
        induction is with
        | nil => simp
        | cons j is ih =>
          have hj := each j (by simp)
          have hmul : (j + 1) * m.length ≤ n * m.length := Nat.mul_le_mul_right _ hj
          rw [Nat.succ_mul] at hmul
          obtain ⟨v, hv, iv⟩ := run_part_is (P := P) hm hc (cs := cx) (off := j * P.cellsOf el) (by rw [← hc]; omega) w
          have hck := check_sound em k d el m hm _ v w (by simp only [List.length_take, List.length_drop]; rw [← hc]; omega) iv
          have hsz : (sizeOf el).run P w = .ok (P.cellsOf el) w := run_sizeOf' (by rw [hi]; rfl) w
          simp only [List.forIn_cons, Sem.run_bind, hsz, Result.andThen_ok, hv, hck, Sem.run_pure]
          exact ih (fun y hy => each y (by simp [hy]))
      · cases h
    · cases h
theorem check_key {ek : EK} {t : TypeId} (hk : okKey P ek t = true) {x : AV} {v : Value} (hx : keyOk ek x = true) (r : Rep C x v) (em : Bool) (w : World) : (Instr.checkKey em 10000 t v).run P w = .ok () w := by
  rcases okKey_spec hk with ⟨c, rfl, hu⟩ | ⟨l, d, rfl, ha, hs, hu, _⟩
  · exact check_plain em 9999 hu v w
  · cases x <;> simp only [keyOk, Bool.false_eq_true] at hx
    rename_i cs
    obtain ⟨vs, rfl, _, rr⟩ := r
    exact check_sound em 9950 50 t l hs vs _ w (by rw [rr.length]; exact Nat.eq_of_beq_eq_true hx) (by simp only [IsV, ha, if_true])
theorem key_eq {ek : EK} {t : TypeId} (hk : okKey P ek t = true) {x y : AV} {v u : Value} {b : Bool} (h : eqK ek x y = some b) (rx : Rep C x v) (ry : Rep C y u) :
    ((∃ d, P.underlying t = some d ∧ Instr.sameNow d v u = some b) ∨ ((∃ d, P.underlying t = some d ∧ ∀ v u, Instr.sameNow d v u = none) ∧ ∀ w, (Op.equal t v u).run P w = .ok b w)) ∧
    (b = true → v = u ∧ ∀ w, (Instr.keyThatStays v v).run P w = .ok v w) := by
  rcases okKey_spec hk with ⟨c, rfl, hu⟩ | ⟨l, d, rfl, ha, hs, hu, hn⟩
  · simp only [eqK] at h
    refine ⟨.inl ⟨_, hu, ?_⟩, fun hb => ?_⟩
    · rcases run_one h rx ry with ⟨p, q, rfl, rfl, rfl, e⟩ | ⟨k, p, q, rfl, rfl, rfl, e⟩ | ⟨p, q, rfl, rfl, rfl, e⟩
      · simp [ckT, Instr.sameNow, e]
      · simp [ckT, Instr.sameNow, e]
      · simp only [ckT, Instr.sameNow, e, beq_toListBytes]
        rw [bytes_toList, bytes_toList]
    · subst hb
      obtain ⟨rfl, hp⟩ := eq1_true h rx ry
      exact ⟨rfl, fun w => by simp [Instr.keyThatStays, plainV_same hp]⟩
  · unfold eqK at h
    split at h <;> first | contradiction | skip
    rename_i l' cx cy e
    cases e
    obtain ⟨vx, rfl, _, r1⟩ := rx
    obtain ⟨vy, rfl, _, r2⟩ := ry
    refine ⟨.inr ⟨⟨d, hu, hn⟩, fun w => ?_⟩, fun hb => ?_⟩
    · exact eq_sound (C := C) 9950 50 t l hs _ _ vx vy b _ _ w r1 r2 h (by simp only [IsV, ha, if_true]) (by simp only [IsV, ha, if_true])
    · subst hb
      obtain ⟨rfl, hp⟩ := eqS_true h r1 r2
      refine ⟨rfl, fun w => ?_⟩
      have hs : Instr.sameBits 10000 (.agg vx.toArray) (.agg vx.toArray) = true := by
        show Instr.sameBits (9999 + 1) _ _ = true
        simp only [Instr.sameBits, beq_self_eq_true, Bool.true_and, List.all_eq_true]
        rintro ⟨p, q⟩ hp'
        obtain ⟨i, hi, e⟩ := List.getElem_of_mem hp'
        rw [List.getElem_zip, Prod.mk.injEq] at e
        obtain ⟨rfl, rfl⟩ := e
        exact plainV_same (List.all_eq_true.1 hp _ (List.getElem_mem _)) 9999
      simp [Instr.keyThatStays, hs]
def Found (P : Program) (C : Ctx) (ms : List MapEntry) (i : Nat) (kv : Value) : Option (Nat × AV) → Option (Nat × Value) → Prop
  | none, r => r = none
  | some (n, v), r => ∃ j e, n = i + j ∧ r = some (n, e.val) ∧ ms[j]? = some e ∧ e.key = kv ∧ Rep C v e.val ∧ ∀ w, (Instr.keyThatStays kv kv).run P w = .ok kv w
theorem Found.up {ms : List MapEntry} {m : MapEntry} {i : Nat} {kv : Value} {r : Option (Nat × AV)} {r' : Option (Nat × Value)} (h : Found P C ms (i + 1) kv r r') : Found P C (m :: ms) i kv r r' := by
  cases r with
  | none => exact h
  | some p =>
    obtain ⟨j, e, h1, h2⟩ := h
    exact ⟨j + 1, e, by omega, h2⟩
theorem find_now {ek : EK} {t : TypeId} (hk : okKey P ek t = true) {kx : AV} {kv : Value} (rk : Rep C kx kv) {d : TypeDesc} (hu : P.underlying t = some d) : ∀ (es : List (AV × AV)) (ms : List MapEntry) (i : Nat) {r : Option (Nat × AV)},
    RepL C (es.map (·.1)) (ms.map (·.key)) → RepL C (es.map (·.2)) (ms.map (·.val)) → find ek kx es i = some r →
    (∃ r', Instr.findNow d kv ms i = some r' ∧ Found P C ms i kv r r') ∨ (Instr.findNow d kv ms i = none ∧ (∀ v u, Instr.sameNow d v u = none) ∧ ∃ r', (∀ w, (Instr.findAsking t kv ms i).run P w = .ok r' w) ∧ Found P C ms i kv r r')
  | [], [], i, r, _, _, h => by
    simp only [find, Option.some.injEq] at h
    subst h
    exact .inl ⟨none, rfl, rfl⟩
  | [], _ :: _, _, _, r1, _, _ => by simp [RepL] at r1
  | _ :: _, [], _, _, ⟨_, _, e, _⟩, _, _ => by simp at e
  | (x, v) :: es, m :: ms, i, r, ⟨u, us, e1, r1, r2⟩, ⟨q, qs, e2, r3, r4⟩, h => by
    simp only [List.map_cons, List.cons.injEq] at e1 e2
    obtain ⟨rfl, rfl⟩ := e1
    obtain ⟨rfl, rfl⟩ := e2
    simp only [find] at h
    obtain ⟨b, hb, h⟩ := Option.bind_eq_some_iff.1 h
    obtain ⟨q1, q2⟩ := key_eq hk hb rk r1
    cases b with
    | true =>
      simp only [if_true, Option.some.injEq] at h
      subst h
      obtain ⟨hkv, hst⟩ := q2 rfl
      have fd : Found P C (m :: ms) i kv (some (i, v)) (some (i, m.val)) := ⟨0, m, rfl, rfl, rfl, hkv.symm, r3, hst⟩
      rcases q1 with ⟨d', hu', hs⟩ | ⟨⟨d', hu', hs⟩, hq⟩
      · rw [hu] at hu'; cases hu'
        exact .inl ⟨_, by simp only [Instr.findNow, hs], fd⟩
      · rw [hu] at hu'; cases hu'
        exact .inr ⟨by simp only [Instr.findNow, hs], hs, _, fun w => by simp [Instr.findAsking, hq], fd⟩
    | false =>
      simp only [Bool.false_eq_true, if_false] at h
      have ih := find_now hk rk hu es ms (i + 1) r2 r4 h
      rcases q1 with ⟨d', hu', hs⟩ | ⟨⟨d', hu', hs⟩, hq⟩
      · rw [hu] at hu'; cases hu'
        rcases ih with ⟨r', h1, h2⟩ | ⟨h1, h2, _⟩
        · exact .inl ⟨r', by simp only [Instr.findNow, hs, h1], h2.up⟩
        · rw [h2] at hs; cases hs
      · rw [hu] at hu'; cases hu'
        refine .inr ⟨by simp only [Instr.findNow, hs], hs, ?_⟩
        rcases ih with ⟨r', h1, h2⟩ | ⟨_, _, r', h1, h2⟩
        · refine ⟨r', fun w => ?_, h2.up⟩
          have : ms = [] ∧ r' = none := by
            cases ms with
            | nil => exact ⟨rfl, by simpa [Instr.findNow] using h1.symm⟩
            | cons m' ms => simp [Instr.findNow, hs] at h1
          obtain ⟨rfl, rfl⟩ := this
          simp [Instr.findAsking, hq]
        · exact ⟨r', fun w => by simp [Instr.findAsking, hq, h1], h2.up⟩
theorem find_key {ek : EK} {t : TypeId} (hk : okKey P ek t = true) {kx : AV} {kv : Value} (rk : Rep C kx kv) {es : List (AV × AV)} {ms : List MapEntry} {r : Option (Nat × AV)} (r1 : RepL C (es.map (·.1)) (ms.map (·.key))) (r2 : RepL C (es.map (·.2)) (ms.map (·.val)))
    (h : find ek kx es 0 = some r) : ∃ r', (∀ w, (Instr.findKey t kv ms).run P w = .ok r' w) ∧ Found P C ms 0 kv r r' := by
  obtain ⟨d, hu⟩ : ∃ d, P.underlying t = some d := by
    rcases okKey_spec hk with ⟨c, _, hu⟩ | ⟨_, d, _, _, _, hu, _⟩
    · exact ⟨_, hu⟩
    · exact ⟨_, hu⟩
  rcases find_now hk rk hu es ms 0 r1 r2 h with ⟨r', h1, h2⟩ | ⟨h1, _, r', h2, h3⟩
  · exact ⟨r', fun w => by simp only [Instr.findKey, Sem.run_bind, run_underlying' hu, Result.andThen_ok, h1, Sem.run_pure], h2⟩
  · exact ⟨r', fun w => by simp only [Instr.findKey, Sem.run_bind, run_underlying' hu, Result.andThen_ok, h1, h2], h3⟩
theorem map_rep (I : Inv tb C) {x : AV} {v : Value} {es : List (AV × AV)} (r : Rep C x v) (h : entries C.H x = some es) : ∃ (ms : List MapEntry), RepL C (es.map (·.1)) (ms.map (·.key)) ∧ RepL C (es.map (·.2)) (ms.map (·.val)) ∧
    ((v = .map none ∧ ms = []) ∨ ∃ b clock, v = .map (some b) ∧ C.w.heap[b]? = some (.map ms.toArray clock)) := by
  cases x <;> simp only [entries, reduceCtorEq] at h
  case nilm =>
    obtain rfl := Option.some.inj h
    exact ⟨[], rfl, rfl, .inl ⟨r, rfl⟩⟩
  case mp id =>
    have hg : C.H[id]? = some (.map es) := by
      unfold mapAt at h
      split at h
      · rename_i es' hg; rw [hg]; rw [Option.some.inj h]
      · cases h
    obtain ⟨ms, clock, h1, h2, h3, _⟩ := I.obj id _ hg
    exact ⟨ms, h2, h3, .inr ⟨_, clock, r.2, h1⟩⟩
theorem sim_lkp (I : Inv tb C) (F : FrRel C f a nt) {o : Oper} {t kt e : TypeId} {ek : EK} {zero : AV} {ok : Bool} {m k : AO} {y1 y2 : Operand} (ho : o.op = .lookup t y1 y2 ok) (hu : P.underlying t = some (.map kt e)) {i : TypeInfo} {z : Value} (hi : P.info? e = some i) (hz : i.zero = some z)
    (hzv : isV zero z = true) (hk : okKey P ek kt = true) (h1 : okAO m y1 = true) (h2 : okAO k y2 = true) {es : List (AV × AV)} (he : entries C.H (eval tb f m) = some es) (hko : keyOk ek (eval tb f k) = true) {q : Option (Nat × AV)} (hq : find ek (eval tb f k) es 0 = some q) :
    Yields tb C ((match (generalizing := false) q with
        | some (_, v) => (if ok then .tup [v, .b true] else v, none)
        | none => (if ok then .tup [zero, .b false] else zero, none)) : AV × Option Heap) ((execOp a.eval o).run P C.w) := by
  have r1 := rep_eval I F h1
  have r2 := rep_eval I F h2
  obtain ⟨ms, g1, g2, g3⟩ := map_rep I r1 he
  obtain ⟨r', f1, f2⟩ := find_key hk r2 g1 g2 hq
  have hzz : ∀ w, (zeroValue e).run P w = .ok z w := fun w => by simp only [zeroValue, Sem.run_bind, run_typeInfo' hi, Result.andThen_ok, hz, Sem.run_pure]
  have run : ∀ {v : Value} {b : Bool}, ((∃ n, r' = some (n, v)) ∧ b = true) ∨ (r' = none ∧ v = z ∧ b = false) → (execOp a.eval o).run P C.w = .ok (.value (if ok then .tuple #[v, .bool b] else v)) C.w := by
    rintro v b (⟨⟨n, rfl⟩, rfl⟩ | ⟨rfl, rfl, rfl⟩) <;> rcases g3 with ⟨e1, rfl⟩ | ⟨b', clock, e1, hb⟩
    · simp only [execOp, ho, e1, Instr.lookup, Sem.run_bind, run_underlying' hu, Result.andThen_ok, Sem.run_pure, check_key hk hko r2, f1]
    · simp only [execOp, ho, e1, Instr.lookup, Sem.run_bind, run_underlying' hu, Result.andThen_ok, Sem.run_pure, MapKept.run_getObj_map hb, check_key hk hko r2, f1]
    · simp only [execOp, ho, e1, Instr.lookup, Sem.run_bind, run_underlying' hu, Result.andThen_ok, Sem.run_pure, check_key hk hko r2, f1, hzz]
    · simp only [execOp, ho, e1, Instr.lookup, Sem.run_bind, run_underlying' hu, Result.andThen_ok, Sem.run_pure, MapKept.run_getObj_map hb, check_key hk hko r2, f1, hzz]
  cases q with
  | none =>
    simp only [Found] at f2
    subst f2
    have hr := run (v := z) (b := false) (.inr ⟨rfl, rfl, rfl⟩)
    refine yields_pure I hr ?_
    have hzr : Rep C zero z := isV_rep hzv
    cases ok
    · exact hzr
    · exact ⟨[z, .bool false], rfl, z, [.bool false], rfl, hzr, .bool false, [], rfl, rfl, rfl⟩
  | some p =>
    obtain ⟨n, v⟩ := p
    obtain ⟨j, e0, hn, rfl, hj, hkey, hv, _⟩ := f2
    have hr := run (v := e0.val) (b := true) (.inl ⟨⟨_, rfl⟩, rfl⟩)
    refine yields_pure I hr ?_
    cases ok
    · exact hv
    · exact ⟨[e0.val, .bool true], rfl, e0.val, [.bool true], rfl, hv, .bool true, [], rfl, rfl, rfl⟩
theorem sim_lenm (I : Inv tb C) (F : FrRel C f a nt) {o : Oper} {c : Call} {t kt e : TypeId} {x : AO} {y : Operand} (ho : o.op = .call c) (hc : c.callee = .builtin .len) (ht : c.argTypes[0]? = some t) (ha : c.args = #[y]) (hx : okAO x y = true) (hu : P.underlying t = some (.map kt e))
    {es : List (AV × AV)} (he : entries C.H (eval tb f x) = some es) : Yields tb C (.i .i64 (es.length : Nat), none) ((execOp a.eval o).run P C.w) := by
  have r := rep_eval I F hx
  obtain ⟨ms, g1, g2, g3⟩ := map_rep I r he
  have hl : ms.length = es.length := by have := g1.length; simpa using this
  refine yields_pure I (v := .int .i64 (es.length : Nat)) (run_builtin ho hc fun q => ?_) rfl
  rcases g3 with ⟨e1, rfl⟩ | ⟨b, clock, e1, hb⟩
  · simp only [ha, List.map_toArray, List.map_cons, List.map_nil, builtin, Sem.run_bind, Builtin.len_, ht, e1, List.getElem?_toArray, List.getElem?_cons_zero, run_underlying' hu, Result.andThen_ok, Sem.run_pure, ← hl, goInt]
    rfl
  · simp only [ha, List.map_toArray, List.map_cons, List.map_nil, builtin, Sem.run_bind, Builtin.len_, ht, e1, List.getElem?_toArray, List.getElem?_cons_zero, run_underlying' hu, Result.andThen_ok, MapKept.run_getObj_map hb, Sem.run_pure, ← hl, goInt]
    simp
theorem sim_mkm (I : Inv tb C) {o : Oper} {t : TypeId} (ho : o.op = .makeMap t none) : Yields tb C (.mp C.H.length, some (C.H ++ [AObj.map []])) ((execOp a.eval o).run P C.w) := by
  have hlt : C.w.heap.size < (C.w.alloc (.map #[] 0)).heap.size := by rw [alloc_size]; omega
  refine yields_new (w := C.w.alloc (.map #[] 0)) (v := .map (some C.w.heap.size)) I (p := ⟨C.w.heap.size, 0, 0⟩) ⟨rfl, rfl, rfl⟩ ?_ hlt rfl (fun b hb => alloc_old _ _ hb) ?_ ?_
  · simp only [execOp, ho, Instr.makeMap, Option.map_none, Sem.run_bind, Sem.run_pure, Result.andThen_ok, run_newObj]
    rfl
  · exact ⟨[], 0, alloc_new _ _, rfl, rfl, fun _ h => (by cases h), .nil⟩
  · intro hφ
    exact ⟨⟨AObj.map [], by simp [Ctx.more], rfl⟩, by rw [hφ]⟩
theorem modify_set {α : Type} (g : α → α) : ∀ (l : List α) (i : Nat) (x : α), l[i]? = some x → l.modify i g = l.set i (g x)
  | [], _, _, h => by simp at h
  | y :: l, 0, x, h => by simp at h; subst h; simp [List.modify]
  | y :: l, i + 1, x, h => by
    have := modify_set g l i x (by simpa using h)
    simp [this]
theorem RepL.erase : ∀ {l : List AV} {vs : List Value} {i : Nat}, RepL C l vs → RepL C (l.eraseIdx i) (vs.eraseIdx i)
  | [], _, _, h => by simp only [RepL] at h; subst h; rfl
  | _ :: _, _, 0, ⟨v, q, e, _, h⟩ => by subst e; exact h
  | _ :: _, _, i + 1, ⟨v, q, e, r, h⟩ => by subst e; exact ⟨v, _, rfl, r, RepL.erase h⟩
theorem map_eraseIdx' {α β : Type} (g : α → β) : ∀ (l : List α) (j : Nat), (l.eraseIdx j).map g = (l.map g).eraseIdx j
  | [], _ => rfl
  | _ :: _, 0 => rfl
  | x :: l, j + 1 => by simp [map_eraseIdx' g l j]
theorem Stamped.add {ms : List MapEntry} {clock : Nat} (h : Stamped ms clock) {e : MapEntry} (he : e.born = clock) : Stamped (ms ++ [e]) (clock + 1) := by
  refine ⟨fun x hx => ?_, List.pairwise_append.2 ⟨h.2, List.pairwise_singleton _ _, fun x hx y hy => ?_⟩⟩
  · rcases List.mem_append.1 hx with hx | hx
    · have := h.1 x hx; omega
    · rw [List.mem_singleton.1 hx]; omega
  · have := h.1 x hx
    rw [List.mem_singleton.1 hy]; omega
theorem Stamped.erase {ms : List MapEntry} {clock : Nat} (h : Stamped ms clock) (n : Nat) : Stamped (ms.eraseIdx n) clock :=
  ⟨fun x hx => h.1 x (List.eraseIdx_subset hx), h.2.sublist (List.eraseIdx_sublist _ _)⟩
theorem Stamped.set {ms : List MapEntry} {clock n : Nat} (h : Stamped ms clock) {e0 e : MapEntry} (hn : ms[n]? = some e0) (he : e.born = e0.born) : Stamped (ms.set n e) clock := by
  refine ⟨fun x hx => ?_, ?_⟩
  · rcases List.mem_or_eq_of_mem_set hx with hx | rfl
    · exact h.1 x hx
    · rw [he]; exact h.1 e0 (List.mem_of_getElem? hn)
  · have hm : (ms.set n e).map (·.born) = ms.map (·.born) := by
      rw [List.map_set, he]
      apply List.ext_getElem?
      intro i
      rw [List.getElem?_set]
      split
      · rename_i hi
        subst hi
        split
        · rw [List.getElem?_map, hn]; rfl
        · rename_i hl
          rw [List.getElem?_eq_none (by simpa using hl)]
      · rfl
    have h1 : (ms.map (·.born)).Pairwise (· ≠ ·) := List.pairwise_map.2 h.2
    rw [← hm] at h1
    exact List.pairwise_map.1 h1
theorem yields_map (I : Inv tb C) {id : Nat} {es es' : List (AV × AV)} (hg : C.H[id]? = some (.map es)) {ms : List MapEntry} {clock clock' : Nat} (hb : C.w.heap[(C.φ id).blk]? = some (.map ms.toArray clock)) {ms' : List MapEntry}
    (h1 : RepL C (es'.map (·.1)) (ms'.map (·.key))) (h2 : RepL C (es'.map (·.2)) (ms'.map (·.val))) (h3 : Stamped ms' clock') {x : Result Next} {r : AV}
    (hx : (∃ v, x = .ok (.value v) { C.w with heap := C.w.heap.setIfInBounds (C.φ id).blk (.map ms'.toArray clock') } ∧ ∀ D, Rep D r v) ∨ (x = .ok .skip { C.w with heap := C.w.heap.setIfInBounds (C.φ id).blk (.map ms'.toArray clock') } ∧ ∀ D, Rep D r undef)) :
    Yields tb C (r, some (C.H.set id (AObj.map es'))) x := by
  have hlt : (C.φ id).blk < C.w.heap.size := by
    by_cases h : (C.φ id).blk < C.w.heap.size
    · exact h
    · rw [Array.getElem?_eq_none (by omega)] at hb; cases hb
  obtain ⟨X, hI⟩ := upd (D := ⟨C.φ, C.H.set id (AObj.map es'), { C.w with heap := C.w.heap.setIfInBounds (C.φ id).blk (.map ms'.toArray clock') }, C.res⟩) I ⟨rfl, rfl, rfl⟩ hg rfl (fun _ _ => rfl) (by simp)
    (fun b hb hne => Array.getElem?_setIfInBounds_ne (Ne.symm hne)) (.inl rfl) (fun _ => ⟨rfl, rfl⟩) (fun _ _ _ _ e => by cases e)
  refine ⟨_, X, hI ⟨ms', clock', ?_, RepL.ext X h1, RepL.ext X h2, h3⟩, rfl, ?_⟩
  · exact Array.getElem?_setIfInBounds_self_of_lt hlt
  · rcases hx with ⟨v, e, h⟩ | ⟨e, h⟩
    · exact .inl ⟨v, e, h _⟩
    · exact .inr ⟨e, h _⟩
theorem map_at (I : Inv tb C) {id : Nat} {es : List (AV × AV)} (h : mapAt C.H id = some es) : C.H[id]? = some (.map es) ∧ ∃ (ms : List MapEntry) (clock : Nat), C.w.heap[(C.φ id).blk]? = some (.map ms.toArray clock) ∧ RepL C (es.map (·.1)) (ms.map (·.key)) ∧ RepL C (es.map (·.2)) (ms.map (·.val)) ∧ Stamped ms clock := by
  have hg : C.H[id]? = some (.map es) := by
    unfold mapAt at h
    split at h
    · rename_i es' hg; rw [hg]; rw [Option.some.inj h]
    · cases h
  exact ⟨hg, I.obj id _ hg⟩
theorem sim_mup (I : Inv tb C) (F : FrRel C f a nt) {o : Oper} {t kt e : TypeId} {ek : EK} {m k v : AO} {y1 y2 y3 : Operand} (ho : o.op = .mapUpdate t y1 y2 y3 ∨ o.op = .insert t y1 y2 y3) (hu : P.underlying t = some (.map kt e)) (hk : okKey P ek kt = true) (h1 : okAO m y1 = true) (h2 : okAO k y2 = true) (h3 : okAO v y3 = true)
    {id : Nat} (hm : eval tb f m = .mp id) {es : List (AV × AV)} (he : mapAt C.H id = some es) (hko : keyOk ek (eval tb f k) = true) {q : Option (Nat × AV)} (hq : find ek (eval tb f k) es 0 = some q) :
    Yields tb C ((match (generalizing := false) q with
        | some (i, _) => (.junk, some (C.H.set id (AObj.map (es.set i (eval tb f k, eval tb f v)))))
        | none => (.junk, some (C.H.set id (AObj.map (es ++ [(eval tb f k, eval tb f v)]))))) : AV × Option Heap) ((execOp a.eval o).run P C.w) := by
  have r1 := rep_eval I F h1
  have r2 := rep_eval I F h2
  have r3 := rep_eval I F h3
  rw [hm] at r1
  have e1 : a.eval y1 = .map (some (C.φ id).blk) := r1.2
  obtain ⟨hg, ms, clock, hb, g1, g2, gs⟩ := map_at I he
  obtain ⟨r', f1, f2⟩ := find_key hk r2 g1 g2 hq
  have ho' : execOp a.eval o = (Instr.mapUpdate t (a.eval y1) (a.eval y2) (a.eval y3) >>= fun _ => pure .skip) := by
    rcases ho with ho | ho <;> simp only [execOp, ho]
  cases q with
  | none =>
    simp only [Found] at f2
    subst f2
    refine yields_map (ms' := ms ++ [{ key := a.eval y2, val := a.eval y3, born := clock }]) (clock' := clock + 1) I hg hb ?_ ?_ (gs.add rfl) (.inr ⟨?_, fun D => trivial⟩)
    · simp only [List.map_append, List.map_cons, List.map_nil]
      exact RepL.app g1 ⟨_, [], rfl, r2, rfl⟩
    · simp only [List.map_append, List.map_cons, List.map_nil]
      exact RepL.app g2 ⟨_, [], rfl, r3, rfl⟩
    · rw [ho']
      simp only [e1, Instr.mapUpdate, Sem.run_bind, run_underlying' hu, Result.andThen_ok, MapKept.run_getObj_map hb, check_key hk hko r2, f1, MapKept.run_setObj_map _ hb, Sem.run_pure]
      simp
  | some p =>
    obtain ⟨n, v0⟩ := p
    obtain ⟨j, e0, hn, rfl, hj, hkey, hv, hst⟩ := f2
    obtain rfl : n = j := by omega
    have hmod := modify_set (fun x : MapEntry => { x with key := a.eval y2, val := a.eval y3 }) ms n e0 hj
    refine yields_map (ms' := ms.set n { e0 with key := a.eval y2, val := a.eval y3 }) (clock' := clock) I hg hb ?_ ?_ (gs.set hj rfl) (.inr ⟨?_, fun D => trivial⟩)
    · simp only [List.map_set]
      exact RepL.set r2 g1
    · simp only [List.map_set]
      exact RepL.set r3 g2
    · rw [ho']
      have hj' : ms.toArray[n]? = some e0 := by simpa using hj
      simp only [e1, Instr.mapUpdate, Sem.run_bind, run_underlying' hu, Result.andThen_ok, MapKept.run_getObj_map hb, check_key hk hko r2, f1, hj', Option.map_some, Option.getD_some, hkey, hst, MapKept.run_setObj_map _ hb, Sem.run_pure]
      congr 4
      rw [← hmod]
      simp
theorem sim_del (I : Inv tb C) (F : FrRel C f a nt) {o : Oper} {c : Call} {t kt e : TypeId} {ts : List TypeId} {ek : EK} {m k : AO} {y1 y2 : Operand} (ho : o.op = .call c) (hc : c.callee = .builtin .delete) (ha : c.args = #[y1, y2]) (ht : c.argTypes = (t :: ts).toArray)
    (hu : P.underlying t = some (.map kt e)) (hk : okKey P ek kt = true) (h1 : okAO m y1 = true) (h2 : okAO k y2 = true) (hko : keyOk ek (eval tb f k) = true) {r : AV × Option Heap}
    (h : (match eval tb f m with
      | .nilm => some (.tup [], none)
      | .mp id => (mapAt C.H id).bind fun es => (find ek (eval tb f k) es 0).map fun r => match r with
        | some (i, _) => (.tup [], some (C.H.set id (AObj.map (es.eraseIdx i))))
        | none => (.tup [], none)
      | _ => none) = some r) : Yields tb C r ((execOp a.eval o).run P C.w) := by
  have r1 := rep_eval I F h1
  have r2 := rep_eval I F h2
  have run : ∀ {w'}, (Builtin.delete_ (t :: ts).toArray o.type #[a.eval y1, a.eval y2]).run P C.w = .ok (.tuple #[]) w' → (execOp a.eval o).run P C.w = .ok (.value (.tuple #[])) w' := by
    intro w' hv
    refine run_builtin ho hc fun q => ?_
    simp only [ha, ht, List.map_toArray, List.map_cons, List.map_nil, builtin, Sem.run_bind, hv, Result.andThen_ok, Sem.run_pure]
  generalize eval tb f m = v at *
  cases v <;> simp only [reduceCtorEq] at h
  case nilm =>
    obtain rfl := Option.some.inj h
    have e1 : a.eval y1 = .map none := r1
    refine yields_pure I (v := .tuple #[]) (run ?_) ⟨[], rfl, rfl⟩
    simp only [Builtin.delete_, List.getElem?_toArray, List.getElem?_cons_zero, List.getElem?_cons_succ, e1, Sem.run_bind, run_underlying' hu, Result.andThen_ok, check_key hk hko r2, Sem.run_pure]
  case mp id =>
    have e1 : a.eval y1 = .map (some (C.φ id).blk) := r1.2
    obtain ⟨es, he, h⟩ := Option.bind_eq_some_iff.1 h
    obtain ⟨q, hq, rfl⟩ := Option.map_eq_some_iff.1 h
    obtain ⟨hg, ms, clock, hb, g1, g2, gs⟩ := map_at I he
    obtain ⟨r', f1, f2⟩ := find_key hk r2 g1 g2 hq
    cases q with
    | none =>
      simp only [Found] at f2
      subst f2
      refine yields_pure I (v := .tuple #[]) (run ?_) ⟨[], rfl, rfl⟩
      simp only [Builtin.delete_, List.getElem?_toArray, List.getElem?_cons_zero, List.getElem?_cons_succ, e1, Sem.run_bind, run_underlying' hu, Result.andThen_ok, MapKept.run_getObj_map hb, check_key hk hko r2, f1, MapKept.run_setObj_map _ hb, Sem.run_pure]
      have : C.w.heap.setIfInBounds (C.φ id).blk (.map ms.toArray clock) = C.w.heap := by
        apply Array.ext_getElem?
        intro i
        by_cases hi : (C.φ id).blk = i
        · subst hi
          have hlt : (C.φ id).blk < C.w.heap.size := by
            by_cases h : (C.φ id).blk < C.w.heap.size
            · exact h
            · rw [Array.getElem?_eq_none (by omega)] at hb; cases hb
          rw [Array.getElem?_setIfInBounds_self_of_lt hlt, hb]
        · rw [Array.getElem?_setIfInBounds_ne hi]
      rw [this]
    | some p =>
      obtain ⟨n, v0⟩ := p
      obtain ⟨j, e0, hn, rfl, hj, hkey, hv, hst⟩ := f2
      obtain rfl : n = j := by omega
      have hnl : n < ms.length := (List.getElem?_eq_some_iff.1 hj).1
      refine yields_map (ms' := ms.eraseIdx n) (clock' := clock) I hg hb ?_ ?_ (gs.erase n) (.inl ⟨.tuple #[], run ?_, fun D => ⟨[], rfl, rfl⟩⟩)
      · rw [map_eraseIdx', map_eraseIdx']
        exact RepL.erase g1
      · rw [map_eraseIdx', map_eraseIdx']
        exact RepL.erase g2
      · simp only [Builtin.delete_, List.getElem?_toArray, List.getElem?_cons_zero, List.getElem?_cons_succ, e1, Sem.run_bind, run_underlying' hu, Result.andThen_ok, MapKept.run_getObj_map hb, check_key hk hko r2, f1, MapKept.run_setObj_map _ hb, Sem.run_pure]
        congr 3
        simp [Array.eraseIdxIfInBounds, hnl]
end
end Go.Proofs.YtoegmdfkcaojlaaGreat.Am
namespace Go.Proofs.YtoegmdfkcaojlaaGreat.Am
section
variable {cl : Nat → List AV → Heap → Out} {P : Program} {tb : Tab} {C : Ctx} {f : Fr} {a : Act} {nt : Nat}
end
end Go.Proofs.YtoegmdfkcaojlaaGreat.Am
namespace Go.Proofs.YtoegmdfkcaojlaaGreat.Am
section
variable {cl : Nat → List AV → Heap → Out} {P : Program} {tb : Tab} {C : Ctx} {f : Fr} {a : Act} {nt : Nat}
theorem sim_capn (I : Inv tb C) (F : FrRel C f a nt) {o : Oper} {c : Call} {t e : TypeId} {x : AO} {y : Operand} (ho : o.op = .call c) (hc : c.callee = .builtin .cap) (ht : c.argTypes[0]? = some t) (ha : c.args = #[y])
    (hx : okAO x y = true) (h : eval tb f x = .nils) (hu : P.underlying t = some (.slice e)) : Yields tb C (.i .i64 0, none) ((execOp a.eval o).run P C.w) := by
  have r := rep_eval I F hx
  rw [h] at r
  have r' : a.eval y = .slice none 0 0 := r
  refine yields_pure I (v := .int .i64 0) (run_builtin ho hc fun q => ?_) rfl
  simp only [ha, List.map_toArray, List.map_cons, List.map_nil, builtin, Sem.run_bind, Builtin.cap_, ht]
  simp [r', run_underlying' hu, goInt]
end
end Go.Proofs.YtoegmdfkcaojlaaGreat.Am
namespace Go.Proofs.YtoegmdfkcaojlaaGreat.Am
def After (tb : Tab) (C : Ctx) (r : AV × Option Heap) (e : Ending) (w : World) : Prop :=
  ∃ (v : Value) (D : Ctx), e = .returned v ∧ Ext C D ∧ Inv tb D ∧ D.w = w ∧ D.H = r.2.getD C.H ∧ Rep D r.1 v
def Lands (P : Program) (tb : Tab) (C : Ctx) (r : AV × Option Heap) (x : Result Next) : Prop :=
  Yields tb C r x ∨ ∃ (g : Nat) (vs : Array Value), x = .ok (.enter g vs) C.w ∧ Calls P g vs C.w (After tb C r)
def CallsOk (P : Program) (tb : Tab) (cl : Nat → List AV → Heap → Out) : Prop :=
  ∀ (g : Nat) (C : Ctx) (args : List AV) (vs : List Value) (r : AV × Option Heap), Inv tb C → RepL C args vs → cl g args C.H = some r → Lands P tb C r ((callFunc g vs.toArray).run P C.w)
def PrimsOk (P : Program) (tb : Tab) : Prop := ∀ g p, tb.prim g = some p → CallsOk P tb fun g' args h => if g' = g then p args h else none
theorem callsOk_calling {P : Program} {tb : Tab} {cl : Nat → List AV → Heap → Out} (hp : PrimsOk P tb) (hc : CallsOk P tb cl) : CallsOk P tb fun g args h => calling tb cl h g args := by
  intro g C args vs r I hr h
  simp only [calling] at h
  split at h
  · rename_i p hpg
    exact hp g p hpg g C args vs r I hr (by simpa using h)
  · exact hc g C args vs r I hr h
theorem wp_of_lands {P : Program} {tb : Tab} {C : Ctx} {a : Act} {o : Oper} {r : AV × Option Heap} (h : Lands P tb C r ((execOp a.eval o).run P C.w)) {next : Act → World → Prop} {Q : Exit → Act → World → Prop}
    (k : ∀ (v : Value) (D : Ctx), Ext C D → Inv tb D → D.H = r.2.getD C.H → Rep D r.1 v → next (a.put o.dst v) D.w) : o.wp P a C.w next Q := by
  rcases h with h | ⟨g, vs, e, hc⟩
  · exact wp_of_yields h k
  · unfold Oper.wp
    rw [e]
    refine hc.mono fun e w' ⟨v, D, he, X, I, hw, hH, hr⟩ => ?_
    subst he
    subst hw
    exact k v D X I hH hr
def OpOk (P : Program) (tb : Tab) (ao : AOp) (o : Oper) : Prop :=
  ∀ {cl : Nat → List AV → Heap → Out} {C : Ctx} {f : Fr} {a : Act} {nt : Nat} {r : AV × Option Heap}, CallsOk P tb (fun g args h => calling tb cl h g args) → Inv tb C → FrRel C f a nt →
    aop tb cl (eval tb f) C.H ao = some r → Lands P tb C r ((execOp a.eval o).run P C.w)
section
variable {P : Program} {tb : Tab} {o : Oper}
def isSlice (P : Program) (t e : TypeId) : Bool := match P.underlying t with
  | some (.slice e') => e == e'
  | _ => false
def elem? (P : Program) (t : TypeId) : Option TypeId := match P.underlying t with
  | some (.slice e) => some e
  | _ => none
theorem elem?_spec {t e : TypeId} (h : elem? P t = some e) : P.underlying t = some (.slice e) := by
  unfold elem? at h
  split at h
  · rename_i e' hu; rw [hu]; simp at h; rw [h]
  · cases h
def arr? (P : Program) (t : TypeId) : Option (Nat × TypeId) := match P.underlying t with
  | some (.array n e) => some (n, e)
  | _ => none
theorem arr?_spec {t e : TypeId} {n : Nat} (h : arr? P t = some (n, e)) : P.underlying t = some (.array n e) := by
  unfold arr? at h
  split at h
  · rename_i n' e' hu; rw [hu]; simp at h; rw [h.1, h.2]
  · cases h
def struct? (P : Program) (t : TypeId) : Option (Array Field) := match P.underlying t with
  | some (.struct fs) => some fs
  | _ => none
theorem struct?_spec {t : TypeId} {fs : Array Field} (h : struct? P t = some fs) : P.underlying t = some (.struct fs) := by
  unfold struct? at h
  split at h
  · rename_i fs' hu; rw [hu]; simp at h; rw [h]
  · cases h
def isStr (P : Program) (t : TypeId) : Bool := match P.underlying t with
  | some .string => true
  | _ => false
theorem isStr_spec {t : TypeId} (h : isStr P t = true) : P.underlying t = some .string := by
  unfold isStr at h
  split at h
  · assumption
  · cases h
def intk? (P : Program) (t : TypeId) : Option IntKind := match P.underlying t with
  | some (.int k) => some k
  | _ => none
theorem intk?_spec {t : TypeId} {k : IntKind} (h : intk? P t = some k) : P.underlying t = some (.int k) := by
  unfold intk? at h
  split at h
  · rename_i fs' hu; rw [hu]; simp at h; rw [h]
  · cases h
def isIface (P : Program) (t : TypeId) : Bool := match P.underlying t with
  | some (.interface _) => true
  | _ => false
def okMv (P : Program) (x : AO) (o : Oper) : Bool := match o.op with
  | .move y => okAO x y
  | .assign y => okAO x y
  | .call c => match c.callee, c.args.toList, (c.argTypes[0]?).bind (arr? P), x with
    | .builtin .len, [_], some (n, _), .k (.i .i64 m) => m == n
    | _, _, _, _ => false
  | _ => false
theorem ok_mv {x : AO} (h : okMv P x o = true) : OpOk P tb (.mv x) o := by
  intro cl C f a nt r hc I F hr
  simp only [aop, Option.some.injEq] at hr
  subst hr
  unfold okMv at h
  split at h
  · rename_i y ho; exact .inl (sim_mv I F (.inl ho) h)
  · rename_i y ho; exact .inl (sim_mv I F (.inr ho) h)
  · rename_i c ho
    split at h
    · rename_i y n e m hcal hargs hty
      have hm : m = (n : Int) := by simpa using h
      subst hm
      obtain ⟨t, ht, hu⟩ := Option.bind_eq_some_iff.1 hty
      have hargs' : c.args = #[y] := by rw [← Array.toList_inj, hargs]
      refine .inl (yields_pure I (v := .int .i64 n) (run_builtin ho hcal fun q => ?_) rfl)
      simp [hargs', builtin, Builtin.len_, ht, run_underlying' (arr?_spec hu), goInt]
    · cases h
  · cases h
def okPick (x y z : AO) (o : Oper) : Bool := match o.op with
  | .pick a b c => okAO x a && okAO y b && okAO z c
  | _ => false
theorem ok_pick {x y z : AO} (h : okPick x y z o = true) : OpOk P tb (.pick x y z) o := by
  intro cl C f a nt r hc I F hr
  unfold okPick at h
  split at h
  · rename_i a b c ho
    simp only [Bool.and_eq_true] at h
    simp only [aop] at hr
    split at hr
    · rename_i t ht
      simp only [Option.some.injEq] at hr
      subst hr
      exact .inl (sim_pick I F ho h.1.1 h.1.2 h.2 ht)
    · cases hr
  · cases h
def okAlloc (P : Program) (t0 : Nat) (z : List AV) (o : Oper) : Bool := match o.op with
  | .alloc t => match (P.info? t).bind (·.zero) with
    | some zv => Nat.beq t0 t && isSs z zv.cells.toList
    | none => false
  | _ => false
theorem ok_alloc {t0 : Nat} {z : List AV} (h : okAlloc P t0 z o = true) : OpOk P tb (.alloc t0 z) o := by
  intro cl C f a nt r hc I F hr
  unfold okAlloc at h
  split at h
  · rename_i t ho
    split at h
    · rename_i zv hz
      obtain ⟨i, hi, hz2⟩ := Option.bind_eq_some_iff.1 hz
      simp only [aop, Option.some.injEq] at hr
      subst hr
      rw [Bool.and_eq_true] at h
      obtain rfl := Nat.eq_of_beq_eq_true h.1
      exact .inl (sim_alloc I ho hi hz2 h.2)
    · cases h
  · cases h
def okBox (t0 n : Nat) (x : AO) (o : Oper) : Bool := match o.op with
  | .box t y => (okAO x y && decide (0 < n)) && Nat.beq t0 t
  | _ => false
theorem ok_box {t0 n : Nat} {x : AO} (h : okBox t0 n x o = true) : OpOk P tb (.box t0 n x) o := by
  intro cl C f a nt r hc I F hr
  unfold okBox at h
  split at h
  · rename_i t y ho
    rw [Bool.and_eq_true] at h
    obtain rfl := Nat.eq_of_beq_eq_true h.2
    replace h := h.1
    simp only [Bool.and_eq_true, decide_eq_true_eq] at h
    simp only [aop] at hr
    split at hr
    · rename_i hn
      simp only [Option.some.injEq] at hr
      subst hr
      exact .inl (sim_box I F ho h.1 (by omega))
    · cases hr
  · cases h
def okLd (P : Program) (ag : Bool) (n : Nat) (x : AO) (o : Oper) : Bool := match o.op with
  | .load t y => okAO x y && (P.underlying t).isSome && ag == aggT P t && n == P.cellsOf t
  | _ => false
theorem ok_ld {ag : Bool} {n : Nat} {x : AO} (h : okLd P ag n x o = true) : OpOk P tb (.ld ag n x) o := by
  intro cl C f a nt r hc I F hr
  unfold okLd at h
  split at h
  · rename_i t y ho
    simp only [Bool.and_eq_true, beq_iff_eq] at h
    obtain ⟨⟨⟨h1, h2⟩, rfl⟩, rfl⟩ := h
    exact .inl (sim_ld I F ho h1 h2 hr)
  · cases h
def okSt (P : Program) (n : Nat) (x z : AO) (o : Oper) : Bool := match o.op with
  | .store t y u => okAO x y && okAO z u && (P.info? t).isSome && n == P.cellsOf t && decide (0 < n)
  | _ => false
theorem ok_st {n : Nat} {x z : AO} (h : okSt P n x z o = true) : OpOk P tb (.st n x z) o := by
  intro cl C f a nt r hc I F hr
  unfold okSt at h
  split at h
  · rename_i t y u ho
    simp only [Bool.and_eq_true, beq_iff_eq, decide_eq_true_eq] at h
    obtain ⟨⟨⟨⟨h1, h2⟩, h3⟩, rfl⟩, h4⟩ := h
    simp only [aop] at hr
    obtain ⟨H', hs, rfl⟩ := Option.map_eq_some_iff.1 hr
    exact .inl (sim_st I F ho h1 h2 h3 h4 hs)
  · cases h
def okNilc (x : AO) (o : Oper) : Bool := match o.op with
  | .nilCheck y => okAO x y
  | _ => false
theorem ok_nilc {x : AO} (h : okNilc x o = true) : OpOk P tb (.nilc x) o := by
  intro cl C f a nt r hc I F hr
  unfold okNilc at h
  split at h
  · rename_i y ho; exact .inl (sim_nilc I F ho h hr)
  · cases h
def okBin (op : BinOp) (x y : AO) (o : Oper) : Bool := match o.op with
  | .binOp op' _ u v _ => op == op' && okAO x u && okAO y v
  | _ => false
theorem ok_bin {op : BinOp} {x y : AO} (h : okBin op x y o = true) : OpOk P tb (.bin op x y) o := by
  intro cl C f a nt r hc I F hr
  unfold okBin at h
  split at h
  · rename_i op' t u v t' ho
    simp only [Bool.and_eq_true, beq_iff_eq] at h
    obtain ⟨⟨rfl, h1⟩, h2⟩ := h
    exact .inl (sim_bin I F ho h1 h2 hr)
  · cases h
def okUn (op : UnOp) (x : AO) (o : Oper) : Bool := match o.op with
  | .unOp op' _ u => op == op' && okAO x u
  | _ => false
theorem ok_un {op : UnOp} {x : AO} (h : okUn op x o = true) : OpOk P tb (.un op x) o := by
  intro cl C f a nt r hc I F hr
  unfold okUn at h
  split at h
  · rename_i op' t u ho
    simp only [Bool.and_eq_true, beq_iff_eq] at h
    obtain ⟨rfl, h1⟩ := h
    exact .inl (sim_un I F ho h1 hr)
  · cases h
def okCvi (P : Program) (k : IntKind) (x : AO) (o : Oper) : Bool := match o.op with
  | .convert s d y => okAO x y && (P.underlying s).isSome && intk? P d == some k
  | _ => false
theorem ok_cvi {k : IntKind} {x : AO} (h : okCvi P k x o = true) : OpOk P tb (.cvi k x) o := by
  intro cl C f a nt r hc I F hr
  unfold okCvi at h
  split at h
  · rename_i s d y ho
    simp only [Bool.and_eq_true, beq_iff_eq] at h
    simp only [aop] at hr
    split at hr
    · rename_i k' n hn
      simp only [Option.some.injEq] at hr
      subst hr
      exact .inl (sim_cvi I F ho h.1.2 (intk?_spec h.2) h.1.1 (by rw [hn]; rfl))
    · cases hr
  · cases h
def okMkf [DecidableEq Fn] (fn : Fn) (x1 x2 : List AO) (o : Oper) : Bool := match o.op with
  | .makeFunc fn' y1 y2 => decide (fn = fn') && okAOs x1 y1.toList && okAOs x2 y2.toList
  | _ => false
theorem ok_mkf [DecidableEq Fn] {fn : Fn} {x1 x2 : List AO} (h : okMkf fn x1 x2 o = true) : OpOk P tb (.mkf fn x1 x2) o := by
  intro cl C f a nt r hc I F hr
  unfold okMkf at h
  split at h
  · rename_i fn' y1 y2 ho
    simp only [Bool.and_eq_true, decide_eq_true_eq] at h
    obtain ⟨⟨rfl, h1⟩, h2⟩ := h
    simp only [aop, Option.some.injEq] at hr
    subst hr
    exact .inl (sim_mkf I F ho h1 h2)
  · cases h
def okMkif (P : Program) (t : TypeId) (x : AO) (o : Oper) : Bool := match o.op with
  | .makeInterface t' y => t == t' && okAO x y && (P.underlying t).isSome && !isIface P t
  | _ => false
theorem ok_mkif {t : TypeId} {x : AO} (h : okMkif P t x o = true) : OpOk P tb (.mkif t x) o := by
  intro cl C f a nt r hc I F hr
  unfold okMkif at h
  split at h
  · rename_i t' y ho
    simp only [Bool.and_eq_true, beq_iff_eq, Bool.not_eq_true'] at h
    obtain ⟨⟨⟨rfl, h1⟩, h2⟩, h3⟩ := h
    simp only [aop, Option.some.injEq] at hr
    subst hr
    refine .inl (sim_mkif I F ho (fun m hm => ?_) h2 h1)
    simp [isIface, hm] at h3
  · cases h
def okExt (x : AO) (i : Nat) (o : Oper) : Bool := match o.op with
  | .extract y j => okAO x y && i == j
  | _ => false
theorem ok_ext {x : AO} {i : Nat} (h : okExt x i o = true) : OpOk P tb (.ext x i) o := by
  intro cl C f a nt r hc I F hr
  unfold okExt at h
  split at h
  · rename_i y j ho
    simp only [Bool.and_eq_true, beq_iff_eq] at h
    obtain ⟨h1, rfl⟩ := h
    simp only [aop] at hr
    split at hr
    · rename_i vs hv
      simp only [val] at hr
      obtain ⟨v, hv', rfl⟩ := Option.map_eq_some_iff.1 hr
      exact .inl (sim_ext I F ho h1 hv hv')
    · cases hr
  · cases h
def bltn (o : Oper) : Option (Builtin × List Operand × List TypeId) := match o.op with
  | .call c => match c.callee with
    | .builtin b => some (b, c.args.toList, c.argTypes.toList)
    | _ => none
  | _ => none
theorem bltn_spec {b : Builtin} {l : List Operand} {ts : List TypeId} (h : bltn o = some (b, l, ts)) : ∃ c : Call, o.op = .call c ∧ c.callee = .builtin b ∧ c.args = l.toArray ∧ c.argTypes = ts.toArray := by
  unfold bltn at h
  split at h
  · rename_i c ho
    split at h
    · rename_i b' hb
      simp only [Option.some.injEq, Prod.mk.injEq] at h
      obtain ⟨rfl, rfl, rfl⟩ := h
      exact ⟨c, ho, hb, by simp, by simp⟩
    · cases h
  · cases h
def okLen (P : Program) (x : AO) (o : Oper) : Bool := match bltn o with
  | some (.len, [y], [t]) => okAO x y && (elem? P t).isSome
  | _ => false
theorem ok_len {x : AO} (h : okLen P x o = true) : OpOk P tb (.len x) o := by
  intro cl C f a nt r hc I F hr
  unfold okLen at h
  split at h
  · rename_i y t hb
    obtain ⟨c, ho, hcal, ha, ht⟩ := bltn_spec hb
    simp only [Bool.and_eq_true] at h
    obtain ⟨e, he⟩ := Option.isSome_iff_exists.1 h.2
    simp only [aop] at hr
    obtain ⟨n, hn, rfl⟩ := Option.map_eq_some_iff.1 hr
    exact .inl (sim_len I F ho hcal (by rw [ht]; rfl) ha h.1 hn (elem?_spec he))
  · cases h
def okFa (P : Program) (off : Nat) (x : AO) (o : Oper) : Bool := match o.op with
  | .fieldAddr t y i => match (struct? P t).bind (·[i]?) with
    | some fd => okAO x y && off == fd.offset && (P.info? fd.type).isSome && decide (0 < P.cellsOf fd.type)
    | none => false
  | _ => false
theorem ok_fa {off : Nat} {x : AO} (h : okFa P off x o = true) : OpOk P tb (.fa off x) o := by
  intro cl C f a nt r hc I F hr
  unfold okFa at h
  split at h
  · rename_i t y i ho
    split at h
    · rename_i fd hfd
      obtain ⟨fs, hs, hf⟩ := Option.bind_eq_some_iff.1 hfd
      simp only [Bool.and_eq_true, beq_iff_eq, decide_eq_true_eq] at h
      obtain ⟨⟨⟨h1, rfl⟩, h2⟩, h3⟩ := h
      exact .inl (sim_fa I F ho (struct?_spec hs) hf h2 (by omega) h1 hr)
    · cases h
  · cases h
def okIas (P : Program) (sz : Nat) (x i : AO) (o : Oper) : Bool := match o.op with
  | .indexAddr t y j => match elem? P t with
    | some e => okAO x y && okAO i j && (P.info? e).isSome && sz == P.cellsOf e
    | none => false
  | _ => false
theorem ok_ias {sz : Nat} {x i : AO} (h : okIas P sz x i o = true) : OpOk P tb (.ias sz x i) o := by
  intro cl C f a nt r hc I F hr
  unfold okIas at h
  split at h
  · rename_i t y j ho
    split at h
    · rename_i e he
      simp only [Bool.and_eq_true, beq_iff_eq] at h
      obtain ⟨⟨⟨h1, h2⟩, h3⟩, rfl⟩ := h
      simp only [aop] at hr
      obtain ⟨n, hn, hr⟩ := Option.bind_eq_some_iff.1 hr
      split at hr
      · rename_i h0
        exact .inl (sim_ias I F ho (elem?_spec he) h3 h1 h2 hn h0 hr)
      · cases hr
    · cases h
  · cases h
def okIaa (P : Program) (len sz : Nat) (x i : AO) (o : Oper) : Bool := match o.op with
  | .indexAddr t y j => match arr? P t with
    | some (n, e) => okAO x y && okAO i j && (P.info? e).isSome && len == n && sz == P.cellsOf e
    | none => false
  | _ => false
theorem ok_iaa {len sz : Nat} {x i : AO} (h : okIaa P len sz x i o = true) : OpOk P tb (.iaa len sz x i) o := by
  intro cl C f a nt r hc I F hr
  unfold okIaa at h
  split at h
  · rename_i t y j ho
    split at h
    · rename_i n e he
      simp only [Bool.and_eq_true, beq_iff_eq] at h
      obtain ⟨⟨⟨⟨h1, h2⟩, h3⟩, rfl⟩, rfl⟩ := h
      simp only [aop] at hr
      obtain ⟨m, hm, hr⟩ := Option.bind_eq_some_iff.1 hr
      split at hr
      · rename_i h0
        exact .inl (sim_iaa I F ho (arr?_spec he) h3 h1 h2 hm h0 hr)
      · cases hr
    · cases h
  · cases h
def okIxa (P : Program) (len sz : Nat) (ag : Bool) (x i : AO) (o : Oper) : Bool := match o.op with
  | .index t y j => match arr? P t with
    | some (n, e) => okAO x y && okAO i j && (P.underlying e).isSome && len == n && sz == P.cellsOf e && ag == aggT P e
    | none => false
  | _ => false
theorem ok_ixa {len sz : Nat} {ag : Bool} {x i : AO} (h : okIxa P len sz ag x i o = true) : OpOk P tb (.ixa len sz ag x i) o := by
  intro cl C f a nt r hc I F hr
  unfold okIxa at h
  split at h
  · rename_i t y j ho
    split at h
    · rename_i n e he
      simp only [Bool.and_eq_true, beq_iff_eq] at h
      obtain ⟨⟨⟨⟨⟨h1, h2⟩, h3⟩, rfl⟩, rfl⟩, rfl⟩ := h
      simp only [aop] at hr
      obtain ⟨m, hm, hr⟩ := Option.bind_eq_some_iff.1 hr
      split at hr
      · rename_i cs hv
        split at hr
        · rename_i h0
          simp only [val] at hr
          obtain ⟨v, hv', rfl⟩ := Option.map_eq_some_iff.1 hr
          exact .inl (sim_ixa I F ho (arr?_spec he) h3 h1 h2 hm hv ⟨h0.1, h0.2.1⟩ h0.2.2 hv')
        · cases hr
      · cases hr
    · cases h
  · cases h
def okSls (P : Program) (x : AO) (lo hi : Option AO) (o : Oper) : Bool := match o.op with
  | .slice t y ylo yhi none => okAO x y && okO lo ylo && okO hi yhi && isStr P t
  | _ => false
def okSll (P : Program) (sz : Nat) (x : AO) (lo hi : Option AO) (o : Oper) : Bool := match o.op with
  | .slice t y ylo yhi none => match elem? P t with
    | some e => okAO x y && okO lo ylo && okO hi yhi && (P.info? e).isSome && sz == P.cellsOf e
    | none => false
  | _ => false
theorem ok_sll {sz : Nat} {x : AO} {lo hi : Option AO} (h : okSll P sz x lo hi o = true) : OpOk P tb (.sll sz x lo hi) o := by
  intro cl C f a nt r hc I F hr
  unfold okSll at h
  split at h
  · rename_i t y ylo yhi ho
    split at h
    · rename_i e he
      simp only [Bool.and_eq_true, beq_iff_eq] at h
      obtain ⟨⟨⟨⟨h1, h2⟩, h3⟩, h4⟩, rfl⟩ := h
      simp only [aop] at hr
      obtain ⟨len, hl, hr⟩ := Option.bind_eq_some_iff.1 hr
      obtain ⟨⟨p, q⟩, hb, hr⟩ := Option.bind_eq_some_iff.1 hr
      exact .inl (sim_sll I F ho (elem?_spec he) h4 h1 h2 h3 hl hb hr)
    · cases h
  · cases h
def arrp? (P : Program) (t : TypeId) : Option (Nat × TypeId) := match P.underlying t with
  | some (.array n e) => some (n, e)
  | some (.pointer u) => arr? P u
  | _ => none
theorem arrp?_spec {t e : TypeId} {n : Nat} (h : arrp? P t = some (n, e)) : P.underlying t = some (.array n e) ∨ ∃ u, P.underlying t = some (.pointer u) ∧ P.underlying u = some (.array n e) := by
  unfold arrp? at h
  split at h
  · rename_i n' e' hu; rw [hu]; simp at h; left; rw [h.1, h.2]
  · rename_i u hu; exact .inr ⟨u, hu, arr?_spec h⟩
  · cases h
def okSla (P : Program) (n sz : Nat) (x : AO) (lo hi : Option AO) (o : Oper) : Bool := match o.op with
  | .slice t y ylo yhi none => match arrp? P t with
    | some (m, e) => okAO x y && okO lo ylo && okO hi yhi && (P.info? e).isSome && n == m && sz == P.cellsOf e && decide (0 < sz)
    | none => false
  | _ => false
theorem ok_sla {n sz : Nat} {x : AO} {lo hi : Option AO} (h : okSla P n sz x lo hi o = true) : OpOk P tb (.sla n sz x lo hi) o := by
  intro cl C f a nt r hc I F hr
  unfold okSla at h
  split at h
  · rename_i t y ylo yhi ho
    split at h
    · rename_i m e he
      simp only [Bool.and_eq_true, beq_iff_eq, decide_eq_true_eq] at h
      obtain ⟨⟨⟨⟨⟨⟨h1, h2⟩, h3⟩, h4⟩, rfl⟩, rfl⟩, h5⟩ := h
      simp only [aop] at hr
      obtain ⟨⟨p, q⟩, hb, hr⟩ := Option.bind_eq_some_iff.1 hr
      exact .inl (sim_sla I F ho h4 h5 (arrp?_spec he) h1 h2 h3 hb hr)
    · cases h
  · cases h
def okApp (P : Program) (t0 sz bytes : Nat) (s x : AO) (o : Oper) : Bool := match bltn o with
  | some (.append, [y1, y2], [t, u]) => okAO s y1 && okAO x y2 && ((elem? P u).isSome || isStr P u) && match elem? P t with
    | some e => sz == P.cellsOf e && decide (0 < sz) && match P.info? e with
      | some i => bytes == i.bytes && decide (0 < bytes) && match i.zero with
        | some z => z.cells.size == sz && Nat.beq t0 e
        | none => false
      | none => false
    | none => false
  | _ => false
theorem ok_app {t0 sz bytes : Nat} {s x : AO} (h : okApp P t0 sz bytes s x o = true) : OpOk P tb (.app t0 sz bytes s x) o := by
  intro cl C f a nt r hc I F hr
  unfold okApp at h
  split at h
  · rename_i y1 y2 t u hb
    obtain ⟨c, ho, hcal, ha, ht⟩ := bltn_spec hb
    simp only [Bool.and_eq_true, Bool.or_eq_true] at h
    obtain ⟨⟨⟨h1, h2⟩, h3⟩, h4⟩ := h
    split at h4
    · rename_i e he
      simp only [Bool.and_eq_true, beq_iff_eq, decide_eq_true_eq] at h4
      obtain ⟨⟨rfl, h5⟩, h6⟩ := h4
      split at h6
      · rename_i i hi
        simp only [Bool.and_eq_true, beq_iff_eq, decide_eq_true_eq] at h6
        obtain ⟨⟨rfl, h7⟩, h8⟩ := h6
        split at h8
        · rename_i z hz
          rw [Bool.and_eq_true] at h8
          obtain rfl := Nat.eq_of_beq_eq_true h8.2
          replace h8 := h8.1
          simp only [beq_iff_eq] at h8
          simp only [aop] at hr
          obtain ⟨new, hn, hr⟩ := Option.bind_eq_some_iff.1 hr
          refine .inl (sim_app I F ho hcal (by rw [ha]) (by rw [ht]) (elem?_spec he) ?_ hi hz h8 h5 h7 h1 h2 hn hr)
          rcases h3 with h3 | h3
          · obtain ⟨e', he'⟩ := Option.isSome_iff_exists.1 h3
            exact ⟨_, elem?_spec he', fun k hk => (by cases hk)⟩
          · exact ⟨_, isStr_spec h3, fun k hk => (by cases hk)⟩
        · cases h8
      · cases h6
    · cases h4
  · cases h
def okCpy (P : Program) (sz : Nat) (d x : AO) (o : Oper) : Bool := match bltn o with
  | some (.copy, [y1, y2], t :: _) => okAO d y1 && okAO x y2 && match elem? P t with
    | some e => sz == P.cellsOf e && decide (0 < sz) && (P.info? e).isSome
    | none => false
  | _ => false
theorem ok_cpy {sz : Nat} {d x : AO} (h : okCpy P sz d x o = true) : OpOk P tb (.cpy sz d x) o := by
  intro cl C f a nt r hc I F hr
  unfold okCpy at h
  split at h
  · rename_i y1 y2 t ts hb
    obtain ⟨c, ho, hcal, ha, ht⟩ := bltn_spec hb
    simp only [Bool.and_eq_true] at h
    obtain ⟨⟨h1, h2⟩, h4⟩ := h
    split at h4
    · rename_i e he
      simp only [Bool.and_eq_true, beq_iff_eq, decide_eq_true_eq] at h4
      obtain ⟨⟨rfl, h5⟩, h6⟩ := h4
      simp only [aop] at hr
      obtain ⟨src, hn, hr⟩ := Option.bind_eq_some_iff.1 hr
      exact .inl (sim_cpy I F ho hcal ha ht (by simp) (elem?_spec he) h6 h5 h1 h2 hn hr)
    · cases h4
  · cases h
theorem ok_die : OpOk P tb .die o := by
  intro cl C f a nt r hc I F hr
  simp [aop] at hr
def okCall (g : Nat) (xs : List AO) (o : Oper) : Bool := match o.op with
  | .call c => match c.callee with
    | .value (.func g') => g == g' && okAOs xs c.args.toList
    | _ => false
  | _ => false
theorem ok_call {g : Nat} {xs : List AO} (h : okCall g xs o = true) : OpOk P tb (.call g xs) o := by
  intro cl C f a nt r hc I F hr
  unfold okCall at h
  split at h
  · rename_i c ho
    split at h
    · rename_i g' hcal
      simp only [Bool.and_eq_true, beq_iff_eq] at h
      obtain ⟨rfl, h1⟩ := h
      simp only [aop] at hr
      have := hc g C _ _ r I (rep_evals I F h1) hr
      have e : (execOp a.eval o).run P C.w = (callFunc g (c.args.toList.map a.eval).toArray).run P C.w := by
        simp only [execOp, ho, resolve, hcal, Act.eval, Deferred.ofValue, invoke, Sem.run_bind, Sem.run_pure, Result.andThen_ok]
        congr 2
        rw [← Array.toList_inj]
        simp
      rw [e]
      exact this
    · cases h
  · cases h
def okCallv (x : AO) (xs : List AO) (o : Oper) : Bool := match o.op with
  | .call c => match c.callee with
    | .value y => okAO x y && okAOs xs c.args.toList
    | _ => false
  | _ => false
theorem ok_callv {x : AO} {xs : List AO} (h : okCallv x xs o = true) : OpOk P tb (.callv x xs) o := by
  intro cl C f a nt r hc I F hr
  unfold okCallv at h
  split at h
  · rename_i c ho
    split at h
    · rename_i y hcal
      simp only [Bool.and_eq_true] at h
      obtain ⟨h1, h2⟩ := h
      simp only [aop] at hr
      split at hr
      · rename_i g first captured hv
        have rx := rep_eval I F h1
        rw [hv] at rx
        obtain ⟨p, q, e, r1, r2⟩ := rx
        have := hc g C _ _ r I (RepL.app (RepL.app r1 (rep_evals I F h2)) r2) hr
        have e' : (execOp a.eval o).run P C.w = (callFunc g (p ++ c.args.toList.map a.eval ++ q).toArray).run P C.w := by
          simp only [execOp, ho, resolve, hcal, e, Deferred.ofValue, invoke, Sem.run_bind, Sem.run_pure, Result.andThen_ok]
          congr 2
          simp
        rw [e']
        exact this
      · cases hr
    · cases h
  · cases h
def okEq (P : Program) (neg : Bool) (ek : EK) (x y : AO) (o : Oper) : Bool := match o.op with
  | .binOp op t u v _ => decide (op = if neg then .neq else .eql) && okEK P ek t && okAO x u && okAO y v
  | _ => false
theorem ok_eq {neg : Bool} {ek : EK} {x y : AO} (h : okEq P neg ek x y o = true) : OpOk P tb (.eq neg ek x y) o := by
  intro cl C f a nt r hc I F hr
  unfold okEq at h
  split at h
  · rename_i op t u v t' ho
    simp only [Bool.and_eq_true, decide_eq_true_eq] at h
    obtain ⟨⟨⟨h0, h1⟩, h2⟩, h3⟩ := h
    simp only [aop, val] at hr
    obtain ⟨b, hb, rfl⟩ := Option.map_eq_some_iff.1 hr
    obtain ⟨e, he, rfl⟩ := Option.map_eq_some_iff.1 hb
    exact .inl (sim_eq I F ho h0 h1 h2 h3 he)
  · cases h
def okBld (P : Program) (zero : List AV) (ps : List (Nat × Nat × AO)) (o : Oper) : Bool := match o.op with
  | .build t ys => match plc? P t, (P.info? t).bind (·.zero) with
    | some place, some z => isSs zero z.cells.toList && okParts place ps ys.toList
    | _, _ => false
  | _ => false
theorem ok_bld {zero : List AV} {ps : List (Nat × Nat × AO)} (h : okBld P zero ps o = true) : OpOk P tb (.bld zero ps) o := by
  intro cl C f a nt r hc I F hr
  unfold okBld at h
  split at h
  · rename_i t ys ho
    split at h
    · rename_i place z hp hz
      obtain ⟨i, hi, hz⟩ := Option.bind_eq_some_iff.1 hz
      simp only [Bool.and_eq_true] at h
      simp only [aop, val] at hr
      obtain ⟨v, hv, rfl⟩ := Option.map_eq_some_iff.1 hr
      obtain ⟨cs, hcs, rfl⟩ := Option.map_eq_some_iff.1 hv
      exact .inl (sim_bld I F ho hp hi hz h.1 h.2 hcs)
    · cases h
  · cases h
def okBls (P : Program) (sz : Nat) (zero : List (List AV)) (ps : List (Nat × AO)) (o : Oper) : Bool := match o.op with
  | .buildSlice t len ys => match elem? P t with
    | some e => match (P.info? e).bind (·.zero) with
      | some z => sz == P.cellsOf e && decide (z.cells.size = P.cellsOf e) && decide (0 < P.cellsOf e) && decide (len * P.cellsOf e ≤ 2 ^ 24) && decide (zero.length = len) && zero.all (isSs · z.cells.toList) && okElems sz ps ys.toList
      | none => false
    | none => false
  | _ => false
def okLabS (P : Program) (t0 : Nat) (o : Oper) : Bool := match o.op with
  | .buildSlice t _ _ => match elem? P t with
    | some e => Nat.beq t0 e
    | none => false
  | _ => false
theorem ok_bls {t0 sz : Nat} {zero : List (List AV)} {ps : List (Nat × AO)} (h : (okBls P sz zero ps o && okLabS P t0 o) = true) : OpOk P tb (.bls t0 sz zero ps) o := by
  intro cl C f a nt r hc I F hr
  rw [Bool.and_eq_true] at h
  obtain ⟨h, hl⟩ := h
  unfold okBls at h
  unfold okLabS at hl
  split at h
  · rename_i t len ys ho
    split at h
    · rename_i e he
      split at h
      · rename_i z hz
        obtain ⟨i, hi, hz2⟩ := Option.bind_eq_some_iff.1 hz
        simp only [Bool.and_eq_true, beq_iff_eq, decide_eq_true_eq] at h
        obtain ⟨⟨⟨⟨⟨⟨rfl, h1⟩, h2⟩, h3⟩, h4⟩, h5⟩, h6⟩ := h
        simp only [aop] at hr
        obtain ⟨els, hv, rfl⟩ := Option.map_eq_some_iff.1 hr
        simp only [ho, he] at hl
        obtain rfl := Nat.eq_of_beq_eq_true hl
        exact .inl (sim_bls I F ho (elem?_spec he) hi hz2 h1 h2 h3 h4 h5 h6 hv)
      · cases h
    · cases h
  · cases h
theorem ok_bll {sz : Nat} {zero : List (List AV)} {ps : List (Nat × AO)} (h : okBls P sz zero ps o = true) : OpOk P tb (.bll sz zero ps) o := by
  intro cl C f a nt r hc I F hr
  unfold okBls at h
  split at h
  · rename_i t len ys ho
    split at h
    · rename_i e he
      split at h
      · rename_i z hz
        obtain ⟨i, hi, hz⟩ := Option.bind_eq_some_iff.1 hz
        simp only [Bool.and_eq_true, beq_iff_eq, decide_eq_true_eq] at h
        obtain ⟨⟨⟨⟨⟨⟨rfl, h1⟩, h2⟩, h3⟩, h4⟩, h5⟩, h6⟩ := h
        simp only [aop, val] at hr
        obtain ⟨u, hu, rfl⟩ := Option.map_eq_some_iff.1 hr
        obtain ⟨els, hv, rfl⟩ := Option.map_eq_some_iff.1 hu
        exact .inl (sim_bll I F ho (elem?_spec he) hi hz h1 h2 h3 h4 h5 h6 hv)
      · cases h
    · cases h
  · cases h
def okS2a (P : Program) (n sz : Nat) (x : AO) (o : Oper) : Bool := match o.op with
  | .sliceToArrayPointer t y => match arr? P t with
    | some (m, e) => okAO x y && n == m && sz == P.cellsOf e && decide (0 < n)
    | none => false
  | _ => false
theorem ok_s2a {n sz : Nat} {x : AO} (h : okS2a P n sz x o = true) : OpOk P tb (.s2a n sz x) o := by
  intro cl C f a nt r hc I F hr
  unfold okS2a at h
  split at h
  · rename_i t y ho
    split at h
    · rename_i m e he
      simp only [Bool.and_eq_true, beq_iff_eq, decide_eq_true_eq] at h
      obtain ⟨⟨⟨h1, rfl⟩, rfl⟩, h2⟩ := h
      exact .inl (sim_s2a I F ho (arr?_spec he) h2 h1 hr)
    · cases h
  · cases h
def okMnx (mx : Bool) (x y : AO) (o : Oper) : Bool := match bltn o with
  | some (.max, [u, v], _) => mx && okAO x u && okAO y v
  | some (.min, [u, v], _) => !mx && okAO x u && okAO y v
  | _ => false
theorem ok_mnx {mx : Bool} {x y : AO} (h : okMnx mx x y o = true) : OpOk P tb (.mnx mx x y) o := by
  intro cl C f a nt r hc I F hr
  simp only [aop] at hr
  split at hr
  · rename_i k p k' q e1 e2
    split at hr
    · rename_i hk
      subst hk
      simp only [Option.some.injEq] at hr
      subst hr
      unfold okMnx at h
      split at h
      · rename_i u v ts hb
        obtain ⟨c, ho, hcal, ha, ht⟩ := bltn_spec hb
        simp only [Bool.and_eq_true] at h
        obtain ⟨⟨rfl, h1⟩, h2⟩ := h
        exact .inl (sim_mnx (mx := true) I F ho hcal (by rw [ha]) h1 h2 e1 e2)
      · rename_i u v ts hb
        obtain ⟨c, ho, hcal, ha, ht⟩ := bltn_spec hb
        simp only [Bool.and_eq_true, Bool.not_eq_true'] at h
        obtain ⟨⟨rfl, h1⟩, h2⟩ := h
        exact .inl (sim_mnx (mx := false) I F ho hcal (by rw [ha]) h1 h2 e1 e2)
      · cases h
    · cases hr
  · cases hr
def map? (P : Program) (t : TypeId) : Option (TypeId × TypeId) := match P.underlying t with
  | some (.map k e) => some (k, e)
  | _ => none
theorem map?_spec {t k e : TypeId} (h : map? P t = some (k, e)) : P.underlying t = some (.map k e) := by
  unfold map? at h
  split at h
  · rename_i k' e' hu; rw [hu]; simp at h; rw [h.1, h.2]
  · cases h
def okLkp (P : Program) (ek : EK) (zero : AV) (ok : Bool) (m k : AO) (o : Oper) : Bool := match o.op with
  | .lookup t y1 y2 ok' => ok == ok' && okAO m y1 && okAO k y2 && match map? P t with
    | some (kt, e) => okKey P ek kt && match (P.info? e).bind (·.zero) with
      | some z => isV zero z
      | none => false
    | none => false
  | _ => false
theorem ok_lkp {ek : EK} {zero : AV} {ok : Bool} {m k : AO} (h : okLkp P ek zero ok m k o = true) : OpOk P tb (.lkp ek zero ok m k) o := by
  intro cl C f a nt r hc I F hr
  unfold okLkp at h
  split at h
  · rename_i t y1 y2 ok' ho
    simp only [Bool.and_eq_true, beq_iff_eq] at h
    obtain ⟨⟨⟨rfl, h1⟩, h2⟩, h3⟩ := h
    split at h3
    · rename_i kt e hm
      simp only [Bool.and_eq_true] at h3
      obtain ⟨h4, h5⟩ := h3
      split at h5
      · rename_i z hz
        obtain ⟨i, hi, hz⟩ := Option.bind_eq_some_iff.1 hz
        simp only [aop] at hr
        split at hr
        · rename_i hko
          obtain ⟨es, he, hr⟩ := Option.bind_eq_some_iff.1 hr
          obtain ⟨q, hq, rfl⟩ := Option.map_eq_some_iff.1 hr
          exact .inl (sim_lkp I F ho (map?_spec hm) hi hz h5 h4 h1 h2 he hko hq)
        · cases hr
      · cases h5
    · cases h3
  · cases h
def okMup (P : Program) (ek : EK) (m k v : AO) (o : Oper) : Bool := match o.op with
  | .mapUpdate t y1 y2 y3 => okAO m y1 && okAO k y2 && okAO v y3 && match map? P t with
    | some (kt, _) => okKey P ek kt
    | none => false
  | .insert t y1 y2 y3 => okAO m y1 && okAO k y2 && okAO v y3 && match map? P t with
    | some (kt, _) => okKey P ek kt
    | none => false
  | _ => false
theorem ok_mup {ek : EK} {m k v : AO} (h : okMup P ek m k v o = true) : OpOk P tb (.mup ek m k v) o := by
  intro cl C f a nt r hc I F hr
  have main : ∀ {t : TypeId} {y1 y2 y3 : Operand}, (o.op = .mapUpdate t y1 y2 y3 ∨ o.op = .insert t y1 y2 y3) → (okAO m y1 && okAO k y2 && okAO v y3 && (match map? P t with
    | some (kt, _) => okKey P ek kt
    | none => false)) = true → Lands P tb C r ((execOp a.eval o).run P C.w) := by
    intro t y1 y2 y3 ho h
    simp only [Bool.and_eq_true] at h
    obtain ⟨⟨⟨h1, h2⟩, h3⟩, h4⟩ := h
    split at h4
    · rename_i kt e hm
      simp only [aop] at hr
      split at hr
      · rename_i id hid
        split at hr
        · rename_i hko
          obtain ⟨es, he, hr⟩ := Option.bind_eq_some_iff.1 hr
          obtain ⟨q, hq, rfl⟩ := Option.map_eq_some_iff.1 hr
          exact .inl (sim_mup I F ho (map?_spec hm) h4 h1 h2 h3 hid he hko hq)
        · cases hr
      · cases hr
    · cases h4
  unfold okMup at h
  split at h
  · rename_i t y1 y2 y3 ho; exact main (.inl ho) h
  · rename_i t y1 y2 y3 ho; exact main (.inr ho) h
  · cases h
def okMkm (o : Oper) : Bool := match o.op with
  | .makeMap _ none => true
  | _ => false
theorem ok_mkm (h : okMkm o = true) : OpOk P tb .mkm o := by
  intro cl C f a nt r hc I F hr
  unfold okMkm at h
  split at h
  · rename_i t ho
    simp only [aop, Option.some.injEq] at hr
    subst hr
    exact .inl (sim_mkm I ho)
  · cases h
def okCapn (P : Program) (x : AO) (o : Oper) : Bool := match bltn o with
  | some (.cap, [y], [t]) => okAO x y && (elem? P t).isSome
  | _ => false
theorem ok_capn {x : AO} (h : okCapn P x o = true) : OpOk P tb (.capn x) o := by
  intro cl C f a nt r hc I F hr
  unfold okCapn at h
  split at h
  · rename_i y t hb
    obtain ⟨c, ho, hcal, ha, ht⟩ := bltn_spec hb
    simp only [Bool.and_eq_true] at h
    obtain ⟨e, he⟩ := Option.isSome_iff_exists.1 h.2
    simp only [aop] at hr
    split at hr
    · rename_i hn
      cases hr
      exact .inl (sim_capn I F ho hcal (by rw [ht]; rfl) ha h.1 hn (elem?_spec he))
    · cases hr
  · cases h
def okLenm (P : Program) (x : AO) (o : Oper) : Bool := match bltn o with
  | some (.len, [y], [t]) => okAO x y && (map? P t).isSome
  | _ => false
theorem ok_lenm {x : AO} (h : okLenm P x o = true) : OpOk P tb (.lenm x) o := by
  intro cl C f a nt r hc I F hr
  unfold okLenm at h
  split at h
  · rename_i y t hb
    obtain ⟨c, ho, hcal, ha, ht⟩ := bltn_spec hb
    simp only [Bool.and_eq_true] at h
    obtain ⟨⟨kt, e⟩, he⟩ := Option.isSome_iff_exists.1 h.2
    simp only [aop] at hr
    obtain ⟨es, hes, rfl⟩ := Option.map_eq_some_iff.1 hr
    exact .inl (sim_lenm I F ho hcal (by rw [ht]; rfl) ha h.1 (map?_spec he) hes)
  · cases h
def okDel (P : Program) (ek : EK) (m k : AO) (o : Oper) : Bool := match bltn o with
  | some (.delete, [y1, y2], t :: _) => okAO m y1 && okAO k y2 && match map? P t with
    | some (kt, _) => okKey P ek kt
    | none => false
  | _ => false
theorem ok_del {ek : EK} {m k : AO} (h : okDel P ek m k o = true) : OpOk P tb (.del ek m k) o := by
  intro cl C f a nt r hc I F hr
  unfold okDel at h
  split at h
  · rename_i y1 y2 t ts hb
    obtain ⟨c, ho, hcal, ha, ht⟩ := bltn_spec hb
    simp only [Bool.and_eq_true] at h
    obtain ⟨⟨h1, h2⟩, h4⟩ := h
    split at h4
    · rename_i kt e hm
      simp only [aop] at hr
      by_cases hko : keyOk ek (eval tb f k) = true
      · simp only [hko, if_true] at hr
        exact .inl (sim_del I F ho hcal ha ht (map?_spec hm) h4 h1 h2 hko hr)
      · simp only [hko, if_false, Bool.false_eq_true] at hr
        split at hr <;> cases hr
    · cases h4
  · cases h
def okOp (P : Program) (ao : AOp) (o : Oper) : Bool :=
  match ao with
  | .mv x => okMv P x o
  | .pick x y z => okPick x y z o
  | .alloc t z => okAlloc P t z o
  | .box t n x => okBox t n x o
  | .ld ag n x => okLd P ag n x o
  | .st n x z => okSt P n x z o
  | .nilc x => okNilc x o
  | .bin op x y => okBin op x y o
  | .un op x => okUn op x o
  | .cvi k x => okCvi P k x o
  | .mkf fn x y => okMkf fn x y o
  | .mkif t x => okMkif P t x o
  | .ext x i => okExt x i o
  | .len x => okLen P x o
  | .fa off x => okFa P off x o
  | .ias sz x i => okIas P sz x i o
  | .iaa len sz x i => okIaa P len sz x i o
  | .ixa len sz ag x i => okIxa P len sz ag x i o
  | .sll sz x lo hi => okSll P sz x lo hi o
  | .sla n sz x lo hi => okSla P n sz x lo hi o
  | .app t sz bytes s x => okApp P t sz bytes s x o
  | .call g xs => okCall g xs o
  | .callv x xs => okCallv x xs o
  | .eq neg ek x y => okEq P neg ek x y o
  | .bld z ps => okBld P z ps o
  | .bls t sz z ps => okBls P sz z ps o && okLabS P t o
  | .bll sz z ps => okBls P sz z ps o
  | .s2a n sz x => okS2a P n sz x o
  | .mnx mx x y => okMnx mx x y o
  | .cpy sz d x => okCpy P sz d x o
  | .die => true
  | .lkp ek z ok m k => okLkp P ek z ok m k o
  | .mup ek m k v => okMup P ek m k v o
  | .mkm => okMkm o
  | .lenm x => okLenm P x o
  | .del ek m k => okDel P ek m k o
  | .capn x => okCapn P x o
  | _ => false
theorem okOp_spec (ao : AOp) (o : Oper) (h : okOp P ao o = true) : OpOk P tb ao o := by
  cases ao <;> try simp only [okOp] at h
  case mv => exact ok_mv h
  case pick => exact ok_pick h
  case alloc => exact ok_alloc h
  case box => exact ok_box h
  case ld => exact ok_ld h
  case st => exact ok_st h
  case nilc => exact ok_nilc h
  case bin => exact ok_bin h
  case un => exact ok_un h
  case cvi => exact ok_cvi h
  case mkf => exact ok_mkf h
  case mkif => exact ok_mkif h
  case ext => exact ok_ext h
  case len => exact ok_len h
  case fa => exact ok_fa h
  case ias => exact ok_ias h
  case iaa => exact ok_iaa h
  case ixa => exact ok_ixa h
  case sll => exact ok_sll h
  case sla => exact ok_sla h
  case app => exact ok_app h
  case call => exact ok_call h
  case callv => exact ok_callv h
  case eq => exact ok_eq h
  case bld => exact ok_bld h
  case bls => exact ok_bls h
  case bll => exact ok_bll h
  case s2a => exact ok_s2a h
  case mnx => exact ok_mnx h
  case cpy => exact ok_cpy h
  case die => exact ok_die
  case lkp => exact ok_lkp h
  case mup => exact ok_mup h
  case mkm => exact ok_mkm h
  case lenm => exact ok_lenm h
  case del => exact ok_del h
  case capn => exact ok_capn h
  all_goals cases h
end
end Go.Proofs.YtoegmdfkcaojlaaGreat.Am
