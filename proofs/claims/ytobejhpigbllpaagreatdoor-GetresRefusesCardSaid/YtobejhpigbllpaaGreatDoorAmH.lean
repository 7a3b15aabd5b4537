/-
  What an operation must be so that the machine's carries it out: a test by the machine's own eye, and that it is enough.
-/
import Derived.Test.YtobejhpigbllpaaGreatDoorAmGf
namespace Go.Proofs.YtobejhpigbllpaaGreatDoor.Am

/-- a call that has come back -/
def After (tb : Tab) (C : Ctx) (r : AV × Option Heap) (e : Ending) (w : World) : Prop :=
  ∃ (v : Value) (D : Ctx), e = .returned v ∧ Ext C D ∧ Inv tb D ∧ D.w = w ∧ D.H = r.2.getD C.H ∧ Rep D r.1 v

/-- what an operation's run must be, calls among them -/
def Lands (P : Program) (tb : Tab) (C : Ctx) (r : AV × Option Heap) (x : Result Next) : Prop :=
  Yields tb C r x ∨ ∃ (g : Nat) (vs : Array Value), x = .ok (.enter g vs) C.w ∧ Calls P g vs C.w (After tb C r)

def CallsOk (P : Program) (tb : Tab) (cl : Nat → List AV → Heap → Out) : Prop :=
  ∀ (g : Nat) (C : Ctx) (args : List AV) (vs : List Value) (r : AV × Option Heap), Inv tb C → RepL C args vs → cl g args C.H = some r → Lands P tb C r ((callFunc g vs.toArray).run P C.w)

def PrimsOk (P : Program) (tb : Tab) : Prop := ∀ g p, tb.prim g = some p → CallsOk P tb fun g' args h => if g' = g then p args h else none

theorem callsOk_calling {P : Program} {tb : Tab} {cl : Nat → List AV → Heap → Out} (hp : PrimsOk P tb) (hc : CallsOk P tb cl) : CallsOk P tb fun g args h => calling tb cl h g args := by
  intro g C args vs r I hr h
  simp only [calling] at h
  split at h
  · rename_i p hpg
    exact hp g p hpg g C args vs r I hr (by simpa using h)
  · exact hc g C args vs r I hr h

theorem wp_of_lands {P : Program} {tb : Tab} {C : Ctx} {a : Act} {o : Oper} {r : AV × Option Heap} (h : Lands P tb C r ((execOp a.eval o).run P C.w)) {next : Act → World → Prop} {Q : Exit → Act → World → Prop}
    (k : ∀ (v : Value) (D : Ctx), Ext C D → Inv tb D → D.H = r.2.getD C.H → Rep D r.1 v → next (a.put o.dst v) D.w) : o.wp P a C.w next Q := by
  rcases h with h | ⟨g, vs, e, hc⟩
  · exact wp_of_yields h k
  · unfold Oper.wp
    rw [e]
    refine hc.mono fun e w' ⟨v, D, he, X, I, hw, hH, hr⟩ => ?_
    subst he
    subst hw
    exact k v D X I hH hr

def OpOk (P : Program) (tb : Tab) (ao : AOp) (o : Oper) : Prop :=
  ∀ {cl : Nat → List AV → Heap → Out} {C : Ctx} {f : Fr} {a : Act} {nt : Nat} {r : AV × Option Heap}, CallsOk P tb (fun g args h => calling tb cl h g args) → Inv tb C → FrRel C f a nt →
    aop tb cl (eval tb f) C.H ao = some r → Lands P tb C r ((execOp a.eval o).run P C.w)

section
variable {P : Program} {tb : Tab} {o : Oper}

def isSlice (P : Program) (t e : TypeId) : Bool := match P.underlying t with
  | some (.slice e') => e == e'
  | _ => false
theorem isSlice_spec {t e : TypeId} (h : isSlice P t e = true) : P.underlying t = some (.slice e) := by
  unfold isSlice at h
  split at h
  · rename_i e' hu; rw [hu]; simp at h; rw [h]
  · cases h

def elem? (P : Program) (t : TypeId) : Option TypeId := match P.underlying t with
  | some (.slice e) => some e
  | _ => none
theorem elem?_spec {t e : TypeId} (h : elem? P t = some e) : P.underlying t = some (.slice e) := by
  unfold elem? at h
  split at h
  · rename_i e' hu; rw [hu]; simp at h; rw [h]
  · cases h
def arr? (P : Program) (t : TypeId) : Option (Nat × TypeId) := match P.underlying t with
  | some (.array n e) => some (n, e)
  | _ => none
theorem arr?_spec {t e : TypeId} {n : Nat} (h : arr? P t = some (n, e)) : P.underlying t = some (.array n e) := by
  unfold arr? at h
  split at h
  · rename_i n' e' hu; rw [hu]; simp at h; rw [h.1, h.2]
  · cases h
def struct? (P : Program) (t : TypeId) : Option (Array Field) := match P.underlying t with
  | some (.struct fs) => some fs
  | _ => none
theorem struct?_spec {t : TypeId} {fs : Array Field} (h : struct? P t = some fs) : P.underlying t = some (.struct fs) := by
  unfold struct? at h
  split at h
  · rename_i fs' hu; rw [hu]; simp at h; rw [h]
  · cases h
def isStr (P : Program) (t : TypeId) : Bool := match P.underlying t with
  | some .string => true
  | _ => false
theorem isStr_spec {t : TypeId} (h : isStr P t = true) : P.underlying t = some .string := by
  unfold isStr at h
  split at h
  · assumption
  · cases h
def intk? (P : Program) (t : TypeId) : Option IntKind := match P.underlying t with
  | some (.int k) => some k
  | _ => none
theorem intk?_spec {t : TypeId} {k : IntKind} (h : intk? P t = some k) : P.underlying t = some (.int k) := by
  unfold intk? at h
  split at h
  · rename_i fs' hu; rw [hu]; simp at h; rw [h]
  · cases h
def isIface (P : Program) (t : TypeId) : Bool := match P.underlying t with
  | some (.interface _) => true
  | _ => false

def okMv (P : Program) (x : AO) (o : Oper) : Bool := match o.op with
  | .move y => okAO x y
  | .assign y => okAO x y
  | .call c => match c.callee, c.args.toList, (c.argTypes[0]?).bind (arr? P), x with
    | .builtin .len, [_], some (n, _), .k (.i .i64 m) => m == n
    | _, _, _, _ => false
  | _ => false
theorem ok_mv {x : AO} (h : okMv P x o = true) : OpOk P tb (.mv x) o := by
  intro cl C f a nt r hc I F hr
  simp only [aop, Option.some.injEq] at hr
  subst hr
  unfold okMv at h
  split at h
  · rename_i y ho; exact .inl (sim_mv I F (.inl ho) h)
  · rename_i y ho; exact .inl (sim_mv I F (.inr ho) h)
  · rename_i c ho
    split at h
    · rename_i y n e m hcal hargs hty
      have hm : m = (n : Int) := by simpa using h
      subst hm
      obtain ⟨t, ht, hu⟩ := Option.bind_eq_some_iff.1 hty
      have hargs' : c.args = #[y] := by rw [← Array.toList_inj, hargs]
      refine .inl (yields_pure I (v := .int .i64 n) (run_builtin ho hcal fun q => ?_) rfl)
      simp [hargs', builtin, Builtin.len_, ht, run_underlying' (arr?_spec hu), goInt]
    · cases h
  · cases h

def okPick (x y z : AO) (o : Oper) : Bool := match o.op with
  | .pick a b c => okAO x a && okAO y b && okAO z c
  | _ => false
theorem ok_pick {x y z : AO} (h : okPick x y z o = true) : OpOk P tb (.pick x y z) o := by
  intro cl C f a nt r hc I F hr
  unfold okPick at h
  split at h
  · rename_i a b c ho
    simp only [Bool.and_eq_true] at h
    simp only [aop] at hr
    split at hr
    · rename_i t ht
      simp only [Option.some.injEq] at hr
      subst hr
      exact .inl (sim_pick I F ho h.1.1 h.1.2 h.2 ht)
    · cases hr
  · cases h

def okAlloc (P : Program) (t0 : Nat) (z : List AV) (o : Oper) : Bool := match o.op with
  | .alloc t => match (P.info? t).bind (·.zero) with
    | some zv => Nat.beq t0 t && isSs z zv.cells.toList
    | none => false
  | _ => false
theorem ok_alloc {t0 : Nat} {z : List AV} (h : okAlloc P t0 z o = true) : OpOk P tb (.alloc t0 z) o := by
  intro cl C f a nt r hc I F hr
  unfold okAlloc at h
  split at h
  · rename_i t ho
    split at h
    · rename_i zv hz
      obtain ⟨i, hi, hz2⟩ := Option.bind_eq_some_iff.1 hz
      simp only [aop, Option.some.injEq] at hr
      subst hr
      rw [Bool.and_eq_true] at h
      obtain rfl := Nat.eq_of_beq_eq_true h.1
      exact .inl (sim_alloc I ho hi hz2 h.2)
    · cases h
  · cases h

def okBox (t0 n : Nat) (x : AO) (o : Oper) : Bool := match o.op with
  | .box t y => (okAO x y && decide (0 < n)) && Nat.beq t0 t
  | _ => false
theorem ok_box {t0 n : Nat} {x : AO} (h : okBox t0 n x o = true) : OpOk P tb (.box t0 n x) o := by
  intro cl C f a nt r hc I F hr
  unfold okBox at h
  split at h
  · rename_i t y ho
    rw [Bool.and_eq_true] at h
    obtain rfl := Nat.eq_of_beq_eq_true h.2
    replace h := h.1
    simp only [Bool.and_eq_true, decide_eq_true_eq] at h
    simp only [aop] at hr
    split at hr
    · rename_i hn
      simp only [Option.some.injEq] at hr
      subst hr
      exact .inl (sim_box I F ho h.1 (by omega))
    · cases hr
  · cases h

def okLd (P : Program) (ag : Bool) (n : Nat) (x : AO) (o : Oper) : Bool := match o.op with
  | .load t y => okAO x y && (P.underlying t).isSome && ag == aggT P t && n == P.cellsOf t
  | _ => false
theorem ok_ld {ag : Bool} {n : Nat} {x : AO} (h : okLd P ag n x o = true) : OpOk P tb (.ld ag n x) o := by
  intro cl C f a nt r hc I F hr
  unfold okLd at h
  split at h
  · rename_i t y ho
    simp only [Bool.and_eq_true, beq_iff_eq] at h
    obtain ⟨⟨⟨h1, h2⟩, rfl⟩, rfl⟩ := h
    exact .inl (sim_ld I F ho h1 h2 hr)
  · cases h

def okSt (P : Program) (n : Nat) (x z : AO) (o : Oper) : Bool := match o.op with
  | .store t y u => okAO x y && okAO z u && (P.info? t).isSome && n == P.cellsOf t && decide (0 < n)
  | _ => false
theorem ok_st {n : Nat} {x z : AO} (h : okSt P n x z o = true) : OpOk P tb (.st n x z) o := by
  intro cl C f a nt r hc I F hr
  unfold okSt at h
  split at h
  · rename_i t y u ho
    simp only [Bool.and_eq_true, beq_iff_eq, decide_eq_true_eq] at h
    obtain ⟨⟨⟨⟨h1, h2⟩, h3⟩, rfl⟩, h4⟩ := h
    simp only [aop] at hr
    obtain ⟨H', hs, rfl⟩ := Option.map_eq_some_iff.1 hr
    exact .inl (sim_st I F ho h1 h2 h3 h4 hs)
  · cases h

def okNilc (x : AO) (o : Oper) : Bool := match o.op with
  | .nilCheck y => okAO x y
  | _ => false
theorem ok_nilc {x : AO} (h : okNilc x o = true) : OpOk P tb (.nilc x) o := by
  intro cl C f a nt r hc I F hr
  unfold okNilc at h
  split at h
  · rename_i y ho; exact .inl (sim_nilc I F ho h hr)
  · cases h

def okBin (op : BinOp) (x y : AO) (o : Oper) : Bool := match o.op with
  | .binOp op' _ u v _ => op == op' && okAO x u && okAO y v
  | _ => false
theorem ok_bin {op : BinOp} {x y : AO} (h : okBin op x y o = true) : OpOk P tb (.bin op x y) o := by
  intro cl C f a nt r hc I F hr
  unfold okBin at h
  split at h
  · rename_i op' t u v t' ho
    simp only [Bool.and_eq_true, beq_iff_eq] at h
    obtain ⟨⟨rfl, h1⟩, h2⟩ := h
    exact .inl (sim_bin I F ho h1 h2 hr)
  · cases h

def okUn (op : UnOp) (x : AO) (o : Oper) : Bool := match o.op with
  | .unOp op' _ u => op == op' && okAO x u
  | _ => false
theorem ok_un {op : UnOp} {x : AO} (h : okUn op x o = true) : OpOk P tb (.un op x) o := by
  intro cl C f a nt r hc I F hr
  unfold okUn at h
  split at h
  · rename_i op' t u ho
    simp only [Bool.and_eq_true, beq_iff_eq] at h
    obtain ⟨rfl, h1⟩ := h
    exact .inl (sim_un I F ho h1 hr)
  · cases h

def okCvi (P : Program) (k : IntKind) (x : AO) (o : Oper) : Bool := match o.op with
  | .convert s d y => okAO x y && (P.underlying s).isSome && intk? P d == some k
  | _ => false
theorem ok_cvi {k : IntKind} {x : AO} (h : okCvi P k x o = true) : OpOk P tb (.cvi k x) o := by
  intro cl C f a nt r hc I F hr
  unfold okCvi at h
  split at h
  · rename_i s d y ho
    simp only [Bool.and_eq_true, beq_iff_eq] at h
    simp only [aop] at hr
    split at hr
    · rename_i k' n hn
      simp only [Option.some.injEq] at hr
      subst hr
      exact .inl (sim_cvi I F ho h.1.2 (intk?_spec h.2) h.1.1 (by rw [hn]; rfl))
    · cases hr
  · cases h

def okCvid (P : Program) (x : AO) (o : Oper) : Bool := match o.op with
  | .convert s d y => okAO x y && (P.underlying s).isSome && isStr P d
  | _ => false
theorem ok_cvid {x : AO} (h : okCvid P x o = true) : OpOk P tb (.cvid x) o := by
  intro cl C f a nt r hc I F hr
  unfold okCvid at h
  split at h
  · rename_i s d y ho
    simp only [Bool.and_eq_true] at h
    simp only [aop] at hr
    split at hr
    · rename_i l hn
      simp only [Option.some.injEq] at hr
      subst hr
      exact .inl (sim_cvid I F ho h.1.2 (isStr_spec h.2) h.1.1 hn)
    · cases hr
  · cases h
theorem ok_cvc {x : AO} (h : okCvid P x o = true) : OpOk P tb (.cvc x) o := by
  intro cl C f a nt r hc I F hr
  unfold okCvid at h
  split at h
  · rename_i s d y ho
    simp only [Bool.and_eq_true] at h
    simp only [aop] at hr
    split at hr
    · rename_i k n hn
      simp only [Option.some.injEq] at hr
      subst hr
      exact .inl (sim_cvc I F ho h.1.2 (isStr_spec h.2) h.1.1 (by rw [hn]; rfl))
    · cases hr
  · cases h

def okMkf [DecidableEq Fn] (fn : Fn) (x1 x2 : List AO) (o : Oper) : Bool := match o.op with
  | .makeFunc fn' y1 y2 => decide (fn = fn') && okAOs x1 y1.toList && okAOs x2 y2.toList
  | _ => false
theorem ok_mkf [DecidableEq Fn] {fn : Fn} {x1 x2 : List AO} (h : okMkf fn x1 x2 o = true) : OpOk P tb (.mkf fn x1 x2) o := by
  intro cl C f a nt r hc I F hr
  unfold okMkf at h
  split at h
  · rename_i fn' y1 y2 ho
    simp only [Bool.and_eq_true, decide_eq_true_eq] at h
    obtain ⟨⟨rfl, h1⟩, h2⟩ := h
    simp only [aop, Option.some.injEq] at hr
    subst hr
    exact .inl (sim_mkf I F ho h1 h2)
  · cases h

def okMkif (P : Program) (t : TypeId) (x : AO) (o : Oper) : Bool := match o.op with
  | .makeInterface t' y => t == t' && okAO x y && (P.underlying t).isSome && !isIface P t
  | _ => false
theorem ok_mkif {t : TypeId} {x : AO} (h : okMkif P t x o = true) : OpOk P tb (.mkif t x) o := by
  intro cl C f a nt r hc I F hr
  unfold okMkif at h
  split at h
  · rename_i t' y ho
    simp only [Bool.and_eq_true, beq_iff_eq, Bool.not_eq_true'] at h
    obtain ⟨⟨⟨rfl, h1⟩, h2⟩, h3⟩ := h
    simp only [aop, Option.some.injEq] at hr
    subst hr
    refine .inl (sim_mkif I F ho (fun m hm => ?_) h2 h1)
    simp [isIface, hm] at h3
  · cases h

def okExt (x : AO) (i : Nat) (o : Oper) : Bool := match o.op with
  | .extract y j => okAO x y && i == j
  | _ => false
theorem ok_ext {x : AO} {i : Nat} (h : okExt x i o = true) : OpOk P tb (.ext x i) o := by
  intro cl C f a nt r hc I F hr
  unfold okExt at h
  split at h
  · rename_i y j ho
    simp only [Bool.and_eq_true, beq_iff_eq] at h
    obtain ⟨h1, rfl⟩ := h
    simp only [aop] at hr
    split at hr
    · rename_i vs hv
      simp only [val] at hr
      obtain ⟨v, hv', rfl⟩ := Option.map_eq_some_iff.1 hr
      exact .inl (sim_ext I F ho h1 hv hv')
    · cases hr
  · cases h

/-- a call of a built-in function: which, what of, of which types -/
def bltn (o : Oper) : Option (Builtin × List Operand × List TypeId) := match o.op with
  | .call c => match c.callee with
    | .builtin b => some (b, c.args.toList, c.argTypes.toList)
    | _ => none
  | _ => none
theorem bltn_spec {b : Builtin} {l : List Operand} {ts : List TypeId} (h : bltn o = some (b, l, ts)) : ∃ c : Call, o.op = .call c ∧ c.callee = .builtin b ∧ c.args = l.toArray ∧ c.argTypes = ts.toArray := by
  unfold bltn at h
  split at h
  · rename_i c ho
    split at h
    · rename_i b' hb
      simp only [Option.some.injEq, Prod.mk.injEq] at h
      obtain ⟨rfl, rfl, rfl⟩ := h
      exact ⟨c, ho, hb, by simp, by simp⟩
    · cases h
  · cases h

def okLen (P : Program) (x : AO) (o : Oper) : Bool := match bltn o with
  | some (.len, [y], [t]) => okAO x y && (elem? P t).isSome
  | _ => false
theorem ok_len {x : AO} (h : okLen P x o = true) : OpOk P tb (.len x) o := by
  intro cl C f a nt r hc I F hr
  unfold okLen at h
  split at h
  · rename_i y t hb
    obtain ⟨c, ho, hcal, ha, ht⟩ := bltn_spec hb
    simp only [Bool.and_eq_true] at h
    obtain ⟨e, he⟩ := Option.isSome_iff_exists.1 h.2
    simp only [aop] at hr
    obtain ⟨n, hn, rfl⟩ := Option.map_eq_some_iff.1 hr
    exact .inl (sim_len I F ho hcal (by rw [ht]; rfl) ha h.1 hn (elem?_spec he))
  · cases h
def okLens (P : Program) (x : AO) (o : Oper) : Bool := match bltn o with
  | some (.len, [y], [t]) => okAO x y && isStr P t
  | _ => false
theorem ok_lens {x : AO} (h : okLens P x o = true) : OpOk P tb (.lens x) o := by
  intro cl C f a nt r hc I F hr
  unfold okLens at h
  split at h
  · rename_i y t hb
    obtain ⟨c, ho, hcal, ha, ht⟩ := bltn_spec hb
    simp only [Bool.and_eq_true] at h
    simp only [aop] at hr
    split at hr
    · rename_i l hl
      simp only [Option.some.injEq] at hr
      subst hr
      exact .inl (sim_lens I F ho hcal (by rw [ht]; rfl) ha h.1 hl (isStr_spec h.2))
    · cases hr
  · cases h

def okFa (P : Program) (off : Nat) (x : AO) (o : Oper) : Bool := match o.op with
  | .fieldAddr t y i => match (struct? P t).bind (·[i]?) with
    | some fd => okAO x y && off == fd.offset && (P.info? fd.type).isSome && decide (0 < P.cellsOf fd.type)
    | none => false
  | _ => false
theorem ok_fa {off : Nat} {x : AO} (h : okFa P off x o = true) : OpOk P tb (.fa off x) o := by
  intro cl C f a nt r hc I F hr
  unfold okFa at h
  split at h
  · rename_i t y i ho
    split at h
    · rename_i fd hfd
      obtain ⟨fs, hs, hf⟩ := Option.bind_eq_some_iff.1 hfd
      simp only [Bool.and_eq_true, beq_iff_eq, decide_eq_true_eq] at h
      obtain ⟨⟨⟨h1, rfl⟩, h2⟩, h3⟩ := h
      exact .inl (sim_fa I F ho (struct?_spec hs) hf h2 (by omega) h1 hr)
    · cases h
  · cases h

def okFld (P : Program) (ag : Bool) (off n : Nat) (x : AO) (o : Oper) : Bool := match o.op with
  | .field t y i => match (struct? P t).bind (·[i]?) with
    | some fd => okAO x y && off == fd.offset && (P.underlying fd.type).isSome && ag == aggT P fd.type && n == P.cellsOf fd.type
    | none => false
  | _ => false
theorem ok_fld {ag : Bool} {off n : Nat} {x : AO} (h : okFld P ag off n x o = true) : OpOk P tb (.fld ag off n x) o := by
  intro cl C f a nt r hc I F hr
  unfold okFld at h
  split at h
  · rename_i t y i ho
    split at h
    · rename_i fd hfd
      obtain ⟨fs, hs, hf⟩ := Option.bind_eq_some_iff.1 hfd
      simp only [Bool.and_eq_true, beq_iff_eq] at h
      obtain ⟨⟨⟨⟨h1, rfl⟩, h2⟩, rfl⟩, rfl⟩ := h
      simp only [aop] at hr
      split at hr
      · rename_i cs hv
        split at hr
        · rename_i hle
          simp only [val] at hr
          obtain ⟨v, hv', rfl⟩ := Option.map_eq_some_iff.1 hr
          exact .inl (sim_fld I F ho (struct?_spec hs) hf h2 h1 hv hle hv')
        · cases hr
      · cases hr
    · cases h
  · cases h

def okIas (P : Program) (sz : Nat) (x i : AO) (o : Oper) : Bool := match o.op with
  | .indexAddr t y j => match elem? P t with
    | some e => okAO x y && okAO i j && (P.info? e).isSome && sz == P.cellsOf e
    | none => false
  | _ => false
theorem ok_ias {sz : Nat} {x i : AO} (h : okIas P sz x i o = true) : OpOk P tb (.ias sz x i) o := by
  intro cl C f a nt r hc I F hr
  unfold okIas at h
  split at h
  · rename_i t y j ho
    split at h
    · rename_i e he
      simp only [Bool.and_eq_true, beq_iff_eq] at h
      obtain ⟨⟨⟨h1, h2⟩, h3⟩, rfl⟩ := h
      simp only [aop] at hr
      obtain ⟨n, hn, hr⟩ := Option.bind_eq_some_iff.1 hr
      split at hr
      · rename_i h0
        exact .inl (sim_ias I F ho (elem?_spec he) h3 h1 h2 hn h0 hr)
      · cases hr
    · cases h
  · cases h

def okIaa (P : Program) (len sz : Nat) (x i : AO) (o : Oper) : Bool := match o.op with
  | .indexAddr t y j => match arr? P t with
    | some (n, e) => okAO x y && okAO i j && (P.info? e).isSome && len == n && sz == P.cellsOf e
    | none => false
  | _ => false
theorem ok_iaa {len sz : Nat} {x i : AO} (h : okIaa P len sz x i o = true) : OpOk P tb (.iaa len sz x i) o := by
  intro cl C f a nt r hc I F hr
  unfold okIaa at h
  split at h
  · rename_i t y j ho
    split at h
    · rename_i n e he
      simp only [Bool.and_eq_true, beq_iff_eq] at h
      obtain ⟨⟨⟨⟨h1, h2⟩, h3⟩, rfl⟩, rfl⟩ := h
      simp only [aop] at hr
      obtain ⟨m, hm, hr⟩ := Option.bind_eq_some_iff.1 hr
      split at hr
      · rename_i h0
        exact .inl (sim_iaa I F ho (arr?_spec he) h3 h1 h2 hm h0 hr)
      · cases hr
    · cases h
  · cases h

def okIxa (P : Program) (len sz : Nat) (ag : Bool) (x i : AO) (o : Oper) : Bool := match o.op with
  | .index t y j => match arr? P t with
    | some (n, e) => okAO x y && okAO i j && (P.underlying e).isSome && len == n && sz == P.cellsOf e && ag == aggT P e
    | none => false
  | _ => false
theorem ok_ixa {len sz : Nat} {ag : Bool} {x i : AO} (h : okIxa P len sz ag x i o = true) : OpOk P tb (.ixa len sz ag x i) o := by
  intro cl C f a nt r hc I F hr
  unfold okIxa at h
  split at h
  · rename_i t y j ho
    split at h
    · rename_i n e he
      simp only [Bool.and_eq_true, beq_iff_eq] at h
      obtain ⟨⟨⟨⟨⟨h1, h2⟩, h3⟩, rfl⟩, rfl⟩, rfl⟩ := h
      simp only [aop] at hr
      obtain ⟨m, hm, hr⟩ := Option.bind_eq_some_iff.1 hr
      split at hr
      · rename_i cs hv
        split at hr
        · rename_i h0
          simp only [val] at hr
          obtain ⟨v, hv', rfl⟩ := Option.map_eq_some_iff.1 hr
          exact .inl (sim_ixa I F ho (arr?_spec he) h3 h1 h2 hm hv ⟨h0.1, h0.2.1⟩ h0.2.2 hv')
        · cases hr
      · cases hr
    · cases h
  · cases h

def okIxs (P : Program) (x i : AO) (o : Oper) : Bool := match o.op with
  | .index t y j => okAO x y && okAO i j && isStr P t
  | _ => false
theorem ok_ixs {x i : AO} (h : okIxs P x i o = true) : OpOk P tb (.ixs x i) o := by
  intro cl C f a nt r hc I F hr
  unfold okIxs at h
  split at h
  · rename_i t y j ho
    simp only [Bool.and_eq_true] at h
    obtain ⟨⟨h1, h2⟩, h3⟩ := h
    simp only [aop] at hr
    obtain ⟨n, hn, hr⟩ := Option.bind_eq_some_iff.1 hr
    split at hr
    · rename_i l hl
      split at hr
      · rename_i h0
        obtain ⟨v, hv', rfl⟩ := Option.map_eq_some_iff.1 hr
        exact .inl (sim_ixs I F ho (isStr_spec h3) h1 h2 hn hl h0 hv')
      · cases hr
    · cases hr
  · cases h

def okSls (P : Program) (x : AO) (lo hi : Option AO) (o : Oper) : Bool := match o.op with
  | .slice t y ylo yhi none => okAO x y && okO lo ylo && okO hi yhi && isStr P t
  | _ => false
theorem ok_sls {x : AO} {lo hi : Option AO} (h : okSls P x lo hi o = true) : OpOk P tb (.sls x lo hi) o := by
  intro cl C f a nt r hc I F hr
  unfold okSls at h
  split at h
  · rename_i t y ylo yhi ho
    simp only [Bool.and_eq_true] at h
    obtain ⟨⟨⟨h1, h2⟩, h3⟩, h4⟩ := h
    simp only [aop] at hr
    split at hr
    · rename_i l hl
      obtain ⟨⟨p, q⟩, hb, rfl⟩ := Option.map_eq_some_iff.1 hr
      exact .inl (sim_sls I F ho (isStr_spec h4) h1 h2 h3 hl hb)
    · cases hr
  · cases h

def okSll (P : Program) (sz : Nat) (x : AO) (lo hi : Option AO) (o : Oper) : Bool := match o.op with
  | .slice t y ylo yhi none => match elem? P t with
    | some e => okAO x y && okO lo ylo && okO hi yhi && (P.info? e).isSome && sz == P.cellsOf e
    | none => false
  | _ => false
theorem ok_sll {sz : Nat} {x : AO} {lo hi : Option AO} (h : okSll P sz x lo hi o = true) : OpOk P tb (.sll sz x lo hi) o := by
  intro cl C f a nt r hc I F hr
  unfold okSll at h
  split at h
  · rename_i t y ylo yhi ho
    split at h
    · rename_i e he
      simp only [Bool.and_eq_true, beq_iff_eq] at h
      obtain ⟨⟨⟨⟨h1, h2⟩, h3⟩, h4⟩, rfl⟩ := h
      simp only [aop] at hr
      obtain ⟨len, hl, hr⟩ := Option.bind_eq_some_iff.1 hr
      obtain ⟨⟨p, q⟩, hb, hr⟩ := Option.bind_eq_some_iff.1 hr
      exact .inl (sim_sll I F ho (elem?_spec he) h4 h1 h2 h3 hl hb hr)
    · cases h
  · cases h

/-- an array, or what leads to one -/
def arrp? (P : Program) (t : TypeId) : Option (Nat × TypeId) := match P.underlying t with
  | some (.array n e) => some (n, e)
  | some (.pointer u) => arr? P u
  | _ => none
theorem arrp?_spec {t e : TypeId} {n : Nat} (h : arrp? P t = some (n, e)) : P.underlying t = some (.array n e) ∨ ∃ u, P.underlying t = some (.pointer u) ∧ P.underlying u = some (.array n e) := by
  unfold arrp? at h
  split at h
  · rename_i n' e' hu; rw [hu]; simp at h; left; rw [h.1, h.2]
  · rename_i u hu; exact .inr ⟨u, hu, arr?_spec h⟩
  · cases h
def okSla (P : Program) (n sz : Nat) (x : AO) (lo hi : Option AO) (o : Oper) : Bool := match o.op with
  | .slice t y ylo yhi none => match arrp? P t with
    | some (m, e) => okAO x y && okO lo ylo && okO hi yhi && (P.info? e).isSome && n == m && sz == P.cellsOf e && decide (0 < sz)
    | none => false
  | _ => false
theorem ok_sla {n sz : Nat} {x : AO} {lo hi : Option AO} (h : okSla P n sz x lo hi o = true) : OpOk P tb (.sla n sz x lo hi) o := by
  intro cl C f a nt r hc I F hr
  unfold okSla at h
  split at h
  · rename_i t y ylo yhi ho
    split at h
    · rename_i m e he
      simp only [Bool.and_eq_true, beq_iff_eq, decide_eq_true_eq] at h
      obtain ⟨⟨⟨⟨⟨⟨h1, h2⟩, h3⟩, h4⟩, rfl⟩, rfl⟩, h5⟩ := h
      simp only [aop] at hr
      obtain ⟨⟨p, q⟩, hb, hr⟩ := Option.bind_eq_some_iff.1 hr
      exact .inl (sim_sla I F ho h4 h5 (arrp?_spec he) h1 h2 h3 hb hr)
    · cases h
  · cases h

def okApp (P : Program) (t0 sz bytes : Nat) (s x : AO) (o : Oper) : Bool := match bltn o with
  | some (.append, [y1, y2], [t, u]) => okAO s y1 && okAO x y2 && ((elem? P u).isSome || isStr P u) && match elem? P t with
    | some e => sz == P.cellsOf e && decide (0 < sz) && match P.info? e with
      | some i => bytes == i.bytes && decide (0 < bytes) && match i.zero with
        | some z => z.cells.size == sz && Nat.beq t0 e
        | none => false
      | none => false
    | none => false
  | _ => false
theorem ok_app {t0 sz bytes : Nat} {s x : AO} (h : okApp P t0 sz bytes s x o = true) : OpOk P tb (.app t0 sz bytes s x) o := by
  intro cl C f a nt r hc I F hr
  unfold okApp at h
  split at h
  · rename_i y1 y2 t u hb
    obtain ⟨c, ho, hcal, ha, ht⟩ := bltn_spec hb
    simp only [Bool.and_eq_true, Bool.or_eq_true] at h
    obtain ⟨⟨⟨h1, h2⟩, h3⟩, h4⟩ := h
    split at h4
    · rename_i e he
      simp only [Bool.and_eq_true, beq_iff_eq, decide_eq_true_eq] at h4
      obtain ⟨⟨rfl, h5⟩, h6⟩ := h4
      split at h6
      · rename_i i hi
        simp only [Bool.and_eq_true, beq_iff_eq, decide_eq_true_eq] at h6
        obtain ⟨⟨rfl, h7⟩, h8⟩ := h6
        split at h8
        · rename_i z hz
          rw [Bool.and_eq_true] at h8
          obtain rfl := Nat.eq_of_beq_eq_true h8.2
          replace h8 := h8.1
          simp only [beq_iff_eq] at h8
          simp only [aop] at hr
          obtain ⟨new, hn, hr⟩ := Option.bind_eq_some_iff.1 hr
          refine .inl (sim_app I F ho hcal (by rw [ha]) (by rw [ht]) (elem?_spec he) ?_ hi hz h8 h5 h7 h1 h2 hn hr)
          rcases h3 with h3 | h3
          · obtain ⟨e', he'⟩ := Option.isSome_iff_exists.1 h3
            exact ⟨_, elem?_spec he', fun k hk => (by cases hk)⟩
          · exact ⟨_, isStr_spec h3, fun k hk => (by cases hk)⟩
        · cases h8
      · cases h6
    · cases h4
  · cases h

def okCpy (P : Program) (sz : Nat) (d x : AO) (o : Oper) : Bool := match bltn o with
  | some (.copy, [y1, y2], t :: _) => okAO d y1 && okAO x y2 && match elem? P t with
    | some e => sz == P.cellsOf e && decide (0 < sz) && (P.info? e).isSome
    | none => false
  | _ => false
theorem ok_cpy {sz : Nat} {d x : AO} (h : okCpy P sz d x o = true) : OpOk P tb (.cpy sz d x) o := by
  intro cl C f a nt r hc I F hr
  unfold okCpy at h
  split at h
  · rename_i y1 y2 t ts hb
    obtain ⟨c, ho, hcal, ha, ht⟩ := bltn_spec hb
    simp only [Bool.and_eq_true] at h
    obtain ⟨⟨h1, h2⟩, h4⟩ := h
    split at h4
    · rename_i e he
      simp only [Bool.and_eq_true, beq_iff_eq, decide_eq_true_eq] at h4
      obtain ⟨⟨rfl, h5⟩, h6⟩ := h4
      simp only [aop] at hr
      obtain ⟨src, hn, hr⟩ := Option.bind_eq_some_iff.1 hr
      exact .inl (sim_cpy I F ho hcal ha ht (by simp) (elem?_spec he) h6 h5 h1 h2 hn hr)
    · cases h4
  · cases h

theorem ok_die : OpOk P tb .die o := by
  intro cl C f a nt r hc I F hr
  simp [aop] at hr

def okCall (g : Nat) (xs : List AO) (o : Oper) : Bool := match o.op with
  | .call c => match c.callee with
    | .value (.func g') => g == g' && okAOs xs c.args.toList
    | _ => false
  | _ => false
theorem ok_call {g : Nat} {xs : List AO} (h : okCall g xs o = true) : OpOk P tb (.call g xs) o := by
  intro cl C f a nt r hc I F hr
  unfold okCall at h
  split at h
  · rename_i c ho
    split at h
    · rename_i g' hcal
      simp only [Bool.and_eq_true, beq_iff_eq] at h
      obtain ⟨rfl, h1⟩ := h
      simp only [aop] at hr
      have := hc g C _ _ r I (rep_evals I F h1) hr
      have e : (execOp a.eval o).run P C.w = (callFunc g (c.args.toList.map a.eval).toArray).run P C.w := by
        simp only [execOp, ho, resolve, hcal, Act.eval, Deferred.ofValue, invoke, Sem.run_bind, Sem.run_pure, Result.andThen_ok]
        congr 2
        rw [← Array.toList_inj]
        simp
      rw [e]
      exact this
    · cases h
  · cases h

def okCallv (x : AO) (xs : List AO) (o : Oper) : Bool := match o.op with
  | .call c => match c.callee with
    | .value y => okAO x y && okAOs xs c.args.toList
    | _ => false
  | _ => false
theorem ok_callv {x : AO} {xs : List AO} (h : okCallv x xs o = true) : OpOk P tb (.callv x xs) o := by
  intro cl C f a nt r hc I F hr
  unfold okCallv at h
  split at h
  · rename_i c ho
    split at h
    · rename_i y hcal
      simp only [Bool.and_eq_true] at h
      obtain ⟨h1, h2⟩ := h
      simp only [aop] at hr
      split at hr
      · rename_i g first captured hv
        have rx := rep_eval I F h1
        rw [hv] at rx
        obtain ⟨p, q, e, r1, r2⟩ := rx
        have := hc g C _ _ r I (RepL.app (RepL.app r1 (rep_evals I F h2)) r2) hr
        have e' : (execOp a.eval o).run P C.w = (callFunc g (p ++ c.args.toList.map a.eval ++ q).toArray).run P C.w := by
          simp only [execOp, ho, resolve, hcal, e, Deferred.ofValue, invoke, Sem.run_bind, Sem.run_pure, Result.andThen_ok]
          congr 2
          simp
        rw [e']
        exact this
      · cases hr
    · cases h
  · cases h

def okEq (P : Program) (neg : Bool) (ek : EK) (x y : AO) (o : Oper) : Bool := match o.op with
  | .binOp op t u v _ => decide (op = if neg then .neq else .eql) && okEK P ek t && okAO x u && okAO y v
  | _ => false
theorem ok_eq {neg : Bool} {ek : EK} {x y : AO} (h : okEq P neg ek x y o = true) : OpOk P tb (.eq neg ek x y) o := by
  intro cl C f a nt r hc I F hr
  unfold okEq at h
  split at h
  · rename_i op t u v t' ho
    simp only [Bool.and_eq_true, decide_eq_true_eq] at h
    obtain ⟨⟨⟨h0, h1⟩, h2⟩, h3⟩ := h
    simp only [aop, val] at hr
    obtain ⟨b, hb, rfl⟩ := Option.map_eq_some_iff.1 hr
    obtain ⟨e, he, rfl⟩ := Option.map_eq_some_iff.1 hb
    exact .inl (sim_eq I F ho h0 h1 h2 h3 he)
  · cases h

def okBld (P : Program) (zero : List AV) (ps : List (Nat × Nat × AO)) (o : Oper) : Bool := match o.op with
  | .build t ys => match plc? P t, (P.info? t).bind (·.zero) with
    | some place, some z => isSs zero z.cells.toList && okParts place ps ys.toList
    | _, _ => false
  | _ => false
theorem ok_bld {zero : List AV} {ps : List (Nat × Nat × AO)} (h : okBld P zero ps o = true) : OpOk P tb (.bld zero ps) o := by
  intro cl C f a nt r hc I F hr
  unfold okBld at h
  split at h
  · rename_i t ys ho
    split at h
    · rename_i place z hp hz
      obtain ⟨i, hi, hz⟩ := Option.bind_eq_some_iff.1 hz
      simp only [Bool.and_eq_true] at h
      simp only [aop, val] at hr
      obtain ⟨v, hv, rfl⟩ := Option.map_eq_some_iff.1 hr
      obtain ⟨cs, hcs, rfl⟩ := Option.map_eq_some_iff.1 hv
      exact .inl (sim_bld I F ho hp hi hz h.1 h.2 hcs)
    · cases h
  · cases h

def okBls (P : Program) (sz : Nat) (zero : List (List AV)) (ps : List (Nat × AO)) (o : Oper) : Bool := match o.op with
  | .buildSlice t len ys => match elem? P t with
    | some e => match (P.info? e).bind (·.zero) with
      | some z => sz == P.cellsOf e && decide (z.cells.size = P.cellsOf e) && decide (0 < P.cellsOf e) && decide (len * P.cellsOf e ≤ 2 ^ 24) && decide (zero.length = len) && zero.all (isSs · z.cells.toList) && okElems sz ps ys.toList
      | none => false
    | none => false
  | _ => false
def okLabS (P : Program) (t0 : Nat) (o : Oper) : Bool := match o.op with
  | .buildSlice t _ _ => match elem? P t with
    | some e => Nat.beq t0 e
    | none => false
  | _ => false
theorem ok_bls {t0 sz : Nat} {zero : List (List AV)} {ps : List (Nat × AO)} (h : (okBls P sz zero ps o && okLabS P t0 o) = true) : OpOk P tb (.bls t0 sz zero ps) o := by
  intro cl C f a nt r hc I F hr
  rw [Bool.and_eq_true] at h
  obtain ⟨h, hl⟩ := h
  unfold okBls at h
  unfold okLabS at hl
  split at h
  · rename_i t len ys ho
    split at h
    · rename_i e he
      split at h
      · rename_i z hz
        obtain ⟨i, hi, hz2⟩ := Option.bind_eq_some_iff.1 hz
        simp only [Bool.and_eq_true, beq_iff_eq, decide_eq_true_eq] at h
        obtain ⟨⟨⟨⟨⟨⟨rfl, h1⟩, h2⟩, h3⟩, h4⟩, h5⟩, h6⟩ := h
        simp only [aop] at hr
        obtain ⟨els, hv, rfl⟩ := Option.map_eq_some_iff.1 hr
        simp only [ho, he] at hl
        obtain rfl := Nat.eq_of_beq_eq_true hl
        exact .inl (sim_bls I F ho (elem?_spec he) hi hz2 h1 h2 h3 h4 h5 h6 hv)
      · cases h
    · cases h
  · cases h

theorem ok_bll {sz : Nat} {zero : List (List AV)} {ps : List (Nat × AO)} (h : okBls P sz zero ps o = true) : OpOk P tb (.bll sz zero ps) o := by
  intro cl C f a nt r hc I F hr
  unfold okBls at h
  split at h
  · rename_i t len ys ho
    split at h
    · rename_i e he
      split at h
      · rename_i z hz
        obtain ⟨i, hi, hz⟩ := Option.bind_eq_some_iff.1 hz
        simp only [Bool.and_eq_true, beq_iff_eq, decide_eq_true_eq] at h
        obtain ⟨⟨⟨⟨⟨⟨rfl, h1⟩, h2⟩, h3⟩, h4⟩, h5⟩, h6⟩ := h
        simp only [aop, val] at hr
        obtain ⟨u, hu, rfl⟩ := Option.map_eq_some_iff.1 hr
        obtain ⟨els, hv, rfl⟩ := Option.map_eq_some_iff.1 hu
        exact .inl (sim_bll I F ho (elem?_spec he) hi hz h1 h2 h3 h4 h5 h6 hv)
      · cases h
    · cases h
  · cases h

def okS2a (P : Program) (n sz : Nat) (x : AO) (o : Oper) : Bool := match o.op with
  | .sliceToArrayPointer t y => match arr? P t with
    | some (m, e) => okAO x y && n == m && sz == P.cellsOf e && decide (0 < n)
    | none => false
  | _ => false
theorem ok_s2a {n sz : Nat} {x : AO} (h : okS2a P n sz x o = true) : OpOk P tb (.s2a n sz x) o := by
  intro cl C f a nt r hc I F hr
  unfold okS2a at h
  split at h
  · rename_i t y ho
    split at h
    · rename_i m e he
      simp only [Bool.and_eq_true, beq_iff_eq, decide_eq_true_eq] at h
      obtain ⟨⟨⟨h1, rfl⟩, rfl⟩, h2⟩ := h
      exact .inl (sim_s2a I F ho (arr?_spec he) h2 h1 hr)
    · cases h
  · cases h

def okMnx (mx : Bool) (x y : AO) (o : Oper) : Bool := match bltn o with
  | some (.max, [u, v], _) => mx && okAO x u && okAO y v
  | some (.min, [u, v], _) => !mx && okAO x u && okAO y v
  | _ => false
theorem ok_mnx {mx : Bool} {x y : AO} (h : okMnx mx x y o = true) : OpOk P tb (.mnx mx x y) o := by
  intro cl C f a nt r hc I F hr
  simp only [aop] at hr
  split at hr
  · rename_i k p k' q e1 e2
    split at hr
    · rename_i hk
      subst hk
      simp only [Option.some.injEq] at hr
      subst hr
      unfold okMnx at h
      split at h
      · rename_i u v ts hb
        obtain ⟨c, ho, hcal, ha, ht⟩ := bltn_spec hb
        simp only [Bool.and_eq_true] at h
        obtain ⟨⟨rfl, h1⟩, h2⟩ := h
        exact .inl (sim_mnx (mx := true) I F ho hcal (by rw [ha]) h1 h2 e1 e2)
      · rename_i u v ts hb
        obtain ⟨c, ho, hcal, ha, ht⟩ := bltn_spec hb
        simp only [Bool.and_eq_true, Bool.not_eq_true'] at h
        obtain ⟨⟨rfl, h1⟩, h2⟩ := h
        exact .inl (sim_mnx (mx := false) I F ho hcal (by rw [ha]) h1 h2 e1 e2)
      · cases h
    · cases hr
  · cases hr

def map? (P : Program) (t : TypeId) : Option (TypeId × TypeId) := match P.underlying t with
  | some (.map k e) => some (k, e)
  | _ => none
theorem map?_spec {t k e : TypeId} (h : map? P t = some (k, e)) : P.underlying t = some (.map k e) := by
  unfold map? at h
  split at h
  · rename_i k' e' hu; rw [hu]; simp at h; rw [h.1, h.2]
  · cases h

def okLkp (P : Program) (ek : EK) (zero : AV) (ok : Bool) (m k : AO) (o : Oper) : Bool := match o.op with
  | .lookup t y1 y2 ok' => ok == ok' && okAO m y1 && okAO k y2 && match map? P t with
    | some (kt, e) => okKey P ek kt && match (P.info? e).bind (·.zero) with
      | some z => isV zero z
      | none => false
    | none => false
  | _ => false
theorem ok_lkp {ek : EK} {zero : AV} {ok : Bool} {m k : AO} (h : okLkp P ek zero ok m k o = true) : OpOk P tb (.lkp ek zero ok m k) o := by
  intro cl C f a nt r hc I F hr
  unfold okLkp at h
  split at h
  · rename_i t y1 y2 ok' ho
    simp only [Bool.and_eq_true, beq_iff_eq] at h
    obtain ⟨⟨⟨rfl, h1⟩, h2⟩, h3⟩ := h
    split at h3
    · rename_i kt e hm
      simp only [Bool.and_eq_true] at h3
      obtain ⟨h4, h5⟩ := h3
      split at h5
      · rename_i z hz
        obtain ⟨i, hi, hz⟩ := Option.bind_eq_some_iff.1 hz
        simp only [aop] at hr
        split at hr
        · rename_i hko
          obtain ⟨es, he, hr⟩ := Option.bind_eq_some_iff.1 hr
          obtain ⟨q, hq, rfl⟩ := Option.map_eq_some_iff.1 hr
          exact .inl (sim_lkp I F ho (map?_spec hm) hi hz h5 h4 h1 h2 he hko hq)
        · cases hr
      · cases h5
    · cases h3
  · cases h

def okMup (P : Program) (ek : EK) (m k v : AO) (o : Oper) : Bool := match o.op with
  | .mapUpdate t y1 y2 y3 => okAO m y1 && okAO k y2 && okAO v y3 && match map? P t with
    | some (kt, _) => okKey P ek kt
    | none => false
  | .insert t y1 y2 y3 => okAO m y1 && okAO k y2 && okAO v y3 && match map? P t with
    | some (kt, _) => okKey P ek kt
    | none => false
  | _ => false
theorem ok_mup {ek : EK} {m k v : AO} (h : okMup P ek m k v o = true) : OpOk P tb (.mup ek m k v) o := by
  intro cl C f a nt r hc I F hr
  have main : ∀ {t : TypeId} {y1 y2 y3 : Operand}, (o.op = .mapUpdate t y1 y2 y3 ∨ o.op = .insert t y1 y2 y3) → (okAO m y1 && okAO k y2 && okAO v y3 && (match map? P t with
    | some (kt, _) => okKey P ek kt
    | none => false)) = true → Lands P tb C r ((execOp a.eval o).run P C.w) := by
    intro t y1 y2 y3 ho h
    simp only [Bool.and_eq_true] at h
    obtain ⟨⟨⟨h1, h2⟩, h3⟩, h4⟩ := h
    split at h4
    · rename_i kt e hm
      simp only [aop] at hr
      split at hr
      · rename_i id hid
        split at hr
        · rename_i hko
          obtain ⟨es, he, hr⟩ := Option.bind_eq_some_iff.1 hr
          obtain ⟨q, hq, rfl⟩ := Option.map_eq_some_iff.1 hr
          exact .inl (sim_mup I F ho (map?_spec hm) h4 h1 h2 h3 hid he hko hq)
        · cases hr
      · cases hr
    · cases h4
  unfold okMup at h
  split at h
  · rename_i t y1 y2 y3 ho; exact main (.inl ho) h
  · rename_i t y1 y2 y3 ho; exact main (.inr ho) h
  · cases h

def okMkm (o : Oper) : Bool := match o.op with
  | .makeMap _ none => true
  | _ => false
theorem ok_mkm (h : okMkm o = true) : OpOk P tb .mkm o := by
  intro cl C f a nt r hc I F hr
  unfold okMkm at h
  split at h
  · rename_i t ho
    simp only [aop, Option.some.injEq] at hr
    subst hr
    exact .inl (sim_mkm I ho)
  · cases h

def okLenm (P : Program) (x : AO) (o : Oper) : Bool := match bltn o with
  | some (.len, [y], [t]) => okAO x y && (map? P t).isSome
  | _ => false
theorem ok_lenm {x : AO} (h : okLenm P x o = true) : OpOk P tb (.lenm x) o := by
  intro cl C f a nt r hc I F hr
  unfold okLenm at h
  split at h
  · rename_i y t hb
    obtain ⟨c, ho, hcal, ha, ht⟩ := bltn_spec hb
    simp only [Bool.and_eq_true] at h
    obtain ⟨⟨kt, e⟩, he⟩ := Option.isSome_iff_exists.1 h.2
    simp only [aop] at hr
    obtain ⟨es, hes, rfl⟩ := Option.map_eq_some_iff.1 hr
    exact .inl (sim_lenm I F ho hcal (by rw [ht]; rfl) ha h.1 (map?_spec he) hes)
  · cases h

def okDel (P : Program) (ek : EK) (m k : AO) (o : Oper) : Bool := match bltn o with
  | some (.delete, [y1, y2], t :: _) => okAO m y1 && okAO k y2 && match map? P t with
    | some (kt, _) => okKey P ek kt
    | none => false
  | _ => false
theorem ok_del {ek : EK} {m k : AO} (h : okDel P ek m k o = true) : OpOk P tb (.del ek m k) o := by
  intro cl C f a nt r hc I F hr
  unfold okDel at h
  split at h
  · rename_i y1 y2 t ts hb
    obtain ⟨c, ho, hcal, ha, ht⟩ := bltn_spec hb
    simp only [Bool.and_eq_true] at h
    obtain ⟨⟨h1, h2⟩, h4⟩ := h
    split at h4
    · rename_i kt e hm
      simp only [aop] at hr
      by_cases hko : keyOk ek (eval tb f k) = true
      · simp only [hko, if_true] at hr
        exact .inl (sim_del I F ho hcal ha ht (map?_spec hm) h4 h1 h2 hko hr)
      · simp only [hko, if_false, Bool.false_eq_true] at hr
        split at hr <;> cases hr
    · cases h4
  · cases h

def okClr (P : Program) (zero : List AV) (x : AO) (o : Oper) : Bool := match bltn o with
  | some (.clear, [y], t :: _) => okAO x y && match P.underlying t with
    | some (.map _ _) => zero.isEmpty
    | some (.slice e) => match (P.info? e).bind (·.zero) with
      | some z => isSs zero z.cells.toList
      | none => false
    | _ => false
  | _ => false
theorem ok_clr {zero : List AV} {x : AO} (h : okClr P zero x o = true) : OpOk P tb (.clr zero x) o := by
  intro cl C f a nt r hc I F hr
  unfold okClr at h
  split at h
  · rename_i y t ts hb
    obtain ⟨c, ho, hcal, ha, ht⟩ := bltn_spec hb
    simp only [Bool.and_eq_true] at h
    obtain ⟨h1, h2⟩ := h
    simp only [aop] at hr
    split at h2
    · rename_i k e hu
      exact .inl (sim_clr I F ho hcal ha ht (.inl ⟨k, e, hu, by simpa using h2⟩) h1 hr)
    · rename_i e hu
      split at h2
      · rename_i z hz
        obtain ⟨i, hi, hz⟩ := Option.bind_eq_some_iff.1 hz
        exact .inl (sim_clr I F ho hcal ha ht (.inr ⟨e, i, z, hu, hi, hz, h2⟩) h1 hr)
      · cases h2
    · cases h2
  · cases h

def okMks (P : Program) (t0 sz bytes : Nat) (zero : List AV) (x1 x2 : AO) (o : Oper) : Bool := match o.op with
  | .makeSlice t y1 y2 => match elem? P t with
    | some e => match P.info? e with
      | some i => match i.zero with
        | some z => okAO x1 y1 && okAO x2 y2 && sz == i.size && bytes == i.bytes && isSs zero z.cells.toList && decide (i.size = z.cells.size) && decide (0 < i.size) && decide (0 < i.bytes) && Nat.beq t0 e
        | none => false
      | none => false
    | none => false
  | _ => false
theorem ok_mks {t0 sz bytes : Nat} {zero : List AV} {x1 x2 : AO} (h : okMks P t0 sz bytes zero x1 x2 o = true) : OpOk P tb (.mks t0 sz bytes zero x1 x2) o := by
  intro cl C f a nt r hc I F hr
  unfold okMks at h
  split at h
  · rename_i t y1 y2 ho
    split at h
    · rename_i e he
      split at h
      · rename_i i hi
        split at h
        · rename_i z hz
          simp only [Bool.and_eq_true, beq_iff_eq, decide_eq_true_eq] at h
          obtain ⟨⟨⟨⟨⟨⟨⟨⟨h1, h2⟩, rfl⟩, rfl⟩, h5⟩, h6⟩, h7⟩, h8⟩, hl⟩ := h
          obtain rfl := Nat.eq_of_beq_eq_true hl
          simp only [aop] at hr
          obtain ⟨l, hl, hr⟩ := Option.bind_eq_some_iff.1 hr
          obtain ⟨c, hcc, hr⟩ := Option.bind_eq_some_iff.1 hr
          split at hr
          · rename_i hcond
            cases hr
            refine .inl (sim_mks I F ho (elem?_spec he) hi hz h5 h6 h7 h1 h2 hl hcc hcond ?_)
            have h9 := hcond.2.2
            unfold most at h9
            have h10 : c ≤ c * i.bytes := by
              rcases Int.lt_or_le c 0 with hneg | hpos
              · have := hcond.1; have := hcond.2.1; omega
              · have : c * 1 ≤ c * i.bytes := Int.mul_le_mul_of_nonneg_left (by omega) hpos
                omega
            omega
          · cases hr
        · cases h
      · cases h
    · cases h
  · cases h
def okCvb (P : Program) (t0 : Nat) (x : AO) (o : Oper) : Bool := match o.op with
  | .convert s d y => isStr P s && (match elem? P d with
    | some e => (match P.underlying e with | some (.int .u8) => Nat.beq t0 e | _ => false)
    | none => false) && okAO x y
  | _ => false
theorem ok_cvb {t0 : Nat} {x : AO} (h : okCvb P t0 x o = true) : OpOk P tb (.cvb t0 x) o := by
  intro cl C f a nt r hc I F hr
  unfold okCvb at h
  split at h
  · rename_i s d y ho
    simp only [Bool.and_eq_true] at h
    obtain ⟨⟨h1, h2⟩, h3⟩ := h
    split at h2
    · rename_i e he
      split at h2
      · rename_i hu
        simp only [aop] at hr
        split at hr
        · rename_i l hl
          cases hr
          obtain rfl := Nat.eq_of_beq_eq_true h2
          exact .inl (sim_cvb I F ho (isStr_spec h1) (elem?_spec he) hu h3 hl)
        · cases hr
      · cases h2
    · cases h2
  · cases h
def okCvr (P : Program) (x : AO) (o : Oper) : Bool := match o.op with
  | .convert s d y => Nat.beq s d && (match elem? P s with
    | some e => (match P.underlying e with | some (.int .u8) => true | _ => false)
    | none => false) && okAO x y
  | _ => false
theorem ok_cvr {x : AO} (h : okCvr P x o = true) : OpOk P tb (.cvr x) o := by
  intro cl C f a nt r hc I F hr
  unfold okCvr at h
  split at h
  · rename_i s d y ho
    simp only [Bool.and_eq_true] at h
    obtain ⟨⟨h1, h2⟩, h3⟩ := h
    obtain rfl := Nat.eq_of_beq_eq_true h1
    split at h2
    · rename_i e he
      split at h2
      · rename_i hu
        simp only [aop] at hr
        split at hr
        · rename_i id n lo len hv
          obtain ⟨q, hq, hr⟩ := Option.bind_eq_some_iff.1 hr
          split at hr
          · rename_i hcond
            cases hr
            exact .inl (sim_cvr I F ho (elem?_spec he) hu h3 hv (show rowAt C.H id = some (q.1, q.2.1, q.2.2) from hq) hcond.1 hcond.2.1 hcond.2.2)
          · cases hr
        · cases hr
      · cases h2
    · cases h2
  · cases h
def okCvs (P : Program) (x : AO) (o : Oper) : Bool := match o.op with
  | .convert s d y => isStr P d && (match elem? P s with
    | some e => (match P.underlying e with | some (.int .u8) => true | _ => false)
    | none => false) && okAO x y
  | _ => false
theorem ok_cvs {x : AO} (h : okCvs P x o = true) : OpOk P tb (.cvs x) o := by
  intro cl C f a nt r hc I F hr
  unfold okCvs at h
  split at h
  · rename_i s d y ho
    simp only [Bool.and_eq_true] at h
    obtain ⟨⟨h1, h2⟩, h3⟩ := h
    split at h2
    · rename_i e he
      split at h2
      · rename_i hu
        simp only [aop, val] at hr
        obtain ⟨v, hv, rfl⟩ := Option.map_eq_some_iff.1 hr
        obtain ⟨l, hl, rfl⟩ := Option.map_eq_some_iff.1 hv
        obtain ⟨els, he1, hl⟩ := Option.bind_eq_some_iff.1 hl
        exact .inl (sim_cvs I F ho (elem?_spec he) hu (isStr_spec h1) h3 he1 hl)
      · cases h2
    · cases h2
  · cases h
def okRng (P : Program) (x : AO) (o : Oper) : Bool := match o.op with
  | .range t y => isStr P t && okAO x y
  | _ => false
theorem ok_rng {x : AO} (h : okRng P x o = true) : OpOk P tb (.rng x) o := by
  intro cl C f a nt r hc I F hr
  unfold okRng at h
  split at h
  · rename_i t y ho
    simp only [Bool.and_eq_true] at h
    simp only [aop] at hr
    split at hr
    · rename_i l hl
      cases hr
      exact .inl (sim_rng I F ho (isStr_spec h.1) h.2 hl)
    · cases hr
  · cases h
def okNxt (x : AO) (o : Oper) : Bool := match o.op with
  | .next y true => okAO x y
  | _ => false
theorem ok_nxt {x : AO} (h : okNxt x o = true) : OpOk P tb (.nxt x) o := by
  intro cl C f a nt r hc I F hr
  unfold okNxt at h
  split at h
  · rename_i y ho
    simp only [aop] at hr
    split at hr
    · rename_i id off hl
      obtain ⟨it, hi, hr2⟩ := Option.bind_eq_some_iff.1 hr
      by_cases h0 : off = 0
      · rw [if_pos h0] at hr2
        subst h0
        exact .inl (sim_nxt (id := id) (l := it.1) (pos := it.2) I F ho h hl hi hr2)
      · rw [if_neg h0] at hr2; cases hr2
    · cases hr
  · cases h

def ptr? (P : Program) (t : TypeId) : Option TypeId := match P.underlying t with
  | some (.pointer u) => some u
  | _ => none
theorem ptr?_spec {t u : TypeId} (h : ptr? P t = some u) : P.underlying t = some (.pointer u) := by
  unfold ptr? at h
  split at h
  · rename_i e hu; rw [hu]; simp at h; rw [h]
  · cases h
def isUns (P : Program) (t : TypeId) : Bool := match P.underlying t with
  | some .unsafePointer => true
  | _ => false
theorem isUns_spec {t : TypeId} (h : isUns P t = true) : P.underlying t = some .unsafePointer := by
  unfold isUns at h
  split at h
  · assumption
  · cases h
def okCvp (P : Program) (x : AO) (o : Oper) : Bool := match o.op with
  | .convert s d y => isUns P d && (match (ptr? P s).bind P.info? with
    | some j => !(Nat.beq j.size 0)
    | none => false) && okAO x y
  | _ => false
theorem ok_cvp {x : AO} (h : okCvp P x o = true) : OpOk P tb (.cvp x) o := by
  intro cl C f a nt r hc I F hr
  unfold okCvp at h
  split at h
  · rename_i s d y ho
    simp only [Bool.and_eq_true] at h
    obtain ⟨⟨h1, h2⟩, h3⟩ := h
    split at h2
    · rename_i j hj
      obtain ⟨t, ht, hi⟩ := Option.bind_eq_some_iff.1 hj
      refine .inl (sim_cvp I F ho (ptr?_spec ht) (isUns_spec h1) hi (fun e => ?_) h3 hr)
      rw [e] at h2; simp [Nat.beq_refl] at h2
    · cases h2
  · cases h
def okCvu (P : Program) (t n : Nat) (x : AO) (o : Oper) : Bool := match o.op with
  | .convert s d y => isUns P s && (match ptr? P d with
    | some u => (P.info? u).isSome && liesAt P P.depth t (n / P.cellsOf t) 0 u 1
    | none => false) && okAO x y
  | _ => false
theorem ok_cvu {t n : Nat} {x : AO} (h : okCvu P t n x o = true) : OpOk P tb (.cvu t n x) o := by
  intro cl C f a nt r hc I F hr
  unfold okCvu at h
  split at h
  · rename_i s d y ho
    simp only [Bool.and_eq_true] at h
    obtain ⟨⟨h1, h2⟩, h3⟩ := h
    split at h2
    · rename_i u hu
      simp only [Bool.and_eq_true] at h2
      obtain ⟨j, hj⟩ := Option.isSome_iff_exists.1 h2.1
      exact .inl (sim_cvu I F ho (isUns_spec h1) (ptr?_spec hu) hj h2.2 h3 hr)
    · cases h2
  · cases h
def okEqp (P : Program) (neg : Bool) (x y : AO) (o : Oper) : Bool := match o.op with
  | .binOp op t u v _ => decide (op = if neg then .neq else .eql) && ((ptr? P t).bind P.info?).isSome && okAO x u && okAO y v
  | _ => false
theorem ok_eqp {neg : Bool} {x y : AO} (h : okEqp P neg x y o = true) : OpOk P tb (.eqp neg x y) o := by
  intro cl C f a nt r hc I F hr
  unfold okEqp at h
  split at h
  · rename_i op t u v t' ho
    simp only [Bool.and_eq_true, decide_eq_true_eq] at h
    obtain ⟨⟨⟨h0, h1⟩, h2⟩, h3⟩ := h
    obtain ⟨j, hj⟩ := Option.isSome_iff_exists.1 h1
    obtain ⟨e, he, hi⟩ := Option.bind_eq_some_iff.1 hj
    exact .inl (sim_eqp I F ho h0 (ptr?_spec he) hi h2 h3 hr)
  · cases h
def okIsni (P : Program) (neg : Bool) (x : AO) (o : Oper) : Bool := match o.op with
  | .binOp op t u (.const .nilIface) _ => (match P.underlying t with
    | some (.interface _) => true
    | _ => false) && decide (op = if neg then .neq else .eql) && okAO x u
  | _ => false
theorem ok_isni {neg : Bool} {x : AO} (h : okIsni P neg x o = true) : OpOk P tb (.isni neg x) o := by
  intro cl C f a nt r hc I F hr
  unfold okIsni at h
  split at h
  · rename_i op t u t' ho
    simp only [Bool.and_eq_true, decide_eq_true_eq] at h
    obtain ⟨⟨h0, h1⟩, h2⟩ := h
    split at h0
    · rename_i ms hu
      exact .inl (sim_isni I F ho h1 hu h2 hr)
    · cases h0
  · cases h
def okUsd (x : AO) (o : Oper) : Bool := match bltn o with
  | some (.unsafeSliceData, [y], _) => okAO x y
  | _ => false
theorem ok_usd {x : AO} (h : okUsd x o = true) : OpOk P tb (.usd x) o := by
  intro cl C f a nt r hc I F hr
  unfold okUsd at h
  split at h
  · rename_i y ts hb
    obtain ⟨c, ho, hcal, ha, ht⟩ := bltn_spec hb
    exact .inl (sim_usd I F ho hcal (by rw [ha]) h hr)
  · cases h
def okUst (P : Program) (t : Nat) (x n : AO) (o : Oper) : Bool := match bltn o with
  | some (.unsafeString, [y, z], [pt, _]) => (match ptr? P pt with
    | some u => Nat.beq u t && Nat.beq (P.cellsOf t) 1
    | none => false) && okAO x y && okAO n z
  | _ => false
theorem ok_ust {t : Nat} {x n : AO} (h : okUst P t x n o = true) : OpOk P tb (.ust t x n) o := by
  intro cl C f a nt r hc I F hr
  unfold okUst at h
  split at h
  · rename_i y z pt it hb
    obtain ⟨c, ho, hcal, ha, hty⟩ := bltn_spec hb
    simp only [Bool.and_eq_true] at h
    obtain ⟨⟨h1, h2⟩, h3⟩ := h
    split at h1
    · rename_i u hu
      simp only [Bool.and_eq_true] at h1
      obtain rfl := Nat.eq_of_beq_eq_true h1.1
      exact .inl (sim_ust I F ho hcal (by rw [ha]) (by rw [hty]) (ptr?_spec hu) (Nat.eq_of_beq_eq_true h1.2) h2 h3 hr)
    · cases h1
  · cases h

/-- the test of an operation -/
def okOp (P : Program) (ao : AOp) (o : Oper) : Bool :=
  match ao with
  | .mv x => okMv P x o
  | .pick x y z => okPick x y z o
  | .alloc t z => okAlloc P t z o
  | .box t n x => okBox t n x o
  | .ld ag n x => okLd P ag n x o
  | .st n x z => okSt P n x z o
  | .nilc x => okNilc x o
  | .bin op x y => okBin op x y o
  | .un op x => okUn op x o
  | .cvi k x => okCvi P k x o
  | .cvid x => okCvid P x o
  | .cvc x => okCvid P x o
  | .mkf fn x y => okMkf fn x y o
  | .mkif t x => okMkif P t x o
  | .ext x i => okExt x i o
  | .len x => okLen P x o
  | .lens x => okLens P x o
  | .fa off x => okFa P off x o
  | .fld ag off n x => okFld P ag off n x o
  | .ias sz x i => okIas P sz x i o
  | .iaa len sz x i => okIaa P len sz x i o
  | .ixa len sz ag x i => okIxa P len sz ag x i o
  | .ixs x i => okIxs P x i o
  | .sls x lo hi => okSls P x lo hi o
  | .sll sz x lo hi => okSll P sz x lo hi o
  | .sla n sz x lo hi => okSla P n sz x lo hi o
  | .app t sz bytes s x => okApp P t sz bytes s x o
  | .call g xs => okCall g xs o
  | .callv x xs => okCallv x xs o
  | .eq neg ek x y => okEq P neg ek x y o
  | .bld z ps => okBld P z ps o
  | .bls t sz z ps => okBls P sz z ps o && okLabS P t o
  | .bll sz z ps => okBls P sz z ps o
  | .s2a n sz x => okS2a P n sz x o
  | .mnx mx x y => okMnx mx x y o
  | .cpy sz d x => okCpy P sz d x o
  | .die => true
  | .lkp ek z ok m k => okLkp P ek z ok m k o
  | .mup ek m k v => okMup P ek m k v o
  | .mkm => okMkm o
  | .lenm x => okLenm P x o
  | .del ek m k => okDel P ek m k o
  | .clr z x => okClr P z x o
  | .mks t sz b z l c => okMks P t sz b z l c o
  | .cvb t x => okCvb P t x o
  | .cvr x => okCvr P x o
  | .cvs x => okCvs P x o
  | .rng x => okRng P x o
  | .nxt x => okNxt x o
  | .cvp x => okCvp P x o
  | .cvu t n x => okCvu P t n x o
  | .eqp neg x y => okEqp P neg x y o
  | .isni neg x => okIsni P neg x o
  | .usd x => okUsd x o
  | .ust t x n => okUst P t x n o

theorem okOp_spec (ao : AOp) (o : Oper) (h : okOp P ao o = true) : OpOk P tb ao o := by
  cases ao <;> try simp only [okOp] at h
  case mv => exact ok_mv h
  case pick => exact ok_pick h
  case alloc => exact ok_alloc h
  case box => exact ok_box h
  case ld => exact ok_ld h
  case st => exact ok_st h
  case nilc => exact ok_nilc h
  case bin => exact ok_bin h
  case un => exact ok_un h
  case cvi => exact ok_cvi h
  case cvid => exact ok_cvid h
  case cvc => exact ok_cvc h
  case mkf => exact ok_mkf h
  case mkif => exact ok_mkif h
  case ext => exact ok_ext h
  case len => exact ok_len h
  case lens => exact ok_lens h
  case fa => exact ok_fa h
  case fld => exact ok_fld h
  case ias => exact ok_ias h
  case iaa => exact ok_iaa h
  case ixa => exact ok_ixa h
  case ixs => exact ok_ixs h
  case sls => exact ok_sls h
  case sll => exact ok_sll h
  case sla => exact ok_sla h
  case app => exact ok_app h
  case call => exact ok_call h
  case callv => exact ok_callv h
  case eq => exact ok_eq h
  case bld => exact ok_bld h
  case bls => exact ok_bls h
  case bll => exact ok_bll h
  case s2a => exact ok_s2a h
  case mnx => exact ok_mnx h
  case cpy => exact ok_cpy h
  case die => exact ok_die
  case lkp => exact ok_lkp h
  case mup => exact ok_mup h
  case mkm => exact ok_mkm h
  case lenm => exact ok_lenm h
  case del => exact ok_del h
  case clr => exact ok_clr h
  case mks => exact ok_mks h
  case cvb => exact ok_cvb h
  case cvr => exact ok_cvr h
  case cvs => exact ok_cvs h
  case rng => exact ok_rng h
  case nxt => exact ok_nxt h
  case cvp => exact ok_cvp h
  case cvu => exact ok_cvu h
  case eqp => exact ok_eqp h
  case isni => exact ok_isni h
  case usd => exact ok_usd h
  case ust => exact ok_ust h

end
end Go.Proofs.YtobejhpigbllpaaGreatDoor.Am
