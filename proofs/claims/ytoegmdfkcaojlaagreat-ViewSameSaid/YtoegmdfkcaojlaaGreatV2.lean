/-
  Regions: in the order of the text; in any order that the tape draws.
  A region whose order is drawn: one walk, in the order of the text, serves every order.
  Blocks that are kept back: a new block that no number has yet; a number for it, later.
  What an alloc's run is, in the model.
  The state of a drawn region with cells that are kept back; each gets its number when its turn has come.
  Drawn regions in which an alloc may come early.
  What is kept back goes over to the next state.
  Drawn regions in which an alloc may come early: the proof.
  The machine's code and the model's; what it runs is what the model runs.
  What a call comes to in the machine, it comes to in the model.
  A call of the machine's is the model's.
  Functions that the machine takes as they are said: those that the model knows as entries of its own.
  Entries of the model's that the machine takes as they are said: a byte's place in bytes, how often it is there.
  What operations come to, on typed values: calls, equality, arrays.
  What operations come to, on typed values: pointers that are only read through.
  A text's runes, one behind another one.
  Regions whose order is drawn, where each operation that reads memory has one place.
  strings.Builder: what its methods come to, on a builder in memory of its own.
  strings.Builder: a builder in memory of its own as one thing, its bytes.
  Values that are kept: functions, structures with functions; calls whose code is walked in place.
  Calls whose code is walked in place.
  What operations come to, on kept values: rows of them, variables with parts, loops that are unrolled.
  Tests that wait for others, by cases; slices of arrays; literals of arrays; tables.
  Tests that wait inside regions whose order is drawn; tables; maps.
  Ways that meet again, each walked once: what comes behind them is told apart from them.
  strings.Builder's grow as a function that the machine takes as it is said.
  strings.Builder: room from the start.
  Variables in parts; what is cleared of a row.
  Slices of one's own cells that are handed on as they are; a slice as an array; tests that write.
  strconv.ParseUint(s, 10, 64) as a function that the machine takes as it is said.
  Functions that the machine takes as they are said, as typed ones.
  What a law is given, as the machine's values: a reading is a value of the type, all of it memory that nobody writes.
  A law's row, out of what the machine comes to.
  From the model's values to typed ones; a law that answers true.
  Values that lead to no memory: which value it is, is told by what it says.
  Functions that are handed a pointer to a thing and change it: its parts, ahead of a call and behind it.
-/
import Derived.Still
import Derived.Tactics
import Derived.LoopN
import Derived.Scope
import Derived.Control
import Derived.Laws.Sem
import GoSem.Extern.Table
import Derived.Lib.Bytealg
import Derived.Lib.MakeNoZero
import Derived.Below
import Derived.Lib.ParseIntBCases
import Derived.Lib.Index
import Derived.ProofKit
import Derived.Deep.Slices
import Derived.DataReads
import Derived.Carry
import Derived.Test.YtoegmdfkcaojlaaGreatV1
set_option linter.unusedVariables false
set_option linter.unusedSimpArgs false
namespace Go.Proofs.YtoegmdfkcaojlaaGreat.Am
def okGuard (rs : Array Oper) : Option (Nat × Bool) → Option (Nat × Bool) → Bool
  | none, none => true
  | some (t, w), some (j, w') => w == w' && (rs[j]?).bind (·.dst) == some t
  | _, _ => false
def okOper (T : AOp → Oper → Bool) (nt : Nat) (rs : Array Oper) (ao : AOper) (o : Oper) : Bool :=
  decide (ao.d = o.dst) && (match o.dst with | some t => decide (t < nt) | none => true) && okGuard rs ao.g o.guard && T ao.o o
def okOpers (T : AOp → Oper → Bool) (nt : Nat) (rs : Array Oper) : List AOper → List Oper → Bool
  | [], [] => true
  | x :: l, o :: r => okOper T nt rs x o && okOpers T nt rs l r
  | _, _ => false
section
variable {T : AOp → Oper → Bool} {P : Program} {tb : Tab} {cl : Nat → List AV → Heap → Out} {nt : Nat} {rs : Array Oper}
theorem wanted_rep {C : Ctx} {f : Fr} {a : Act} (F : FrRel C f a nt) {g : Option (Nat × Bool)} {o : Oper} (h : okGuard rs g o.guard = true) {b : Bool} (hw : wanted f g = some b) :
    Region.wanted o (yielded rs a.tmps) = b := by
  unfold okGuard at h
  split at h
  · rename_i hg
    simp only [wanted, Option.some.injEq] at hw
    subst hw
    simp [Region.wanted, hg]
  · rename_i t w j w' hg
    simp only [Bool.and_eq_true, beq_iff_eq] at h
    obtain ⟨rfl, hj⟩ := h
    simp only [wanted] at hw
    split at hw
    · rename_i x hx
      simp only [Option.some.injEq] at hw
      subst hw
      have r := F.rep t
      rw [hx] at r
      have r' : a.tmps.getD t undef = .bool x := r
      have hs : a.tmps[t]? = some (.bool x) := by
        rw [Array.getD_eq_getD_getElem?] at r'
        cases ht : a.tmps[t]? with
        | none => rw [ht] at r'; simp [undef] at r'
        | some v => rw [ht] at r'; simpa using r'
      simp only [Region.wanted, hg, yielded, hj, Option.bind_some, hs]
      cases x <;> cases w <;> rfl
    · rename_i hx
      simp only [Option.some.injEq] at hw
      subst hw
      have r := F.rep t
      rw [hx] at r
      obtain ⟨vs, r', hv⟩ := r
      have hv' : vs = [] := hv
      subst hv'
      rw [Array.getD_eq_getD_getElem?] at r'
      simp only [Region.wanted, hg, yielded, hj, Option.bind_some]
      cases ht : a.tmps[t]? with
      | none => rfl
      | some v =>
        rw [ht] at r'
        simp only [Option.getD_some] at r'
        subst r'
        rfl
    · cases hw
  · cases h
theorem okOper_spec {ao : AOper} {o : Oper} (h : okOper T nt rs ao o = true) : ao.d = o.dst ∧ (∀ t, o.dst = some t → t < nt) ∧ okGuard rs ao.g o.guard = true ∧ T ao.o o = true := by
  simp only [okOper, Bool.and_eq_true, decide_eq_true_eq] at h
  obtain ⟨⟨⟨h1, h2⟩, h3⟩, h4⟩ := h
  refine ⟨h1, fun t ht => ?_, h3, h4⟩
  rw [ht] at h2
  simpa using h2
theorem ops_sound (hT : ∀ ao o, T ao o = true → OpOk P tb ao o) (hcl : CallsOk P tb fun g args h => calling tb cl h g args) {Q : Exit → Act → World → Prop} :
    ∀ (l : List AOper) (os : List Oper), okOpers T nt rs l os = true → ∀ {C : Ctx} {f : Fr} {a : Act}, Inv tb C → FrRel C f a nt → ∀ {f' : Fr} {h' : Heap}, ops tb cl l f C.H = some (f', h') →
      (∀ (D : Ctx) (a' : Act), Ext C D → Inv tb D → D.H = h' → FrRel D f' a' nt → Q .normal a' D.w) → wpList P rs Q os a C.w := by
  intro l
  induction l with
  | nil =>
    intro os h C f a I F f' h' e k
    cases os with
    | cons o os => simp [okOpers] at h
    | nil =>
      simp only [ops, Option.some.injEq, Prod.mk.injEq] at e
      obtain ⟨rfl, rfl⟩ := e
      exact k C a (Ext.refl C) I rfl F
  | cons ao l ih =>
    intro os h C f a I F f' h' e k
    cases os with
    | nil => simp [okOpers] at h
    | cons o os =>
      simp only [okOpers, Bool.and_eq_true] at h
      obtain ⟨h1, h2⟩ := h
      obtain ⟨g1, g2, g3, g4⟩ := okOper_spec h1
      simp only [ops] at e
      obtain ⟨b, hb, e⟩ := Option.bind_eq_some_iff.1 e
      have hw := wanted_rep F g3 hb
      simp only [wpList, hw]
      cases b with
      | true =>
        simp only [if_true] at e ⊢
        obtain ⟨p, hp, e⟩ := Option.bind_eq_some_iff.1 e
        refine .inl (wp_of_lands (hT _ _ g4 hcl I F hp) fun v D X ID hH hr => ?_)
        rw [← g1]
        refine ih os h2 ID (F.put X (fun t ht => g2 t (g1 ▸ ht)) hr) (by rw [hH]; exact e) fun D' a' X' => k D' a' (X.trans X')
      | false =>
        simp only [Bool.false_eq_true, if_false] at e ⊢
        rw [← g1]
        exact ih os h2 I (F.put (Ext.refl C) (fun t ht => g2 t (g1 ▸ ht)) (x := .tup []) ⟨[], rfl, rfl⟩) e k
theorem reg_sound (hT : ∀ ao o, T ao o = true → OpOk P tb ao o) (hcl : CallsOk P tb fun g args h => calling tb cl h g args) {Q : Exit → Act → World → Prop} {l : List AOper} {id : Nat}
    (h : okOpers T nt rs l rs.toList = true) {C : Ctx} {f : Fr} {a : Act} (I : Inv tb C) (F : FrRel C f a nt) {f' : Fr} {h' : Heap} (e : ops tb cl l f C.H = some (f', h'))
    (k : ∀ (D : Ctx) (a' : Act), Ext C D → Inv tb D → D.H = h' → FrRel D f' a' nt → Q .normal a' D.w) : (Code.region id rs false).wp P Q a C.w :=
  wp_region_list (ops_sound hT hcl l _ h I F e k)
def aoT : AO → List Nat
  | .t n => [n]
  | _ => []
def ooT : Option AO → List Nat
  | some x => aoT x
  | none => []
def opT : AOp → List Nat
  | .mv x => aoT x
  | .pick c a b => aoT c ++ aoT a ++ aoT b
  | .alloc _ _ => []
  | .box _ _ x => aoT x
  | .bld _ ps => ps.flatMap fun p => aoT p.2.2
  | .bls _ _ _ ps => ps.flatMap fun p => aoT p.2
  | .bll _ _ ps => ps.flatMap fun p => aoT p.2
  | .ld _ _ a => aoT a
  | .st _ a x => aoT a ++ aoT x
  | .nilc x => aoT x
  | .bin _ x y => aoT x ++ aoT y
  | .eq _ _ x y => aoT x ++ aoT y
  | .un _ x => aoT x
  | .cvi _ x => aoT x
  | .cvid x => aoT x
  | .cvb _ x => aoT x
  | .cvr x => aoT x
  | .cvs x => aoT x
  | .cvc x => aoT x
  | .mkf _ a b => a.flatMap aoT ++ b.flatMap aoT
  | .mkm => []
  | .mks _ _ _ _ l c => aoT l ++ aoT c
  | .sls x lo hi => aoT x ++ ooT lo ++ ooT hi
  | .sll _ x lo hi => aoT x ++ ooT lo ++ ooT hi
  | .sla _ _ x lo hi => aoT x ++ ooT lo ++ ooT hi
  | .fa _ x => aoT x
  | .fld _ _ _ x => aoT x
  | .ias _ x i => aoT x ++ aoT i
  | .iaa _ _ x i => aoT x ++ aoT i
  | .ixa _ _ _ x i => aoT x ++ aoT i
  | .ixs x i => aoT x ++ aoT i
  | .lkp _ _ _ m k => aoT m ++ aoT k
  | .mup _ m k v => aoT m ++ aoT k ++ aoT v
  | .rng x => aoT x
  | .nxt x => aoT x
  | .ext x _ => aoT x
  | .s2a _ _ x => aoT x
  | .mkif _ x => aoT x
  | .call _ xs => xs.flatMap aoT
  | .callv x xs => aoT x ++ xs.flatMap aoT
  | .len x => aoT x
  | .lens x => aoT x
  | .app _ _ _ s x => aoT s ++ aoT x
  | .cpy _ d s => aoT d ++ aoT s
  | .mnx _ x y => aoT x ++ aoT y
  | .clr _ x => aoT x
  | .del _ m k => aoT m ++ aoT k
  | .lenm m => aoT m
  | .cvp x => aoT x
  | .cvu _ _ x => aoT x
  | .eqp _ x y => aoT x ++ aoT y
  | .isni _ x => aoT x
  | .capn x => aoT x
  | .usd x => aoT x
  | .ust _ x n => aoT x ++ aoT n
  | .die => []
def Alike (_ : Tab) (f f' : Fr) (ts : List Nat) : Prop := ∀ t ∈ ts, get f t = get f' t
theorem Alike.l {tb : Tab} {f f' : Fr} {x y : List Nat} (h : Alike tb f f' (x ++ y)) : Alike tb f f' x := fun t ht => h t (List.mem_append_left _ ht)
theorem Alike.r {tb : Tab} {f f' : Fr} {x y : List Nat} (h : Alike tb f f' (x ++ y)) : Alike tb f f' y := fun t ht => h t (List.mem_append_right _ ht)
theorem Alike.e {f f' : Fr} {x : AO} (h : Alike tb f f' (aoT x)) : eval tb f x = eval tb f' x := by
  cases x with
  | t n => exact h n (by simp [aoT])
  | _ => rfl
theorem Alike.es {f f' : Fr} : ∀ {xs : List AO}, Alike tb f f' (xs.flatMap aoT) → xs.map (eval tb f) = xs.map (eval tb f')
  | [], _ => rfl
  | x :: xs, h => by
    rw [List.flatMap_cons] at h
    rw [List.map_cons, List.map_cons, h.l.e, Alike.es h.r]
theorem Alike.b {f f' : Fr} {lo hi : Option AO} {n : Nat} (h : Alike tb f f' (ooT lo)) (h' : Alike tb f f' (ooT hi)) : bounds (eval tb f) n lo hi = bounds (eval tb f') n lo hi := by
  cases lo <;> cases hi
  · rfl
  · have e' := Alike.e h'
    simp only [bounds, e']
  · have e := Alike.e h
    simp only [bounds, e]
  · have e := Alike.e h
    have e' := Alike.e h'
    simp only [bounds, e, e']
theorem Alike.fl {f f' : Fr} : ∀ {ps : List (Nat × Nat × AO)} {z : List AV}, Alike tb f f' (ps.flatMap fun p => aoT p.2.2) → fillL z (eval tb f) ps = fillL z (eval tb f') ps
  | [], _, _ => rfl
  | (off, n, x) :: ps, z, h => by
    rw [List.flatMap_cons] at h
    simp only [fillL]
    rw [h.l.e]
    split
    · exact Alike.fl h.r
    · rfl
theorem Alike.fe {f f' : Fr} {sz : Nat} : ∀ {ps : List (Nat × AO)} {z : List (List AV)}, Alike tb f f' (ps.flatMap fun p => aoT p.2) → fillE z sz (eval tb f) ps = fillE z sz (eval tb f') ps
  | [], _, _ => rfl
  | (i, x) :: ps, z, h => by
    rw [List.flatMap_cons] at h
    simp only [fillE]
    rw [h.l.e]
    split
    · exact Alike.fe h.r
    · rfl
theorem aop_alike {f f' : Fr} {h : Heap} : ∀ {o : AOp}, Alike tb f f' (opT o) → aop tb cl (eval tb f) h o = aop tb cl (eval tb f') h o := by
  intro o a
  cases o <;> simp only [opT] at a <;> simp only [aop]
  case bld => rw [a.fl]
  case bls => rw [a.fe]
  case bll => rw [a.fe]
  case mkf => rw [a.l.es, a.r.es]
  case sls => rw [a.l.l.e]; split <;> first | rfl | rw [Alike.b a.l.r a.r]
  case sll => rw [a.l.l.e]; congr; funext n; rw [Alike.b a.l.r a.r]
  case sla => rw [a.l.l.e, Alike.b a.l.r a.r]
  case call => rw [a.es]
  case callv => rw [a.l.e, a.r.es]
  case pick => rw [a.l.l.e, a.l.r.e, a.r.e]
  case mup => rw [a.l.l.e, a.l.r.e, a.r.e]
  all_goals first
    | rw [a.l.e, a.r.e]
    | rw [a.e]
def gT : Option (Nat × Bool) → List Nat
  | some (t, _) => [t]
  | none => []
theorem wanted_alike {f f' : Fr} {g : Option (Nat × Bool)} (a : Alike tb f f' (gT g)) : wanted f g = wanted f' g := by
  cases g with
  | none => rfl
  | some p =>
    obtain ⟨t, w⟩ := p
    simp only [wanted]
    rw [a t (by simp [gT])]
def rank : List (Option (Nat × Nat)) → Nat → Nat
  | _, 0 => 0
  | [], _ + 1 => 0
  | none :: w, i + 1 => rank w i + 1
  | some _ :: w, i + 1 => rank w i
def Stepped (tb : Tab) (cl : Nat → List AV → Heap → Out) (hs : List Heap) (k : Nat) (ao : AOper) (w : Option (Nat × Nat)) (f : Fr) (v : AV) : Prop :=
  ∃ t, wanted f ao.g = some t ∧ (t = false → v = .tup [] ∧ (w = none → hs[k]? = hs[k + 1]?)) ∧
    (t = true → (w = none → ∃ h u, hs[k]? = some h ∧ aop tb cl (eval tb f) h ao.o = some (v, u) ∧ hs[k + 1]? = some (u.getD h)) ∧
      ∀ lo hi, w = some (lo, hi) → ∀ j, lo ≤ j → j ≤ hi → ∃ h u, hs[j]? = some h ∧ aop tb cl (eval tb f) h ao.o = some (v, u) ∧ u.getD h = h)
theorem opsD_spec {hs : List Heap} : ∀ (l : List AOper) (ws : List (Option (Nat × Nat))) (k : Nat) (f f' : Fr), opsD tb cl hs l ws k f = some f' →
    ∃ (fr : Nat → Fr) (vl : Nat → AV), fr 0 = f ∧ fr l.length = f' ∧ k + rank ws l.length + 1 = hs.length ∧
      ∀ i ao, l[i]? = some ao → fr (i + 1) = put (fr i) ao.d (vl i) ∧ ∃ w, ws[i]? = some w ∧ Stepped tb cl hs (k + rank ws i) ao w (fr i) (vl i) := by
  intro l
  induction l with
  | nil =>
    intro ws k f f' e
    simp only [opsD] at e
    split at e
    · rename_i hk
      obtain rfl := Option.some.inj e
      exact ⟨fun _ => f, fun _ => .junk, rfl, rfl, by simpa [rank] using hk, fun i ao h => (by simp at h)⟩
    · cases e
  | cons ao l ih =>
    intro ws k f f' e
    simp only [opsD] at e
    obtain ⟨t, ht, e⟩ := Option.bind_eq_some_iff.1 e
    -- one step, and the rest
    have glue : ∀ (w : Option (Nat × Nat)) (ws' : List (Option (Nat × Nat))) (v : AV) (k' : Nat), ws = w :: ws' → k' = k + (match w with | none => 1 | some _ => 0) → Stepped tb cl hs k ao w f v →
        opsD tb cl hs l ws' k' (put f ao.d v) = some f' → ∃ (fr : Nat → Fr) (vl : Nat → AV), fr 0 = f ∧ fr (ao :: l).length = f' ∧ k + rank ws (ao :: l).length + 1 = hs.length ∧
          ∀ i x, (ao :: l)[i]? = some x → fr (i + 1) = put (fr i) x.d (vl i) ∧ ∃ w, ws[i]? = some w ∧ Stepped tb cl hs (k + rank ws i) x w (fr i) (vl i) := by
      intro w ws' v k' hws hk hst h
      subst hws
      obtain ⟨fr, vl, h0, h1, h2, h3⟩ := ih ws' k' _ f' h
      have hrank : ∀ i, k + rank (w :: ws') (i + 1) = k' + rank ws' i := by
        intro i
        subst hk
        cases w <;> simp only [rank] <;> omega
      refine ⟨fun i => match i with | 0 => f | i + 1 => fr i, fun i => match i with | 0 => v | i + 1 => vl i, rfl, h1, by rw [List.length_cons, hrank]; exact h2, ?_⟩
      intro i x hx
      cases i with
      | zero =>
        simp only [List.getElem?_cons_zero, Option.some.injEq] at hx
        subst hx
        exact ⟨h0, w, rfl, hst⟩
      | succ i =>
        obtain ⟨g1, w', g2, g3⟩ := h3 i x (by simpa using hx)
        exact ⟨g1, w', by simpa using g2, by rw [hrank]; exact g3⟩
    cases t with
    | true =>
      simp only [if_true] at e
      obtain ⟨h, hh, e⟩ := Option.bind_eq_some_iff.1 e
      obtain ⟨p, hp, e⟩ := Option.bind_eq_some_iff.1 e
      cases ws with
      | nil => simp at e
      | cons w0 w =>
        cases w0 with
        | none =>
          simp only [] at e
          split at e
          · rename_i hn
            exact glue none w p.1 (k + 1) rfl rfl ⟨true, ht, fun e => (by cases e), fun _ => ⟨fun _ => ⟨h, p.2, hh, hp, hn.symm⟩, fun lo hi e => (by cases e)⟩⟩ e
          · cases e
        | some q =>
          obtain ⟨lo, hi⟩ := q
          simp only [] at e
          split at e
          · rename_i hn
            refine glue (some (lo, hi)) w p.1 k rfl rfl ⟨true, ht, fun e => (by cases e), fun _ => ⟨fun e => (by cases e), ?_⟩⟩ e
            intro lo' hi' e' j hj hj'
            simp only [Option.some.injEq, Prod.mk.injEq] at e'
            obtain ⟨rfl, rfl⟩ := e'
            rw [List.all_eq_true] at hn
            have := hn j (List.mem_range'_1.2 ⟨hj, by omega⟩)
            simp only [decide_eq_true_eq] at this
            obtain ⟨u, hu, hu'⟩ := this
            obtain ⟨h', hh', hu⟩ := Option.bind_eq_some_iff.1 hu
            refine ⟨h', u, hh', hu, ?_⟩
            rw [hh'] at hu'
            simpa using hu'
          · cases e
    | false =>
      simp only [Bool.false_eq_true, if_false] at e
      cases ws with
      | nil => simp at e
      | cons w0 w =>
        cases w0 with
        | none =>
          simp only [] at e
          split at e
          · rename_i hn
            exact glue none w (.tup []) (k + 1) rfl rfl ⟨false, ht, fun _ => ⟨rfl, fun _ => hn⟩, fun e => (by cases e)⟩ e
          · cases e
        | some q =>
          exact glue (some q) w (.tup []) k rfl rfl ⟨false, ht, fun _ => ⟨rfl, fun e => (by cases e)⟩, fun e => (by cases e)⟩ e
end
end Go.Proofs.YtoegmdfkcaojlaaGreat.Am
namespace Go.Proofs.YtoegmdfkcaojlaaGreat.Am
def waits (rs : Array Oper) (i : Nat) : List Nat :=
  match rs[i]? with
  | some o => (o.after.toList.filter (Region.binds .any)).map (·.on)
  | none => []
def ancB (rs : Array Oper) : Nat → Nat → Nat → Bool
  | 0, _, _ => false
  | n + 1, j, i => (waits rs i).any (fun e => Nat.beq e j) || (waits rs i).any fun e => ancB rs n j e
theorem ancB_spec {rs : Array Oper} {L : Nat → Prop} (hd : ∀ i, L i → ∀ e ∈ waits rs i, L e) : ∀ {n j i : Nat}, ancB rs n j i = true → (∀ e ∈ waits rs i, L e) → L j
  | 0, _, _, h, _ => by simp [ancB] at h
  | n + 1, j, i, h, hi => by
    simp only [ancB, List.any_eq_true, Bool.or_eq_true, Nat.beq_eq] at h
    rcases h with ⟨e, he, rfl⟩ | ⟨e, he, h⟩
    · exact hi _ he
    · exact ancB_spec hd h (hd e (hi e he))
def looks (ao : AOper) : List Nat := gT ao.g ++ opT ao.o
theorem get_put (f : Fr) (d : Option Nat) (v : AV) (t : Nat) : get (put f d v) t = if d = some t then v else get f t := by
  cases d with
  | none => simp [put]
  | some u => simp [put, get]
theorem okOpers_length {T : AOp → Oper → Bool} {nt : Nat} {rs : Array Oper} : ∀ {l : List AOper} {os : List Oper}, okOpers T nt rs l os = true → l.length = os.length
  | [], [], _ => rfl
  | [], _ :: _, h => by simp [okOpers] at h
  | _ :: _, [], h => by simp [okOpers] at h
  | _ :: _, _ :: _, h => by
    simp only [okOpers, Bool.and_eq_true] at h
    simp [okOpers_length h.2]
theorem okOpers_get {T : AOp → Oper → Bool} {nt : Nat} {rs : Array Oper} : ∀ {l : List AOper} {os : List Oper} {i : Nat} {x : AOper} {o : Oper}, okOpers T nt rs l os = true → l[i]? = some x → os[i]? = some o → okOper T nt rs x o = true
  | [], _, _, _, _, _, h, _ => by simp at h
  | _ :: _, [], _, _, _, _, _, h => by simp at h
  | _ :: _, _ :: _, 0, _, _, h, h1, h2 => by
    simp only [okOpers, Bool.and_eq_true] at h
    simp only [List.getElem?_cons_zero, Option.some.injEq] at h1 h2
    subst h1; subst h2
    exact h.1
  | _ :: _, _ :: _, i + 1, _, _, h, h1, h2 => by
    simp only [okOpers, Bool.and_eq_true] at h
    exact okOpers_get h.2 (i := i) (by simpa using h1) (by simpa using h2)
theorem rank_lt : ∀ {ws : List (Option (Nat × Nat))} {i j : Nat}, ws[i]? = some none → i < j → rank ws i < rank ws j
  | [], _, _, h, _ => by simp at h
  | _, _, 0, _, h => by omega
  | none :: ws, 0, j + 1, _, _ => by simp only [rank]; omega
  | some _ :: ws, 0, j + 1, h, _ => by simp at h
  | none :: ws, i + 1, j + 1, h, h' => by
    have := rank_lt (ws := ws) (i := i) (j := j) (by simpa using h) (by omega)
    simp only [rank]; omega
  | some _ :: ws, i + 1, j + 1, h, h' => by
    have := rank_lt (ws := ws) (i := i) (j := j) (by simpa using h) (by omega)
    simp only [rank]; omega
theorem rank_ex : ∀ {ws : List (Option (Nat × Nat))} {n k : Nat}, k < rank ws n → ∃ j, j < n ∧ ws[j]? = some none ∧ rank ws j = k
  | _, 0, _, h => by simp [rank] at h
  | [], _ + 1, _, h => by simp [rank] at h
  | none :: ws, n + 1, 0, _ => ⟨0, by omega, rfl, rfl⟩
  | none :: ws, n + 1, k + 1, h => by
    obtain ⟨j, h1, h2, h3⟩ := rank_ex (ws := ws) (n := n) (k := k) (by simp only [rank] at h; omega)
    exact ⟨j + 1, by omega, by simpa using h2, by simp only [rank, h3]⟩
  | some _ :: ws, n + 1, k, h => by
    obtain ⟨j, h1, h2, h3⟩ := rank_ex (ws := ws) (n := n) (k := k) (by simpa [rank] using h)
    exact ⟨j + 1, by omega, by simpa using h2, by simp only [rank, h3]⟩
section
variable {T : AOp → Oper → Bool} {P : Program} {tb : Tab} {cl : Nat → List AV → Heap → Out} {nt : Nat} {rs : Array Oper} {l : List AOper} {ws : List (Option (Nat × Nat))} {hs : List Heap} {fr : Nat → Fr} {vl : Nat → AV}
def On (listed : Array Bool) (i : Nat) : Prop := listed.getD i false = true
theorem on_set {listed : Array Bool} {i j : Nat} (hi : i < listed.size) : On (listed.setIfInBounds i true) j ↔ j = i ∨ On listed j := by
  unfold On
  by_cases h : i = j
  · subst h; simp [Array.getD_eq_getD_getElem?, hi]
  · rw [getD_set_ne false h]
    exact ⟨.inr, fun e => e.resolve_left (Ne.symm h)⟩
theorem waits_mem {i : Nat} {o : Oper} (h : rs[i]? = some o) {e : Nat} : e ∈ waits rs i ↔ ∃ x ∈ o.after, Region.binds .any x = true ∧ x.on = e := by
  simp only [waits, h, List.mem_map, List.mem_filter, Array.mem_toList_iff]
  exact ⟨fun ⟨x, ⟨h1, h2⟩, h3⟩ => ⟨x, h1, h2, h3⟩, fun ⟨x, h1, h2, h3⟩ => ⟨x, ⟨h1, h2⟩, h3⟩⟩
theorem ready_iff {listed : Array Bool} (hsz : listed.size = rs.size) {i : Nat} : i ∈ Region.ready .any rs listed ↔ i < rs.size ∧ ¬ On listed i ∧ ∀ e ∈ waits rs i, On listed e := by
  rw [mem_ready]
  constructor
  · rintro ⟨h1, o, ho, h2⟩
    have hi : i < rs.size := (Array.getElem?_eq_some_iff.1 ho).1
    refine ⟨hi, fun h => ?_, fun e he => ?_⟩
    · unfold On at h
      simp [Array.getD_eq_getD_getElem?, show i < listed.size by omega] at h h1
      rw [h1] at h; cases h
    · obtain ⟨x, hx, hb, rfl⟩ := (waits_mem ho).1 he
      exact h2 x hx hb
  · rintro ⟨hi, h1, h2⟩
    obtain ⟨o, ho⟩ : ∃ o, rs[i]? = some o := ⟨rs[i], Array.getElem?_eq_getElem hi⟩
    refine ⟨?_, o, ho, fun x hx hb => h2 _ ((waits_mem ho).2 ⟨x, hx, hb, rfl⟩)⟩
    unfold On at h1
    simp [Array.getD_eq_getD_getElem?, show i < listed.size by omega] at h1 ⊢
    exact h1
theorem lex_frames (hstep : ∀ i ao, l[i]? = some ao → fr (i + 1) = put (fr i) ao.d (vl i)) (h3 : ∀ (i j : Nat) (x y : AOper) (t : Nat), l[i]? = some x → l[j]? = some y → i ≠ j → x.d = some t → y.d ≠ some t) :
    ∀ m, m ≤ l.length → (∀ i x t, i < m → l[i]? = some x → x.d = some t → get (fr m) t = vl i) ∧ (∀ t, (∀ i x, i < m → l[i]? = some x → x.d ≠ some t) → get (fr m) t = get (fr 0) t)
  | 0, _ => ⟨fun _ _ _ h => by omega, fun _ _ => rfl⟩
  | m + 1, hm => by
    obtain ⟨q1, q2⟩ := lex_frames hstep h3 m (by omega)
    obtain ⟨x, hx⟩ : ∃ x, l[m]? = some x := ⟨_, List.getElem?_eq_getElem (by omega)⟩
    rw [hstep m x hx]
    refine ⟨fun i y t hi hy hd => ?_, fun t ht => ?_⟩
    · rw [get_put]
      by_cases him : i = m
      · subst him
        rw [hx] at hy
        obtain rfl := Option.some.inj hy
        rw [if_pos hd]
      · rw [if_neg (h3 i m y x t hy hx him hd)]
        exact q1 i y t (by omega) hy hd
    · rw [get_put, if_neg (ht m x (by omega) hx)]
      exact q2 t fun i y hi => ht i y (by omega)
end
end Go.Proofs.YtoegmdfkcaojlaaGreat.Am
namespace Go.Proofs.YtoegmdfkcaojlaaGreat.Am
theorem reserve {tb : Tab} {C : Ctx} (I : Inv tb C) {w : World} (hrest : Rest C.w w) (hs : C.w.heap.size < w.heap.size) (hw : ∀ b, b < C.w.heap.size → w.heap[b]? = C.w.heap[b]?) :
    Ext C ⟨C.φ, C.H, w, C.w.heap.size :: C.res⟩ ∧ Inv tb ⟨C.φ, C.H, w, C.w.heap.size :: C.res⟩ := by
  have X : Ext C ⟨C.φ, C.H, w, C.w.heap.size :: C.res⟩ := by
    refine ⟨hrest, Nat.le_of_lt hs, Nat.le_refl _, fun b hb hn => ⟨hw b hb, ?_⟩, fun _ o h f => ⟨⟨o, h, f⟩, rfl⟩, fun _ fz _ els h => ⟨fz, els, h, Nat.le_refl _, fun _ => rfl⟩, fun b hb hl => ⟨List.mem_cons_of_mem _ hb, hw b hl⟩⟩
    rintro (h | h)
    · exact hn (.inl h)
    · rcases List.mem_cons.1 h with rfl | h
      · exact Nat.lt_irrefl _ hb
      · exact hn (.inr h)
  refine ⟨X, fun j x hj => Obj.ext X (hw _ (I.lt j (lt_of_get hj))) (I.obj j x hj), I.inj, fun i hi => Nat.lt_trans (I.lt i hi) hs, ?_, Inv.it_ext I X, fun b hb => ?_⟩
  · intro g cs hg
    obtain ⟨h1, h2, h3, vs, h4, h5⟩ := I.gl g cs hg
    obtain ⟨h6, h7⟩ := X.same g h1 h2
    exact ⟨Nat.lt_trans h1 hs, h7, h3, vs, h4.same h6, RepL.ext X h5⟩
  · rcases List.mem_cons.1 hb with rfl | hb
    · exact ⟨hs, fun i hi => Nat.ne_of_lt (I.lt i hi)⟩
    · exact ⟨Nat.lt_trans (I.rs b hb).1 hs, (I.rs b hb).2⟩
def Ctx.wake (C : Ctx) (p : Place) (o : AObj) : Ctx := ⟨fun j => if j = C.H.length then p else C.φ j, C.H ++ [o], C.w, C.res.filter (fun x => x != p.blk)⟩
theorem wake_own {C : Ctx} {p : Place} {o : AObj} (hp : p.blk ∈ C.res) (b : Nat) : (C.wake p o).own b ↔ C.own b := by
  have hlen : (C.wake p o).H.length = C.H.length + 1 := by simp [Ctx.wake]
  constructor
  · rintro (⟨j, hj, e⟩ | h)
    · rw [hlen] at hj
      by_cases hji : j = C.H.length
      · subst hji
        have : (C.wake p o).φ C.H.length = p := if_pos rfl
        rw [this] at e
        exact .inr (e ▸ hp)
      · have : (C.wake p o).φ j = C.φ j := if_neg hji
        rw [this] at e
        exact .inl ⟨j, by omega, e⟩
    · exact .inr (List.mem_filter.1 h).1
  · rintro (⟨j, hj, e⟩ | h)
    · exact .inl ⟨j, by omega, (congrArg Place.blk (if_neg (by omega) : (C.wake p o).φ j = C.φ j)).trans e⟩
    · by_cases hb : b = p.blk
      · exact .inl ⟨C.H.length, by omega, (congrArg Place.blk (if_pos rfl : (C.wake p o).φ C.H.length = p)).trans hb.symm⟩
      · exact .inr (List.mem_filter.2 ⟨h, by simpa using hb⟩)
theorem wake_ext0 {C : Ctx} {p : Place} {o : AObj} (hp : p.blk ∈ C.res) : Ext0 C (C.wake p o) := by
  have hφ : ∀ j, j < C.H.length → (C.wake p o).φ j = C.φ j := fun j hj => if_neg (by omega)
  have get : ∀ j, j < C.H.length → (C.wake p o).H[j]? = C.H[j]? := fun j hj => List.getElem?_append_left hj
  refine ⟨⟨rfl, rfl, rfl⟩, Nat.le_refl _, by simp [Ctx.wake], fun b _ hn => ⟨rfl, fun h => hn ((wake_own hp b).1 h)⟩, ?_, ?_⟩
  · intro j x hj hx
    have := lt_of_get hj
    exact ⟨⟨x, by rw [get j this]; exact hj, hx⟩, hφ j this⟩
  · intro j fz sz els hj
    obtain ⟨t, hj', _⟩ := row_get hj
    have := lt_of_get hj'
    exact ⟨fz, els, by rw [row_eq (get j this)]; exact hj, Nat.le_refl _, fun _ => hφ j this⟩
theorem Ext.wake {C₀ C : Ctx} (X : Ext C₀ C) {p : Place} {o : AObj} (hp : p.blk ∈ C.res) (h0 : C₀.w.heap.size ≤ p.blk) : Ext C₀ (C.wake p o) := by
  have Y := wake_ext0 (o := o) hp
  refine ⟨X.rest, X.size, Nat.le_trans X.len Y.len, fun b hb hn => ?_, ?_, ?_, fun b hb hl => ?_⟩
  · obtain ⟨h1, h2⟩ := X.same b hb hn
    exact ⟨h1, fun h => h2 ((wake_own hp b).1 h)⟩
  · intro id x h f
    obtain ⟨⟨o', h', f'⟩, e⟩ := X.fixed id x h f
    obtain ⟨h2, e'⟩ := Y.fixed id o' h' f'
    exact ⟨h2, e'.trans e⟩
  · intro id fz sz els h
    obtain ⟨fz', els', h', l, e⟩ := X.row id fz sz els h
    obtain ⟨fz'', els'', h'', l', e'⟩ := Y.row id fz' sz els' h'
    exact ⟨fz'', els'', h'', Nat.le_trans l l', fun q => (e' (by omega)).trans (e (by omega))⟩
  · obtain ⟨h1, h2⟩ := X.kept b hb hl
    exact ⟨List.mem_filter.2 ⟨h1, by simp; omega⟩, h2⟩
theorem Inv.wake {tb : Tab} {C : Ctx} (I : Inv tb C) {p : Place} {o : AObj} (hp : p.blk ∈ C.res) (ob : Obj (C.wake p o) p o) : Inv tb (C.wake p o) := by
  have Y := wake_ext0 (o := o) hp
  have hφ : ∀ j, j < C.H.length → (C.wake p o).φ j = C.φ j := fun j hj => if_neg (by omega)
  have hφn : (C.wake p o).φ C.H.length = p := if_pos rfl
  have hlen : (C.wake p o).H.length = C.H.length + 1 := by simp [Ctx.wake]
  have get : ∀ j, j < C.H.length → (C.wake p o).H[j]? = C.H[j]? := fun j hj => List.getElem?_append_left hj
  have getn : (C.wake p o).H[C.H.length]? = some o := by simp [Ctx.wake]
  obtain ⟨r1, r2⟩ := I.rs _ hp
  refine ⟨?_, ?_, ?_, ?_, ?_, fun b hb => ?_⟩
  · intro j x hj
    have := lt_of_get hj
    rw [hlen] at this
    by_cases hji : j = C.H.length
    · subst hji
      rw [getn] at hj
      obtain rfl := Option.some.inj hj
      rw [hφn]; exact ob
    · have hl : j < C.H.length := by omega
      rw [get j hl] at hj
      rw [hφ j hl]
      exact Obj.ext0 Y rfl (I.obj j x hj)
  · intro i j hi hj e
    rw [hlen] at hi hj
    by_cases hii : i = C.H.length <;> by_cases hji : j = C.H.length
    · rw [hii, hji]
    · subst hii
      rw [hφ j (by omega), hφn] at e
      exact absurd e.symm (r2 j (by omega))
    · subst hji
      rw [hφ i (by omega), hφn] at e
      exact absurd e (r2 i (by omega))
    · rw [hφ i (by omega), hφ j (by omega)] at e
      exact I.inj i j (by omega) (by omega) e
  · intro i hi
    rw [hlen] at hi
    by_cases hii : i = C.H.length
    · subst hii; rw [hφn]; exact r1
    · rw [hφ i (by omega)]; exact I.lt i (by omega)
  · intro g cs hg
    obtain ⟨h1, h2, h3, vs, h4, h5⟩ := I.gl g cs hg
    exact ⟨h1, fun h => h2 ((wake_own hp g).1 h), h3, vs, h4, RepL.ext0 Y h5⟩
  · intro g hg
    obtain ⟨h1, h2⟩ := I.it g hg
    exact ⟨fun h => h1 ((wake_own hp g).1 h), h2⟩
  · obtain ⟨h1, h2⟩ := List.mem_filter.1 hb
    obtain ⟨h3, h4⟩ := I.rs b h1
    refine ⟨h3, fun i hi => ?_⟩
    rw [hlen] at hi
    by_cases hii : i = C.H.length
    · subst hii; rw [hφn]; intro e; simp [e] at h2
    · rw [hφ i (by omega)]; exact h4 i (by omega)
theorem wake_cells {C : Ctx} {p : Place} {cs : List AV} {vs : Array Value} {e : TypeId} (h : C.w.heap[p.blk]? = some (.cells vs e (0, 0))) (hz : isSs cs vs.toList = true) :
    Obj (C.wake p (AObj.cells (some e) cs)) p (AObj.cells (some e) cs) := by
  obtain ⟨h1, h2⟩ := isSs_rep (C := C.wake p (AObj.cells (some e) cs)) hz
  have hn : (C.wake p (AObj.cells (some e) cs)).w.heap[p.blk]? = some (.cells vs e (0, 0)) := h
  refine ⟨vs.toList, vs, e, (0, 0), ⟨hn, fun k hk => by cases hk; rfl⟩, by have := h1.length; simpa using this, h2, h1, ?_, ?_⟩
  · intro j v hj
    simp only [World.cell?, hn, Nat.zero_add]
    simpa using hj
  · intro o ho
    simp only [World.frozen?, hn]
    simp
end Go.Proofs.YtoegmdfkcaojlaaGreat.Am
namespace Go.Proofs.YtoegmdfkcaojlaaGreat.Am
theorem get_put' (f : Fr) (d t : Nat) (v : AV) : get (put f (some d) v) t = if d = t then v else get f t := rfl
def AllocRuns (P : Program) (t : Nat) (z : List AV) (o : Oper) : Prop :=
  ∀ (ev : Operand → Value) (w : World), ∃ vs : Array Value, (execOp ev o).run P w = .ok (.value (.pointer (some ⟨w.heap.size, 0, none⟩))) (w.alloc (.cells vs t)) ∧ isSs z vs.toList = true
theorem alloc_runs {P : Program} {t : TypeId} {z : List AV} {i : TypeInfo} {zv : Value} {o : Oper} (ho : o.op = .alloc t) (hi : P.info? t = some i) (hz : i.zero = some zv) (hv : isSs z zv.cells.toList = true) : AllocRuns P t z o := by
  intro ev w
  refine ⟨zv.cells, ?_, hv⟩
  simp only [execOp, ho, Instr.alloc, zeroValue, Sem.run_bind, run_typeInfo' hi, Result.andThen_ok, hz, Sem.run_pure, newVar, newRow, run_newObj]
  rfl
theorem ok_alloc_runs {P : Program} {t0 : Nat} {z : List AV} {o : Oper} (h : okAlloc P t0 z o = true) : AllocRuns P t0 z o := by
  unfold okAlloc at h
  split at h
  · rename_i t ho
    split at h
    · rename_i zv hz
      obtain ⟨i, hi, hz2⟩ := Option.bind_eq_some_iff.1 hz
      rw [Bool.and_eq_true] at h
      obtain rfl := Nat.eq_of_beq_eq_true h.1
      exact alloc_runs ho hi hz2 h.2
    · cases h
  · cases h
theorem okOp_alloc {P : Program} {t0 : Nat} {z : List AV} {o : Oper} (h : okOp P (.alloc t0 z) o = true) : AllocRuns P t0 z o := ok_alloc_runs h
structure Pd (l : List AOper) (ws : List (Option (Nat × Nat))) (C : Ctx) (f : Fr) (a : Act) (n0 k i b t ty : Nat) (z : List AV) : Prop where
  op : l[i]? = some ⟨some t, none, .alloc ty z⟩
  wr : ws[i]? = some none
  rk : k ≤ rank ws i
  res : b ∈ C.res
  new : n0 ≤ b
  junk : get f t = .junk
  tmp : a.tmps.getD t undef = .pointer (some ⟨b, 0, none⟩)
  cells : ∃ vs : Array Value, C.w.heap[b]? = some (.cells vs ty (0, 0)) ∧ isSs z vs.toList = true
theorem Pd.wake {tb : Tab} {l : List AOper} {ws : List (Option (Nat × Nat))} {C₀ C : Ctx} {f : Fr} {a : Act} {nt k i b t ty : Nat} {z : List AV} (p : Pd l ws C f a C₀.w.heap.size k i b t ty z) (X : Ext C₀ C) (I : Inv tb C) (F : FrRel C f a nt) :
    ∃ D : Ctx, Ext C₀ D ∧ Ext0 C D ∧ Inv tb D ∧ D.w = C.w ∧ D.H = C.H ++ [AObj.cells (some ty) z] ∧ FrRel D (put f (some t) (.ptr C.H.length 0)) a nt ∧ (∀ x ∈ C.res, x ≠ b → x ∈ D.res) := by
  obtain ⟨vs, h1, h2⟩ := p.cells
  let q : Place := ⟨b, 0, vs.size⟩
  have hq : q.blk ∈ C.res := p.res
  refine ⟨C.wake q (AObj.cells (some ty) z), X.wake hq p.new, wake_ext0 hq, I.wake hq (wake_cells h1 h2), rfl, rfl, ⟨fun u => ?_, F.size, F.defers⟩, fun x hx hne => List.mem_filter.2 ⟨hx, by simpa using hne⟩⟩
  rw [get_put']
  by_cases hu : t = u
  · subst hu
    rw [if_pos rfl, p.tmp]
    have hφ : (C.wake q (AObj.cells (some ty) z)).φ C.H.length = q := if_pos rfl
    exact ⟨⟨AObj.cells (some ty) z, by simp [Ctx.wake], rfl⟩, by rw [hφ]⟩
  · rw [if_neg hu]
    exact Rep.ext0 (wake_ext0 hq) (F.rep u)
end Go.Proofs.YtoegmdfkcaojlaaGreat.Am
namespace Go.Proofs.YtoegmdfkcaojlaaGreat.Am
abbrev PdE := Nat × Nat × Nat × Nat × List AV
structure St2 (rs : Array Oper) (l : List AOper) (ws : List (Option (Nat × Nat))) (hs : List Heap) (fr : Nat → Fr) (vl : Nat → AV) (listed : Array Bool) (C₀ C : Ctx) (f : Fr) (a : Act) (k : Nat) (pd : List PdE) : Prop where
  size : listed.size = rs.size
  down : ∀ i, On listed i → ∀ e ∈ waits rs i, On listed e
  hk : hs[k]? = some C.H
  on : ∀ j, j < rs.size → ws[j]? = some none → (On listed j ↔ rank ws j < k ∨ ∃ p ∈ pd, p.1 = j)
  pds : ∀ p ∈ pd, On listed p.1 ∧ Pd l ws C f a C₀.w.heap.size k p.1 p.2.1 p.2.2.1 p.2.2.2.1 p.2.2.2.2
  nd : ∀ p ∈ pd, ∀ q ∈ pd, p.1 ≠ q.1 → p.2.1 ≠ q.2.1
  vals : ∀ i ai t, On listed i → l[i]? = some ai → ai.d = some t → (∀ p ∈ pd, p.1 ≠ i) → get f t = vl i
  rest : ∀ t, (∀ i ai, On listed i → l[i]? = some ai → ai.d ≠ some t) → get f t = get (fr 0) t
theorem settle {tb : Tab} {nt : Nat} {rs : Array Oper} {l : List AOper} {ws : List (Option (Nat × Nat))} {hs : List Heap} {fr : Nat → Fr} {vl : Nat → AV} {listed : Array Bool} {C₀ : Ctx} {a : Act}
    (c4 : ∀ (i j : Nat) (x y : AOper) (t : Nat), l[i]? = some x → l[j]? = some y → i ≠ j → x.d = some t → y.d ≠ some t)
    (hA : ∀ i t ty z, l[i]? = some ⟨some t, none, .alloc ty z⟩ → ws[i]? = some none → ∀ H, hs[rank ws i]? = some H → hs[rank ws i + 1]? = some (H ++ [AObj.cells (some ty) z]) ∧ vl i = .ptr H.length 0) :
    ∀ (n : Nat) (C : Ctx) (f : Fr) (k : Nat) (pd : List PdE), pd.length ≤ n → St2 rs l ws hs fr vl listed C₀ C f a k pd → Ext C₀ C → Inv tb C → FrRel C f a nt →
      ∃ D f' k' pd', St2 rs l ws hs fr vl listed C₀ D f' a k' pd' ∧ Ext C₀ D ∧ Inv tb D ∧ FrRel D f' a nt ∧ D.w = C.w ∧ ∀ p ∈ pd', k' < rank ws p.1 := by
  intro n
  induction n with
  | zero =>
    intro C f k pd hn S X I F
    obtain rfl := List.length_eq_zero_iff.1 (Nat.le_zero.1 hn)
    exact ⟨C, f, k, [], S, X, I, F, rfl, fun p hp => by cases hp⟩
  | succ n ih =>
    intro C f k pd hn S X I F
    by_cases hall : ∀ p ∈ pd, k < rank ws p.1
    · exact ⟨C, f, k, pd, S, X, I, F, rfl, hall⟩
    · obtain ⟨p, hp, hr⟩ : ∃ p, p ∈ pd ∧ ¬ k < rank ws p.1 := by
        refine Classical.byContradiction fun h => hall fun p hp => Classical.byContradiction fun h2 => h ⟨p, hp, h2⟩
      obtain ⟨hon, P⟩ := S.pds p hp
      have hrk : rank ws p.1 = k := by have := P.rk; omega
      obtain ⟨D, X2, X0, ID, hw, hH, FD, hres⟩ := P.wake X I F
      obtain ⟨hs1, hv⟩ := hA p.1 _ _ _ P.op P.wr C.H (by rw [hrk]; exact S.hk)
      have inj : ∀ j, ws[j]? = some none → rank ws j = k → j = p.1 := fun j hj e => by
        rcases Nat.lt_trichotomy j p.1 with h | h | h
        · have := rank_lt hj h; omega
        · exact h
        · have := rank_lt P.wr h; omega
      have S2 : St2 rs l ws hs fr vl listed C₀ D (put f (some p.2.2.1) (.ptr C.H.length 0)) a (k + 1) (pd.filter fun q => q.1 != p.1) := by
        refine ⟨S.size, S.down, by rw [hH, ← hrk]; exact hs1, fun j hj hwj => ?_, fun q hq => ?_, fun q hq r hr => S.nd q (List.mem_filter.1 hq).1 r (List.mem_filter.1 hr).1, fun i ai t ho hi hd hno => ?_, fun t ht => ?_⟩
        · rw [S.on j hj hwj]
          constructor
          · rintro (h | ⟨q, hq, rfl⟩)
            · exact .inl (by omega)
            · by_cases e : q.1 = p.1
              · exact .inl (by rw [e, hrk]; omega)
              · exact .inr ⟨q, List.mem_filter.2 ⟨hq, by simpa using e⟩, rfl⟩
          · rintro (h | ⟨q, hq, rfl⟩)
            · by_cases e : rank ws j = k
              · exact .inr ⟨p, hp, (inj j hwj e).symm⟩
              · exact .inl (by omega)
            · exact .inr ⟨q, (List.mem_filter.1 hq).1, rfl⟩
        · obtain ⟨hq1, hq2⟩ := List.mem_filter.1 hq
          have hne : q.1 ≠ p.1 := by simpa using hq2
          obtain ⟨ho, Q⟩ := S.pds q hq1
          refine ⟨ho, Q.op, Q.wr, ?_, hres _ Q.res (S.nd q hq1 p hp hne), Q.new, ?_, Q.tmp, by rw [hw]; exact Q.cells⟩
          · have := Q.rk
            have : rank ws q.1 ≠ k := fun e => hne (inj _ Q.wr e)
            omega
          · rw [get_put', if_neg]
            · exact Q.junk
            · intro e
              exact c4 p.1 q.1 _ _ _ P.op Q.op (Ne.symm hne) rfl (by rw [e])
        · rw [get_put']
          by_cases hi2 : i = p.1
          · subst hi2
            rw [P.op] at hi
            obtain rfl := Option.some.inj hi
            rw [if_pos (Option.some.inj hd), hv]
          · rw [if_neg fun e => c4 p.1 i _ _ _ P.op hi (Ne.symm hi2) rfl (by rw [hd, e])]
            refine S.vals i ai t ho hi hd fun q hq e => ?_
            exact hno q (List.mem_filter.2 ⟨hq, by simpa using fun h => hi2 (e.symm.trans h)⟩) e
        · rw [get_put', if_neg fun e => ht p.1 _ hon P.op (by rw [e])]
          exact S.rest t ht
      have hlt : (pd.filter fun q => q.1 != p.1).length < pd.length := by
        refine Nat.lt_of_le_of_ne (List.length_filter_le _ _) fun e => ?_
        have := (List.length_filter_eq_length_iff.1 e) p hp
        simp at this
      obtain ⟨E, f', k', pd', S3, X3, I3, F3, w3, h3⟩ := ih D _ (k + 1) _ (by omega) S2 X2 ID FD
      exact ⟨E, f', k', pd', S3, X3, I3, F3, w3.trans hw, h3⟩
end Go.Proofs.YtoegmdfkcaojlaaGreat.Am
namespace Go.Proofs.YtoegmdfkcaojlaaGreat.Am
def earlyB (l : List AOper) (i : Nat) : Bool := match l[i]? with
  | some ⟨some _, none, .alloc _ _⟩ => true
  | _ => false
theorem earlyB_spec {l : List AOper} {i : Nat} (h : earlyB l i = true) : ∃ t ty z, l[i]? = some ⟨some t, none, .alloc ty z⟩ := by
  unfold earlyB at h
  split at h
  · rename_i t ty z e; exact ⟨t, ty, z, e⟩
  · cases h
def okPair2 (rs : Array Oper) (l : List AOper) (ws : List (Option (Nat × Nat))) (i j : Nat) : Bool :=
  match l[i]?, l[j]? with
  | some x, some y =>
    (match x.d with | some t => decide (y.d ≠ some t) | none => true) &&
    (match y.d with | some t => !(looks x).contains t || (if j < i then ancB rs rs.size j i && (!earlyB l j || (match ws[i]? with | some (some (lo, _)) => decide (rank ws j < lo) | _ => !earlyB l i)) else ancB rs rs.size i j) | none => true) &&
    (match ws[i]?, ws[j]? with
      | some none, some none => !decide (j < i) || (ancB rs rs.size j i || earlyB l i)
      | some (some (lo, hi)), some none => (!decide (rank ws j < lo) || ancB rs rs.size j i) && (!decide (rank ws j = hi) || ancB rs rs.size i j)
      | _, _ => true)
  | _, _ => true
def okD2 (T : AOp → Oper → Bool) (nt : Nat) (rs : Array Oper) (l : List AOper) (ws : List (Option (Nat × Nat))) : Bool :=
  okOpers T nt rs l rs.toList && (List.range rs.size).all fun i =>
    (waits rs i).all (fun e => decide (e < i)) &&
    (match ws[i]? with | some (some (lo, _)) => decide (lo ≤ rank ws rs.size) | _ => true) &&
    (List.range rs.size).all fun j => i == j || okPair2 rs l ws i j
section
variable {T : AOp → Oper → Bool} {nt : Nat} {rs : Array Oper} {l : List AOper} {ws : List (Option (Nat × Nat))}
theorem okD2_spec (h : okD2 T nt rs l ws = true) : l.length = rs.size ∧ (∀ (i : Nat) (x : AOper) (o : Oper), l[i]? = some x → rs[i]? = some o → okOper T nt rs x o = true) ∧ (∀ i, i < rs.size → ∀ e ∈ waits rs i, e < i) ∧
    (∀ (i j : Nat) (x y : AOper) (t : Nat), l[i]? = some x → l[j]? = some y → i ≠ j → x.d = some t → y.d ≠ some t) ∧
    (∀ (i j : Nat) (x y : AOper) (t : Nat), l[i]? = some x → l[j]? = some y → y.d = some t → t ∈ looks x → (j < i ∧ ancB rs rs.size j i = true ∧ (earlyB l j = true → (∃ lo hi, ws[i]? = some (some (lo, hi)) ∧ rank ws j < lo) ∨ ((∀ p, ws[i]? ≠ some (some p)) ∧ earlyB l i = false))) ∨ (i < j ∧ ancB rs rs.size i j = true) ∨ i = j) ∧
    (∀ i j, i < rs.size → j < rs.size → i ≠ j → ws[i]? = some none → ws[j]? = some none → j < i → ancB rs rs.size j i = true ∨ earlyB l i = true) ∧
    (∀ i j lo hi, i < rs.size → j < rs.size → ws[i]? = some (some (lo, hi)) → ws[j]? = some none → (rank ws j < lo → ancB rs rs.size j i = true) ∧ (rank ws j = hi → ancB rs rs.size i j = true)) ∧
    (∀ i lo hi, i < rs.size → ws[i]? = some (some (lo, hi)) → lo ≤ rank ws rs.size) := by
  simp only [okD2, Bool.and_eq_true, List.all_eq_true, List.mem_range, decide_eq_true_eq, Bool.or_eq_true, beq_iff_eq] at h
  obtain ⟨h1, h2⟩ := h
  have hlen : l.length = rs.size := by rw [okOpers_length h1]; simp
  have lt : ∀ {i x}, l[i]? = some x → i < rs.size := fun {i x} e => by have := lt_of_get e; omega
  have pair : ∀ i j, i < rs.size → j < rs.size → i ≠ j → okPair2 rs l ws i j = true := fun i j hi hj hne => ((h2 i hi).2 j hj).resolve_left hne
  refine ⟨hlen, fun i x o hx ho => okOpers_get h1 hx (by simpa using ho), fun i hi => (h2 i hi).1.1, ?_, ?_, ?_, ?_, fun i lo hi hil hw => ?_⟩
  · intro i j x y t hx hy hne hd
    have := pair i j (lt hx) (lt hy) hne
    simp only [okPair2, hx, hy, hd, Bool.and_eq_true, decide_eq_true_eq] at this
    exact this.1.1
  · intro i j x y t hx hy hd ht
    by_cases hij : i = j
    · exact .inr (.inr hij)
    · have := pair i j (lt hx) (lt hy) hij
      simp only [okPair2, hx, hy, hd, Bool.and_eq_true, Bool.or_eq_true, Bool.not_eq_true'] at this
      rcases this.1.2 with h | h
      · simp [ht] at h
      · by_cases hlt : j < i
        · rw [if_pos hlt, Bool.and_eq_true, Bool.or_eq_true] at h
          refine .inl ⟨hlt, h.1, fun he => ?_⟩
          rcases h.2 with h3 | h3
          · rw [he] at h3; cases h3
          · split at h3
            · rename_i lo hi hw; exact .inl ⟨lo, hi, hw, of_decide_eq_true h3⟩
            · rename_i hw
              refine .inr ⟨fun p e => ?_, by simpa using h3⟩
              exact hw p.1 p.2 e
        · rw [if_neg hlt] at h
          exact .inr (.inl ⟨by omega, h⟩)
  · intro i j hi hj hne hwi hwj hlt
    have := pair i j hi hj hne
    obtain ⟨x, hx⟩ : ∃ x, l[i]? = some x := ⟨_, List.getElem?_eq_getElem (by omega)⟩
    obtain ⟨y, hy⟩ : ∃ x, l[j]? = some x := ⟨_, List.getElem?_eq_getElem (by omega)⟩
    simp only [okPair2, hx, hy, hwi, hwj, Bool.and_eq_true, Bool.or_eq_true, Bool.not_eq_true', decide_eq_false_iff_not] at this
    exact this.2.resolve_left (by omega)
  · intro i j lo hi hil hjl hwi hwj
    have hne : i ≠ j := by rintro rfl; rw [hwi] at hwj; cases hwj
    have := pair i j hil hjl hne
    obtain ⟨x, hx⟩ : ∃ x, l[i]? = some x := ⟨_, List.getElem?_eq_getElem (by omega)⟩
    obtain ⟨y, hy⟩ : ∃ x, l[j]? = some x := ⟨_, List.getElem?_eq_getElem (by omega)⟩
    simp only [okPair2, hx, hy, hwi, hwj, Bool.and_eq_true, Bool.or_eq_true, Bool.not_eq_true', decide_eq_false_iff_not] at this
    exact ⟨fun h => this.2.1.resolve_left (by omega), fun h => this.2.2.resolve_left (by omega)⟩
  · have := (h2 i hil).1.2
    simpa only [hw, decide_eq_true_eq] using this
end
end Go.Proofs.YtoegmdfkcaojlaaGreat.Am
namespace Go.Proofs.YtoegmdfkcaojlaaGreat.Am
theorem Pd.next {l : List AOper} {ws : List (Option (Nat × Nat))} {C D : Ctx} {f : Fr} {a : Act} {n0 k k' i b t ty : Nat} {z : List AV} (p : Pd l ws C f a n0 k i b t ty z) (hb : b < C.w.heap.size) (X : Ext C D) (hk : k' ≤ rank ws i)
    {d : Option Nat} (hd : d ≠ some t) (x : AV) (v : Value) : Pd l ws D (put f d x) (a.put d v) n0 k' i b t ty z := by
  obtain ⟨h1, h2⟩ := X.kept b p.res hb
  refine ⟨p.op, p.wr, hk, h1, p.new, ?_, ?_, ?_⟩
  · rw [get_put, if_neg hd]; exact p.junk
  · rw [← p.tmp]
    cases d with
    | none => rfl
    | some u =>
      have e : u ≠ t := fun e => hd (by rw [e])
      simp only [Act.put]
      simp [Array.getD_eq_getD_getElem?, Array.getElem?_setIfInBounds_ne e]
  · obtain ⟨vs, h3, h4⟩ := p.cells
    exact ⟨vs, h2.trans h3, h4⟩
section
variable {rs : Array Oper} {l : List AOper} {ws : List (Option (Nat × Nat))} {hs : List Heap} {fr : Nat → Fr} {vl : Nat → AV} {listed : Array Bool} {C₀ C : Ctx} {f : Fr} {a : Act} {m : Nat} {pd : List PdE}
theorem St2.turn (S : St2 rs l ws hs fr vl listed C₀ C f a m pd) (hpd : ∀ p ∈ pd, m < rank ws p.1) {j : Nat} (hj : j < rs.size) (hw : ws[j]? = some none) (e : rank ws j = m) : ¬ On listed j := by
  intro h
  rcases (S.on j hj hw).1 h with h | ⟨p, hp, rfl⟩
  · omega
  · have := hpd p hp; omega
theorem St2.window (S : St2 rs l ws hs fr vl listed C₀ C f a m pd) (hpd : ∀ p ∈ pd, m < rank ws p.1) (hml : m ≤ rank ws rs.size)
    (c7 : ∀ i j lo hi, i < rs.size → j < rs.size → ws[i]? = some (some (lo, hi)) → ws[j]? = some none → (rank ws j < lo → ancB rs rs.size j i = true) ∧ (rank ws j = hi → ancB rs rs.size i j = true))
    (c8 : ∀ i lo hi, i < rs.size → ws[i]? = some (some (lo, hi)) → lo ≤ rank ws rs.size) {i : Nat} (hil : i < rs.size) (hno : ¬ On listed i) (hall : ∀ e ∈ waits rs i, On listed e) {lo hi : Nat} (hwi : ws[i]? = some (some (lo, hi))) : lo ≤ m ∧ m ≤ hi := by
  constructor
  · refine Nat.le_of_not_lt fun h => ?_
    obtain ⟨j, hj, hwj, hrj⟩ : ∃ j, j < rs.size ∧ ws[j]? = some none ∧ rank ws j = m := rank_ex (Nat.lt_of_lt_of_le h (c8 i lo hi hil hwi))
    exact S.turn hpd hj hwj hrj (ancB_spec S.down ((c7 i j lo hi hil hj hwi hwj).1 (by omega)) hall)
  · refine Nat.le_of_not_lt fun h => ?_
    by_cases ht : hi < rank ws rs.size
    · obtain ⟨j, hj, hwj, hrj⟩ : ∃ j, j < rs.size ∧ ws[j]? = some none ∧ rank ws j = hi := rank_ex ht
      have hon := (S.on j hj hwj).2 (.inl (by omega))
      exact hno (ancB_spec S.down ((c7 i j lo hi hil hj hwi hwj).2 (by omega)) (S.down j hon))
    · omega
theorem St2.place (S : St2 rs l ws hs fr vl listed C₀ C f a m pd) (hpd : ∀ p ∈ pd, m < rank ws p.1)
    (c6 : ∀ i j, i < rs.size → j < rs.size → i ≠ j → ws[i]? = some none → ws[j]? = some none → j < i → ancB rs rs.size j i = true ∨ earlyB l i = true) {i : Nat} (hil : i < rs.size) (hno : ¬ On listed i) (hall : ∀ e ∈ waits rs i, On listed e) (hwi : ws[i]? = some none) :
    m ≤ rank ws i ∧ (earlyB l i = false → rank ws i = m) := by
  have h1 : m ≤ rank ws i := Nat.le_of_not_lt fun h => hno ((S.on i hil hwi).2 (.inl h))
  refine ⟨h1, fun he => ?_⟩
  refine Classical.byContradiction fun hne => ?_
  obtain ⟨j, hj, hwj, hrj⟩ := rank_ex (show m < rank ws i by omega)
  rcases c6 i j hil (by omega) (by omega) hwi hwj hj with h | h
  · exact S.turn hpd (by omega) hwj hrj (ancB_spec S.down h hall)
  · rw [he] at h; cases h
theorem St2.noPend (S : St2 rs l ws hs fr vl listed C₀ C f a m pd) (hpd : ∀ p ∈ pd, m < rank ws p.1) (hml : m ≤ rank ws rs.size)
    (c6 : ∀ i j, i < rs.size → j < rs.size → i ≠ j → ws[i]? = some none → ws[j]? = some none → j < i → ancB rs rs.size j i = true ∨ earlyB l i = true)
    (c7 : ∀ i j lo hi, i < rs.size → j < rs.size → ws[i]? = some (some (lo, hi)) → ws[j]? = some none → (rank ws j < lo → ancB rs rs.size j i = true) ∧ (rank ws j = hi → ancB rs rs.size i j = true))
    (c8 : ∀ i lo hi, i < rs.size → ws[i]? = some (some (lo, hi)) → lo ≤ rank ws rs.size) {i : Nat} (hil : i < rs.size) (hno : ¬ On listed i) (hall : ∀ e ∈ waits rs i, On listed e) {w : Option (Nat × Nat)} (hwi : ws[i]? = some w) {j : Nat} (hji : j < i)
    (h : earlyB l j = true → (∃ lo hi, ws[i]? = some (some (lo, hi)) ∧ rank ws j < lo) ∨ ((∀ p, ws[i]? ≠ some (some p)) ∧ earlyB l i = false)) : ∀ p ∈ pd, p.1 ≠ j := by
  rintro p hp rfl
  have P := (S.pds p hp).2
  have hr := hpd p hp
  have he : earlyB l p.1 = true := by unfold earlyB; rw [P.op]
  rcases h he with ⟨lo, hi, hw, hlt⟩ | ⟨hw, he2⟩
  · have := (S.window hpd hml c7 c8 hil hno hall hw).1
    omega
  · cases w with
    | some q => exact hw q hwi
    | none =>
      have := (S.place hpd c6 hil hno hall hwi).2 he2
      have := rank_lt P.wr hji
      omega
end
end Go.Proofs.YtoegmdfkcaojlaaGreat.Am
namespace Go.Proofs.YtoegmdfkcaojlaaGreat.Am
section
variable {T : AOp → Oper → Bool} {P : Program} {tb : Tab} {cl : Nat → List AV → Heap → Out} {nt : Nat} {rs : Array Oper} {l : List AOper} {ws : List (Option (Nat × Nat))} {hs : List Heap} {fr : Nat → Fr} {vl : Nat → AV}
theorem any_sound2 (hT : ∀ ao o, T ao o = true → OpOk P tb ao o) (hAl : ∀ t z o, T (.alloc t z) o = true → AllocRuns P t z o) (hcl : CallsOk P tb fun g args h => calling tb cl h g args) {Q : Exit → Act → World → Prop} (hok : okD2 T nt rs l ws = true)
    (hk : rank ws l.length + 1 = hs.length) (hstep : ∀ i ao, l[i]? = some ao → fr (i + 1) = put (fr i) ao.d (vl i) ∧ ∃ w, ws[i]? = some w ∧ Stepped tb cl hs (rank ws i) ao w (fr i) (vl i)) {C₀ : Ctx}
    (k : ∀ (D : Ctx) (a' : Act), Ext C₀ D → Inv tb D → hs.getLast? = some D.H → FrRel D (fr l.length) a' nt → Q .normal a' D.w) :
    ∀ (fuel : Nat) (listed : Array Bool) (C : Ctx) (f : Fr) (a : Act) (m : Nat) (pd : List PdE), listed.toList.count false ≤ fuel → St2 rs l ws hs fr vl listed C₀ C f a m pd → (∀ p ∈ pd, m < rank ws p.1) → Ext C₀ C → Inv tb C → FrRel C f a nt → wpAny P .any rs Q fuel listed a C.w := by
  obtain ⟨c1, c2, c3, c4, c5, c6, c7, c8⟩ := okD2_spec hok
  have lexf := lex_frames (fun i ao h => (hstep i ao h).1) c4
  -- at the end
  have fin : ∀ (listed : Array Bool) (C : Ctx) (f : Fr) (a : Act) (m : Nat) (pd : List PdE), Region.ready .any rs listed = [] → St2 rs l ws hs fr vl listed C₀ C f a m pd → (∀ p ∈ pd, m < rank ws p.1) → Ext C₀ C → Inv tb C → FrRel C f a nt → Q .normal a C.w := by
    intro listed C f a m pd hr S hpd X I F
    have all : ∀ n i, i < n → i < rs.size → On listed i := by
      intro n
      induction n with
      | zero => intro i h; omega
      | succ n ih =>
        intro i hi hil
        refine Classical.byContradiction fun hno => ?_
        have : i ∈ Region.ready .any rs listed := (ready_iff S.size).2 ⟨hil, hno, fun e he => ih e (by have := c3 i hil e he; omega) (by have := c3 i hil e he; omega)⟩
        rw [hr] at this
        cases this
    have all' : ∀ i, i < rs.size → On listed i := fun i hi => all (i + 1) i (by omega) hi
    obtain ⟨q1, q2⟩ := lexf l.length (Nat.le_refl _)
    have hml := lt_of_get S.hk
    have hmt : m = rank ws l.length := by
      refine Classical.byContradiction fun hne => ?_
      obtain ⟨j, hj, hwj, hrj⟩ := rank_ex (ws := ws) (n := l.length) (k := m) (by omega)
      rcases (S.on j (by omega) hwj).1 (all' j (by omega)) with h | ⟨p, hp, rfl⟩
      · omega
      · have := hpd p hp; omega
    have hnil : ∀ p ∈ pd, False := fun p hp => by
      have h1 := hpd p hp
      have P := (S.pds p hp).2
      have := rank_lt P.wr (lt_of_get P.op)
      omega
    refine k C a X I ?_ ⟨fun t => ?_, F.size, F.defers⟩
    · rw [List.getLast?_eq_getElem?, ← S.hk]
      congr 1
      omega
    · have : get (fr l.length) t = get f t := by
        by_cases hex : ∃ (i : Nat) (x : AOper), l[i]? = some x ∧ x.d = some t
        · obtain ⟨i, x, hx, hd⟩ := hex
          rw [q1 i x t (lt_of_get hx) hx hd, S.vals i x t (all' i (by have := lt_of_get hx; omega)) hx hd fun p hp => (hnil p hp).elim]
        · rw [q2 t fun i x _ hx hd => hex ⟨i, x, hx, hd⟩, S.rest t fun i x _ hx hd => hex ⟨i, x, hx, hd⟩]
      rw [this]
      exact F.rep t
  intro fuel
  induction fuel with
  | zero =>
    intro listed C f a m pd hc S hpd X I F
    have hr : Region.ready .any rs listed = [] := by
      rw [List.eq_nil_iff_forall_not_mem]
      intro i hi
      obtain ⟨hil, hno, _⟩ := (ready_iff S.size).1 hi
      have h0 : listed.toList.count false = 0 := by omega
      rw [List.count_eq_zero] at h0
      apply hno
      have hil' : i < listed.size := by rw [S.size]; exact hil
      unfold On
      rw [Array.getD_eq_getD_getElem?, Array.getElem?_eq_getElem hil']
      simp only [Option.getD_some]
      cases hv : listed[i] with
      | true => rfl
      | false => exact absurd (by rw [← hv]; simp) h0
    exact ⟨hr, fin listed C f a m pd hr S hpd X I F⟩
  | succ fuel ih =>
    intro listed C f a m pd hc S hpd X I F
    refine ⟨fun hr => fin listed C f a m pd hr S hpd X I F, fun i hi => ?_⟩
    obtain ⟨hil, hno, hall⟩ := (ready_iff S.size).1 hi
    have hil' : i < listed.size := by rw [S.size]; exact hil
    obtain ⟨o, ho⟩ : ∃ o, rs[i]? = some o := ⟨rs[i], Array.getElem?_eq_getElem hil⟩
    obtain ⟨ao, hao⟩ : ∃ x, l[i]? = some x := ⟨_, List.getElem?_eq_getElem (by omega)⟩
    obtain ⟨g1, g2, g3, g4⟩ := okOper_spec (c2 i ao o hao ho)
    obtain ⟨hfr, w, hwi, t, hwt, hfalse, htrue⟩ := hstep i ao hao
    obtain ⟨q1, q2⟩ := lexf i (by omega)
    have hml : m ≤ rank ws rs.size := by have := lt_of_get S.hk; rw [← c1]; omega
    -- what it looks at is as in the order of the text
    have alike : Alike tb f (fr i) (looks ao) := by
      intro u hu
      by_cases hex : ∃ (j : Nat) (x : AOper), l[j]? = some x ∧ x.d = some u
      · obtain ⟨j, x, hx, hd⟩ := hex
        rcases c5 i j ao x u hao hx hd hu with ⟨hji, hanc, hearly⟩ | hlate
        · have hon : On listed j := ancB_spec S.down hanc hall
          rw [q1 j x u hji hx hd, S.vals j x u hon hx hd (S.noPend hpd hml c6 c7 c8 hil hno hall hwi hji hearly)]
        · have hij : i ≤ j := by rcases hlate with h | h <;> omega
          have hoff : ¬ On listed j := fun h => by
            rcases hlate with ⟨_, hanc⟩ | rfl
            · exact hno (ancB_spec S.down hanc (S.down j h))
            · exact hno h
          have one : ∀ (k : Nat) (y : AOper), l[k]? = some y → y.d = some u → k = j := fun k y hy hyd =>
            Classical.byContradiction fun hne => c4 k j y x u hy hx hne hyd hd
          rw [q2 u fun k y hk hy hyd => by have := one k y hy hyd; omega, S.rest u fun k y hk hy hyd => hoff (one k y hy hyd ▸ hk)]
      · rw [q2 u fun j x _ hx hd => hex ⟨j, x, hx, hd⟩, S.rest u fun j x _ hx hd => hex ⟨j, x, hx, hd⟩]
    have hwt' : wanted f ao.g = some t := by rw [wanted_alike alike.l]; exact hwt
    have hwr := wanted_rep F g3 hwt'
    have hm := S.hk
    -- the count
    have hcount : (listed.setIfInBounds i true).toList.count false ≤ fuel := by
      have hv : listed[i] = false := by
        cases hv : listed[i] with
        | false => rfl
        | true => exact absurd (by unfold On; rw [Array.getD_eq_getD_getElem?, Array.getElem?_eq_getElem hil', hv]; rfl) hno
      rw [Array.toList_setIfInBounds, List.count_set (by simpa using hil')]
      have hv' : listed.toList[i]'(by simpa using hil') = false := by simpa using hv
      have hpos : 0 < listed.toList.count false := List.count_pos_iff.2 (by rw [← hv]; simp)
      rw [hv']
      simp only [beq_self_eq_true, if_true, beq_iff_eq, Bool.true_eq_false, if_false]
      omega
    -- the next state, in its turn
    have next : ∀ (D : Ctx) (v : Value) (k' : Nat), Ext C D → (w = none → k' = m + 1 ∧ rank ws i = m) → (w ≠ none → k' = m) → hs[k']? = some D.H → St2 rs l ws hs fr vl (listed.setIfInBounds i true) C₀ D (put f ao.d (vl i)) (a.put ao.d v) k' pd := by
      intro D v k' X' hn hq hh
      have hkm : k' ≤ m + 1 := by
        by_cases hw : w = none
        · rw [(hn hw).1]; exact Nat.le_refl _
        · rw [hq hw]; exact Nat.le_succ _
      refine ⟨by simp [S.size], ?_, hh, ?_, fun p hp => ?_, S.nd, ?_, ?_⟩
      · intro j hj e he
        rw [on_set hil'] at hj ⊢
        rcases hj with rfl | hj
        · exact .inr (hall e he)
        · exact .inr (S.down j hj e he)
      · intro j hj hwj
        rw [on_set hil', S.on j hj hwj]
        by_cases hw : w = none
        · obtain ⟨e1, e2⟩ := hn hw
          subst e1
          constructor
          · rintro (rfl | h | h)
            · exact .inl (by omega)
            · exact .inl (by omega)
            · exact .inr h
          · rintro (h | h)
            · by_cases hji : j = i
              · exact .inl hji
              · right; left
                subst hw
                rcases Nat.lt_or_ge j i with h' | h'
                · have := rank_lt hwj h'; omega
                · have := rank_lt hwi (show i < j by omega); omega
            · exact .inr (.inr h)
        · rw [hq hw]
          have hji : j ≠ i := by rintro rfl; rw [hwi] at hwj; exact hw (Option.some.inj hwj)
          exact ⟨fun h => h.resolve_left hji, .inr⟩
      · obtain ⟨hon, P'⟩ := S.pds p hp
        have hpi : i ≠ p.1 := by rintro rfl; exact hno hon
        refine ⟨(on_set hil').2 (.inr hon), P'.next (I.rs _ P'.res).1 X' (Nat.le_trans hkm (hpd p hp)) ?_ _ _⟩
        intro e
        exact c4 i p.1 ao _ _ hao P'.op hpi e rfl
      · intro j x u hj hx hd hnp
        rw [get_put]
        rw [on_set hil'] at hj
        by_cases hji : j = i
        · subst hji
          rw [hao] at hx
          obtain rfl := Option.some.inj hx
          rw [if_pos hd]
        · rw [if_neg (c4 j i x ao u hx hao hji hd)]
          exact S.vals j x u (hj.resolve_left hji) hx hd hnp
      · intro u hu
        rw [get_put, if_neg (hu i ao ((on_set hil').2 (.inl rfl)) hao)]
        exact S.rest u fun j x hj hx => hu j x ((on_set hil').2 (.inr hj)) hx
    have hplace : w = none → m ≤ rank ws i ∧ (earlyB l i = false → rank ws i = m) := fun hw => S.place hpd c6 hil hno hall (by rw [← hw]; exact hwi)
    have hrange : ∀ lo hi, w = some (lo, hi) → lo ≤ m ∧ m ≤ hi := fun lo hi hw => S.window hpd hml c7 c8 hil hno hall (by rw [← hw]; exact hwi)
    have hA : ∀ i t ty z, l[i]? = some ⟨some t, none, .alloc ty z⟩ → ws[i]? = some none → ∀ H, hs[rank ws i]? = some H → hs[rank ws i + 1]? = some (H ++ [AObj.cells (some ty) z]) ∧ vl i = .ptr H.length 0 := by
      intro i t ty z hi hwi H hH
      obtain ⟨_, w', hw', t', ht', _, htrue'⟩ := hstep i _ hi
      have ht1 : t' = true := by
        simp only [wanted, Option.some.injEq] at ht'
        exact ht'.symm
      have hwn : w' = none := by
        rw [hwi] at hw'
        exact (Option.some.inj hw').symm
      obtain ⟨h, u, e1, e2, e3⟩ := (htrue' ht1).1 hwn
      rw [hH] at e1
      obtain rfl := Option.some.inj e1
      simp only [aop, Option.some.injEq, Prod.mk.injEq] at e2
      obtain ⟨e2, rfl⟩ := e2
      exact ⟨e3, e2.symm⟩
    -- on from a state whose turn may have come
    have go : ∀ (D : Ctx) (f' : Fr) (a' : Act) (k' : Nat), St2 rs l ws hs fr vl (listed.setIfInBounds i true) C₀ D f' a' k' pd → Ext C₀ D → Inv tb D → FrRel D f' a' nt → wpAny P .any rs Q fuel (listed.setIfInBounds i true) a' D.w := by
      intro D f' a' k' S' X' I' F'
      obtain ⟨E, f2, k2, pd2, S2, X2, I2, F2, hw2, h2⟩ := settle c4 hA pd.length D f' k' pd (Nat.le_refl _) S' X' I' F'
      rw [← hw2]
      exact ih _ E f2 a' k2 pd2 hcount S2 h2 X2 I2 F2
    unfold wpOp
    simp only [ho, hwr]
    rw [← g1]
    cases t with
    | false =>
      simp only [Bool.false_eq_true, if_false]
      obtain ⟨hv, hsame⟩ := hfalse rfl
      have hearly : earlyB l i = false := by
        cases he : earlyB l i with
        | false => rfl
        | true =>
          obtain ⟨t0, ty, z, he⟩ := earlyB_spec he
          rw [hao] at he
          obtain rfl := Option.some.inj he
          simp [wanted] at hwt
      have FD := F.put (Ext.refl C) (fun t ht => g2 t (g1 ▸ ht)) (x := .tup []) (v := .tuple #[]) ⟨[], rfl, rfl⟩
      by_cases hw : w = none
      · have hr := (hplace hw).2 hearly
        refine go C (put f ao.d (.tup [])) _ (m + 1) ?_ X I FD
        rw [← hv]
        refine next C _ (m + 1) (Ext.refl C) (fun _ => ⟨rfl, hr⟩) (fun h => absurd hw h) ?_
        rw [← hr, ← hsame hw, hr]
        exact hm
      · refine go C (put f ao.d (.tup [])) _ m ?_ X I FD
        rw [← hv]
        exact next C _ m (Ext.refl C) (fun h => absurd h hw) (fun _ => rfl) hm
    | true =>
      simp only [if_true]
      obtain ⟨hW, hR⟩ := htrue rfl
      have land : ∀ (u : Option Heap) (k' : Nat), aop tb cl (eval tb f) C.H ao.o = some (vl i, u) → (w = none → k' = m + 1 ∧ rank ws i = m) → (w ≠ none → k' = m) → hs[k']? = some (u.getD C.H) →
          o.wp P a C.w (wpAny P .any rs Q fuel (listed.setIfInBounds i true)) Q := by
        intro u k' hu h1 h2 h3
        refine wp_of_lands (hT _ _ g4 hcl I F hu) fun v D X' ID hH hr => ?_
        rw [← g1]
        refine go D (put f ao.d (vl i)) _ k' ?_ (X.trans X') ID (F.put X' (fun t ht => g2 t (g1 ▸ ht)) hr)
        exact next D v k' X' h1 h2 (by rw [hH]; exact h3)
      left
      cases hw : w with
      | none =>
        by_cases hr : rank ws i = m
        · obtain ⟨h, u, e1, e2, e3⟩ := hW hw
          rw [hr] at e1 e3
          rw [hm] at e1
          obtain rfl := Option.some.inj e1
          exact land u (m + 1) (by rw [aop_alike alike.r]; exact e2) (fun _ => ⟨rfl, hr⟩) (fun hne => absurd hw hne) e3
        · have hmr : m < rank ws i := by have := (hplace hw).1; omega
          have he : earlyB l i = true := by
            cases he : earlyB l i with
            | true => rfl
            | false => exact absurd ((hplace hw).2 he) hr
          obtain ⟨t0, ty, z, he⟩ := earlyB_spec he
          rw [hao] at he
          obtain rfl := Option.some.inj he
          have hwn : ws[i]? = some none := by rw [← hw]; exact hwi
          obtain ⟨vs, hrun, hz⟩ := hAl ty z o g4 a.eval C.w
          have hnew : (C.w.alloc (.cells vs ty)).heap = C.w.heap.push (.cells vs ty (0, 0)) := rfl
          obtain ⟨X', I'⟩ := reserve I (w := C.w.alloc (.cells vs ty)) ⟨rfl, rfl, rfl⟩ (by rw [hnew]; simp) (fun b hb => by rw [hnew, Array.getElem?_push_lt hb, Array.getElem?_eq_getElem hb])
          unfold Oper.wp
          rw [hrun, Oper.upon_value, ← g1]
          have F' : FrRel ⟨C.φ, C.H, C.w.alloc (.cells vs ty), C.w.heap.size :: C.res⟩ (put f (some t0) .junk) (a.put (some t0) (.pointer (some ⟨C.w.heap.size, 0, none⟩))) nt := F.put X' (fun t ht => g2 t (g1 ▸ ht)) trivial
          have ht0 : t0 < nt := g2 t0 (by rw [← g1])
          have hlt : ∀ p ∈ pd, p.2.1 < C.w.heap.size := fun p hp => (I.rs _ (S.pds p hp).2.res).1
          have hne : ∀ p ∈ pd, i ≠ p.1 := fun p hp e => hno (e ▸ (S.pds p hp).1)
          refine ih _ ⟨C.φ, C.H, C.w.alloc (.cells vs ty), C.w.heap.size :: C.res⟩ (put f (some t0) .junk) _ m ((i, C.w.heap.size, t0, ty, z) :: pd) hcount ?_ ?_ (X.trans X') I' F'
          · refine ⟨by simp [S.size], ?_, hm, ?_, ?_, ?_, ?_, ?_⟩
            · intro j hj e hew
              rw [on_set hil'] at hj ⊢
              rcases hj with rfl | hj
              · exact .inr (hall e hew)
              · exact .inr (S.down j hj e hew)
            · intro j hj hwj
              rw [on_set hil', S.on j hj hwj]
              constructor
              · rintro (rfl | h | ⟨p, hp, rfl⟩)
                · exact .inr ⟨_, List.mem_cons_self, rfl⟩
                · exact .inl h
                · exact .inr ⟨p, List.mem_cons_of_mem _ hp, rfl⟩
              · rintro (h | ⟨p, hp, rfl⟩)
                · exact .inr (.inl h)
                · rcases List.mem_cons.1 hp with rfl | hp
                  · exact .inl rfl
                  · exact .inr (.inr ⟨p, hp, rfl⟩)
            · intro p hp
              rcases List.mem_cons.1 hp with rfl | hp
              · refine ⟨(on_set hil').2 (.inl rfl), hao, hwn, Nat.le_of_lt hmr, List.mem_cons_self, X.size, ?_, ?_, vs, ?_, hz⟩
                · rw [get_put, if_pos rfl]
                · simp only [Act.put]
                  simp [Array.getD_eq_getD_getElem?, F.size, ht0]
                · rw [hnew]; simp
              · obtain ⟨hon, P'⟩ := S.pds p hp
                refine ⟨(on_set hil').2 (.inr hon), P'.next (hlt p hp) X' P'.rk ?_ _ _⟩
                intro e
                exact c4 i p.1 _ _ _ hao P'.op (hne p hp) rfl (by rw [← e])
            · intro p hp q hq hpq
              rcases List.mem_cons.1 hp with rfl | hp <;> rcases List.mem_cons.1 hq with rfl | hq
              · exact absurd rfl hpq
              · exact Ne.symm (Nat.ne_of_lt (hlt q hq))
              · exact Nat.ne_of_lt (hlt p hp)
              · exact S.nd p hp q hq hpq
            · intro j x u hj hx hd hnp
              rw [get_put]
              rw [on_set hil'] at hj
              have hji : j ≠ i := fun e => hnp _ List.mem_cons_self e.symm
              rw [if_neg (c4 j i x _ u hx hao hji hd)]
              exact S.vals j x u (hj.resolve_left hji) hx hd fun p hp => hnp p (List.mem_cons_of_mem _ hp)
            · intro u hu
              rw [get_put, if_neg (hu i _ ((on_set hil').2 (.inl rfl)) hao)]
              exact S.rest u fun j x hj hx => hu j x ((on_set hil').2 (.inr hj)) hx
          · intro p hp
            rcases List.mem_cons.1 hp with rfl | hp
            · exact hmr
            · exact hpd p hp
      | some p =>
        obtain ⟨lo, hi⟩ := p
        obtain ⟨r1, r2⟩ := hrange lo hi hw
        obtain ⟨h, u, e1, e2, e3⟩ := hR lo hi hw m r1 r2
        rw [hm] at e1
        obtain rfl := Option.some.inj e1
        exact land u m (by rw [aop_alike alike.r]; exact e2) (fun hn => absurd (hn.symm.trans hw) (by simp)) (fun _ => rfl) (by rw [e3]; exact hm)
theorem st2_zero {hs : List Heap} {fr : Nat → Fr} {vl : Nat → AV} {C₀ C : Ctx} {a : Act} (hh : hs[0]? = some C.H) :
    St2 rs l ws hs fr vl (Array.replicate rs.size false) C₀ C (fr 0) a 0 [] := by
  have hoff : ∀ i, ¬ On (Array.replicate rs.size false) i := by
    intro i h
    unfold On at h
    rw [Array.getD_eq_getD_getElem?, Array.getElem?_replicate] at h
    split at h <;> simp at h
  exact ⟨by simp, fun i h => absurd h (hoff i), hh, fun j _ _ => ⟨fun h => absurd h (hoff j), fun h => h.elim (fun h => absurd h (Nat.not_lt_zero _)) fun ⟨_, hp, _⟩ => absurd hp List.not_mem_nil⟩, fun _ hp => absurd hp List.not_mem_nil, fun _ hp => absurd hp List.not_mem_nil, fun i _ _ h => absurd h (hoff i), fun _ _ => rfl⟩
end
end Go.Proofs.YtoegmdfkcaojlaaGreat.Am
namespace Go.Proofs.YtoegmdfkcaojlaaGreat.Am
def quiets (l : List AOper) : List (Option (Nat × Nat)) := l.map fun _ => some (0, 0)
def okC (T : AOp → Oper → Bool) (nt : Nat) : AC → Code → Bool
  | .skip, .skip => true
  | .reg l, .region _ rs false => okOpers T nt rs l rs.toList
  | .regq l, .region _ rs true => okD2 T nt rs l (quiets l)
  | .regd l ws, .region _ rs true => okD2 T nt rs l ws
  | .seq x y, .seq c d => okC T nt x c && okC T nt y d
  | .cond x a b, .cond y c d => okAO x y && okC T nt a c && okC T nt b d
  | .blk id x, .block id' c => id == id' && okC T nt x c
  | .loop _ x, .loop c => okC T nt x c
  | .exit id, .exit id' => id == id'
  | .ret, .ret => true
  | .keep _ x, c => okC T nt x c
  | .scope x, .scope c => okC T nt x c
  | .skip, .label _ => true
  | .stop, _ => true
  | _, _ => false
def exOf : Ex → Exit
  | .normal => .normal
  | .exit id => .exit id
  | .ret => .ret
section
variable {T : AOp → Oper → Bool} {P : Program} {tb : Tab} {cl : Nat → List AV → Heap → Out} {nt : Nat}
theorem opsD_of_opsQ {h : Heap} : ∀ (l : List AOper) {f f' : Fr}, opsQ tb cl h l f = some f' → opsD tb cl [h] l (quiets l) 0 f = some f' := by
  intro l
  induction l with
  | nil => intro f f' e; simpa [opsQ, opsD, quiets] using e
  | cons o l ih =>
    intro f f' e
    simp only [opsQ] at e
    obtain ⟨w, hw, e⟩ := Option.bind_eq_some_iff.1 e
    simp only [quiets, List.map_cons, opsD, hw, Option.bind_some]
    cases w with
    | true =>
      simp only [if_true] at e ⊢
      obtain ⟨p, hp, e⟩ := Option.bind_eq_some_iff.1 e
      split at e
      · rename_i hsame
        simp only [List.getElem?_cons_zero, Option.bind_some, hp]
        rw [if_pos]
        · exact ih e
        · rw [List.all_eq_true]
          intro j hj
          rw [List.mem_range'_1] at hj
          have : j = 0 := by omega
          subst this
          simp only [decide_eq_true_eq, List.getElem?_cons_zero, Option.bind_some, Option.getD_some]
          exact ⟨p.2, by rw [hp], by rw [hsame]⟩
      · cases e
    | false =>
      simp only [Bool.false_eq_true, if_false] at e ⊢
      exact ih e
theorem regd_sound (hm : P.follows .mixedOrders = true) (hT : ∀ ao o, T ao o = true → OpOk P tb ao o) (hAl : ∀ t z o, T (.alloc t z) o = true → AllocRuns P t z o) (hcl : CallsOk P tb fun g args h => calling tb cl h g args) {Q : Exit → Act → World → Prop} {l : List AOper}
    {ws : List (Option (Nat × Nat))} {rs : Array Oper} {id : Nat} (h : okD2 T nt rs l ws = true) {C : Ctx} {f : Fr} {a : Act} (I : Inv tb C) (F : FrRel C f a nt) {f' : Fr} {hs : List Heap} (hh : hs[0]? = some C.H)
    (e : opsD tb cl hs l ws 0 f = some f') (k : ∀ (D : Ctx) (a' : Act), Ext C D → Inv tb D → hs.getLast? = some D.H → FrRel D f' a' nt → Q .normal a' D.w) : (Code.region id rs true).wp P Q a C.w := by
  obtain ⟨fr, vl, h0, h1, h2, h3⟩ := opsD_spec l ws 0 f f' e
  obtain ⟨X, ID⟩ := drawn I (w := { C.w with drawn := C.w.drawn + 1 }) ⟨rfl, rfl, rfl⟩ rfl
  subst h0
  subst h1
  refine wp_region_any hm ?_
  refine any_sound2 (vl := vl) (C₀ := C) hT hAl hcl h (by omega) (fun i ao hi => ?_) k rs.size _ ⟨C.φ, C.H, { C.w with drawn := C.w.drawn + 1 }, C.res⟩ (fr 0) a 0 [] ?_ (st2_zero hh) (fun _ hp => absurd hp List.not_mem_nil) X ID (F.ext X)
  · have := h3 i ao hi
    simpa only [Nat.zero_add] using this
  · exact Nat.le_trans List.count_le_length (by simp)
theorem keepL_get (live : List Nat) (f : Fr) (t : Nat) : get (keepL live f) t = get f t ∨ get (keepL live f) t = .junk := by
  induction live with
  | nil => exact .inr rfl
  | cons u live ih =>
    simp only [keepL, List.map_cons, get]
    by_cases h : u = t
    · subst h; left; rw [if_pos rfl]
    · rw [if_neg h]; exact ih
theorem FrRel.keep {C : Ctx} {f : Fr} {a : Act} (F : FrRel C f a nt) (live : List Nat) : FrRel C (keepL live f) a nt := by
  refine ⟨fun t => ?_, F.size, F.defers⟩
  rcases keepL_get live f t with h | h
  · rw [h]; exact F.rep t
  · rw [h]; trivial
theorem memH : ∀ (l : Heap) (o : AObj), o ∈ l → mentO o ≤ mentH l := by
  intro l
  induction l with
  | nil => intro o h; cases h
  | cons x l ih =>
    intro o h
    simp only [mentH]
    rcases List.mem_cons.1 h with e | h
    · subst e; omega
    · have := ih o h; omega
structure Next (tb : Tab) (C : Ctx) (nt : Nat) (f : Fr) (h : Heap) (D : Ctx) (a : Act) : Prop where
  ext : Ext C D
  inv : Inv tb D
  heap : D.H = h
  fr : FrRel D f a nt
theorem exec_sound (hm : P.follows .mixedOrders = true) (hT : ∀ ao o, T ao o = true → OpOk P tb ao o) (hAl : ∀ t z o, T (.alloc t z) o = true → AllocRuns P t z o) (hcl : CallsOk P tb fun g args h => calling tb cl h g args) (hg : ∀ g cs, tb.gl g = some cs → mentL cs = 0) :
    ∀ (ac : AC) (c : Code), okC T nt ac c = true → ∀ {C : Ctx} {f : Fr} {a : Act} {e : Ex} {f' : Fr} {h' : Heap}, exec tb cl ac f C.H = some (e, f', h') → Inv tb C → FrRel C f a nt →
      ∀ {Q : Exit → Act → World → Prop}, (∀ D a', Next tb C nt f' h' D a' → Q (exOf e) a' D.w) → c.wp P Q a C.w := by
  intro ac
  induction ac with
  | skip =>
    intro c hok C f a e f' h' he I F Q k
    simp only [exec, Option.some.injEq, Prod.mk.injEq] at he
    obtain ⟨rfl, rfl, rfl⟩ := he
    cases c <;> simp only [okC, Bool.false_eq_true] at hok
    · exact wp_skip (k C a ⟨Ext.refl C, I, rfl, F⟩)
    · exact wp_label (k C a ⟨Ext.refl C, I, rfl, F⟩)
  | ret =>
    intro c hok C f a e f' h' he I F Q k
    cases c <;> simp only [okC, Bool.false_eq_true] at hok
    simp only [exec, Option.some.injEq, Prod.mk.injEq] at he
    obtain ⟨rfl, rfl, rfl⟩ := he
    exact wp_ret (k C a ⟨Ext.refl C, I, rfl, F⟩)
  | exit id =>
    intro c hok C f a e f' h' he I F Q k
    cases c <;> simp only [okC, Bool.false_eq_true, beq_iff_eq] at hok
    subst hok
    simp only [exec, Option.some.injEq, Prod.mk.injEq] at he
    obtain ⟨rfl, rfl, rfl⟩ := he
    exact wp_exit (k C a ⟨Ext.refl C, I, rfl, F⟩)
  | reg l =>
    intro c hok C f a e f' h' he I F Q k
    cases c with
    | region id rs b =>
      cases b <;> simp only [okC, Bool.false_eq_true] at hok
      simp only [exec] at he
      obtain ⟨p, hp, he⟩ := Option.map_eq_some_iff.1 he
      obtain ⟨p1, p2⟩ := p
      simp only [Prod.mk.injEq] at he
      obtain ⟨rfl, rfl, rfl⟩ := he
      exact reg_sound hT hcl hok I F hp fun D a' X ID hH FD => k D a' ⟨X, ID, hH, FD⟩
    | _ => simp [okC] at hok
  | regq l =>
    intro c hok C f a e f' h' he I F Q k
    cases c with
    | region id rs b =>
      cases b <;> simp only [okC, Bool.false_eq_true] at hok
      simp only [exec] at he
      obtain ⟨p, hp, he⟩ := Option.map_eq_some_iff.1 he
      simp only [Prod.mk.injEq] at he
      obtain ⟨rfl, rfl, rfl⟩ := he
      refine regd_sound hm hT hAl hcl hok I F rfl (opsD_of_opsQ l hp) fun D a' X ID hH FD => k D a' ⟨X, ID, ?_, FD⟩
      simpa using hH.symm
    | _ => simp [okC] at hok
  | regd l ws =>
    intro c hok C f a e f' h' he I F Q k
    cases c with
    | region id rs b =>
      cases b <;> simp only [okC, Bool.false_eq_true] at hok
      simp only [exec] at he
      obtain ⟨hs, _, he⟩ := Option.bind_eq_some_iff.1 he
      obtain ⟨f1, hd, he⟩ := Option.bind_eq_some_iff.1 he
      obtain ⟨h1, hl, he⟩ := Option.map_eq_some_iff.1 he
      simp only [Prod.mk.injEq] at he
      obtain ⟨rfl, rfl, rfl⟩ := he
      refine regd_sound hm hT hAl hcl hok I F rfl hd fun D a' X ID hH FD => k D a' ⟨X, ID, ?_, FD⟩
      rw [hl] at hH
      exact (Option.some.inj hH).symm
    | _ => simp [okC] at hok
  | seq x y ihx ihy =>
    intro c hok C f a e f' h' he I F Q k
    cases c with
    | seq c d =>
      simp only [okC, Bool.and_eq_true] at hok
      simp only [exec] at he
      obtain ⟨p, hp, he⟩ := Option.bind_eq_some_iff.1 he
      obtain ⟨e1, f1, h1⟩ := p
      refine wp_seq (ihx c hok.1 hp I F fun D a' N => ?_)
      cases e1 with
      | normal =>
        obtain ⟨X, ID, hH, FD⟩ := N
        exact ihy d hok.2 (by rw [hH]; exact he) ID FD fun D' a'' N' => k D' a'' ⟨X.trans N'.ext, N'.inv, N'.heap, N'.fr⟩
      | exit id =>
        simp only [Option.some.injEq, Prod.mk.injEq] at he
        obtain ⟨rfl, rfl, rfl⟩ := he
        exact k D a' N
      | ret =>
        simp only [Option.some.injEq, Prod.mk.injEq] at he
        obtain ⟨rfl, rfl, rfl⟩ := he
        exact k D a' N
    | _ => simp [okC] at hok
  | cond x y z ihy ihz =>
    intro c hok C f a e f' h' he I F Q k
    cases c with
    | cond v c d =>
      simp only [okC, Bool.and_eq_true] at hok
      have r := rep_eval I F hok.1.1
      simp only [exec] at he
      split at he
      · rename_i t ht
        rw [ht] at r
        cases t with
        | true => exact wp_cond_true r (ihy c hok.1.2 (by simpa using he) I F k)
        | false => exact wp_cond_false r (ihz d hok.2 (by simpa using he) I F k)
      · cases he
    | _ => simp [okC] at hok
  | blk id x ih =>
    intro c hok C f a e f' h' he I F Q k
    cases c with
    | block id' c =>
      simp only [okC, Bool.and_eq_true, beq_iff_eq] at hok
      obtain ⟨rfl, hok⟩ := hok
      simp only [exec] at he
      obtain ⟨p, hp, he⟩ := Option.map_eq_some_iff.1 he
      obtain ⟨e1, f1, h1⟩ := p
      refine wp_block (ih c hok hp I F fun D a' N => ?_)
      cases e1 with
      | normal =>
        simp only [Prod.mk.injEq] at he
        obtain ⟨rfl, rfl, rfl⟩ := he
        exact k D a' N
      | ret =>
        simp only [Prod.mk.injEq] at he
        obtain ⟨rfl, rfl, rfl⟩ := he
        exact k D a' N
      | exit id' =>
        simp only at he
        simp only [exOf, Exit.inBlock]
        by_cases hid : id' = id
        · rw [if_pos hid] at he ⊢
          simp only [Prod.mk.injEq] at he
          obtain ⟨rfl, rfl, rfl⟩ := he
          exact k D a' N
        · rw [if_neg hid] at he ⊢
          simp only [Prod.mk.injEq] at he
          obtain ⟨rfl, rfl, rfl⟩ := he
          exact k D a' N
    | _ => simp [okC] at hok
  | scope x ih =>
    intro c hok C f a e f' h' he I F Q k
    cases c with
    | scope c =>
      simp only [okC] at hok
      refine wp_scope_straight (ih c hok he I F fun D a' N => ?_)
      have := k D a' N
      cases e <;> exact this
    | _ => simp [okC] at hok
  | stop =>
    intro c hok C f a e f' h' he I F Q k
    simp [exec] at he
  | keep live x ih =>
    intro c hok C f a e f' h' he I F Q k
    simp only [okC] at hok
    simp only [exec] at he
    obtain ⟨p, hp, he⟩ := Option.map_eq_some_iff.1 he
    obtain ⟨e1, f1, h1⟩ := p
    refine ih c hok hp I F fun D a' N => ?_
    cases e1 with
    | normal =>
      simp only [Prod.mk.injEq] at he
      obtain ⟨rfl, rfl, rfl⟩ := he
      exact k D a' ⟨N.ext, N.inv, N.heap, N.fr.keep live⟩
    | exit id =>
      simp only [Prod.mk.injEq] at he
      obtain ⟨rfl, rfl, rfl⟩ := he
      exact k D a' N
    | ret =>
      simp only [Prod.mk.injEq] at he
      obtain ⟨rfl, rfl, rfl⟩ := he
      exact k D a' N
  | loop live x ih =>
    intro c hok C f a e f' h' he I F Q k
    cases c with
    | loop c =>
      simp only [okC] at hok
      simp only [exec, lp] at he
      split at he
      · rename_i hex
        have key : ∀ (n : Nat) {D : Ctx} {f : Fr} {a : Act}, lpN (round live (exec tb cl x)) n f D.H = some (e, f', h') → Ext C D → Inv tb D → FrRel D f a nt → Code.rounds P c Q n a D.w := by
          intro n
          induction n with
          | zero => intro D f a h; simp [lpN] at h
          | succ n ihn =>
            intro D f a h X ID FD
            simp only [lpN] at h
            rw [rounds_succ]
            have rnd : ∀ {e1 f1 h1}, round live (exec tb cl x) f D.H = some (e1, f1, h1) → ∃ f2 h2, exec tb cl x (keepL live f) D.H = some (e1, f2, h2) ∧
                (e1 = .normal → (f1, h1) = (keepL live f2, h2)) ∧ (e1 ≠ .normal → f1 = f2 ∧ h1 = h2) := by
              intro e1 f1 h1 hr
              simp only [round] at hr
              obtain ⟨⟨e2, f2, h2⟩, hp, hr⟩ := Option.map_eq_some_iff.1 hr
              cases e2 <;> simp only [Prod.mk.injEq] at hr
              · obtain ⟨he1, hq⟩ := hr
                subst he1
                exact ⟨f2, h2, hp, fun _ => by rw [hq.1, hq.2], fun h => absurd rfl h⟩
              all_goals obtain ⟨rfl, rfl, rfl⟩ := hr
              · exact ⟨_, _, hp, fun h => (by cases h), fun _ => ⟨rfl, rfl⟩⟩
              · exact ⟨_, _, hp, fun h => (by cases h), fun _ => ⟨rfl, rfl⟩⟩
            cases hr : round live (exec tb cl x) f D.H with
            | none => rw [hr] at h; simp at h
            | some p =>
              obtain ⟨e1, f1, h1⟩ := p
              rw [hr] at h
              obtain ⟨f2, h2, hx, hn, ho⟩ := rnd hr
              refine ih c hok hx ID (FD.keep live) fun D' a' N => ?_
              by_cases hnorm : e1 = .normal
              · subst hnorm
                have hs := hn rfl
                simp only [] at h
                simp only [exOf, Exit.then]
                obtain ⟨X', ID', hH', FD'⟩ := N
                simp only [Prod.mk.injEq] at hs
                obtain ⟨rfl, rfl⟩ := hs
                exact ihn (D := D') (f := keepL live f2) (by rw [hH']; exact h) (X.trans X') ID' (FD'.keep live)
              · obtain ⟨rfl, rfl⟩ := ho hnorm
                have h' : some (e1, f1, h1) = some (e, f', h') := by
                  cases e1 with
                  | normal => exact absurd rfl hnorm
                  | exit id => simpa using h
                  | ret => simpa using h
                simp only [Option.some.injEq, Prod.mk.injEq] at h'
                obtain ⟨rfl, rfl, rfl⟩ := h'
                have := k D' a' ⟨X.trans N.ext, N.inv, N.heap, N.fr⟩
                cases e1 with
                | normal => exact absurd rfl hnorm
                | exit id => exact this
                | ret => exact this
        exact wp_loop_rounds _ (key _ he (Ext.refl C) I F)
      · cases he
    | _ => simp [okC] at hok
end
end Go.Proofs.YtoegmdfkcaojlaaGreat.Am
namespace Go.Proofs.YtoegmdfkcaojlaaGreat.Am
def okRes (P : Program) : ARes → ResultVar → Bool
  | .tmp t, .tmp u => t == u
  | .cell ag n a, .cell b t => a == b && ag == aggT P t && n == P.cellsOf t && (P.underlying t).isSome
  | _, _ => false
def okRess (P : Program) : List ARes → List ResultVar → Bool
  | [], [] => true
  | x :: r, y :: q => okRes P x y && okRess P r q
  | _, _ => false
def okFn (T : AOp → Oper → Bool) (P : Program) (fn : AFn) (g : Nat) : Bool :=
  match P.funcs[g]? with
  | some F => (match F.body with
    | some c => okC T fn.nt fn.body c
    | none => false) && !(F.name == "runtime.NumGoroutine") && fn.nt == F.ntmps && decide (fn.np ≤ fn.nt) && okRess P fn.res F.results.toList
  | none => false
section
variable {T : AOp → Oper → Bool} {P : Program} {tb : Tab} {cl : Nat → List AV → Heap → Out} {nt : Nat}
theorem run_load_place {C : Ctx} (I : Inv tb C) {t : TypeId} (hu : (P.underlying t).isSome = true) {x : AV} {y : Value} (hr : Rep C x y) {v : AV} (h : load C.H (aggT P t) (P.cellsOf t) x = some v) :
    ∃ (p : Addr) (z : Value), y = .pointer (some p) ∧ (loadVar t p).run P C.w = .ok z C.w ∧ Rep C v z := by
  simp only [load] at h
  cases hp : place C.H x with
  | none => rw [hp] at h; simp at h
  | some q =>
    obtain ⟨cs, off⟩ := q
    rw [hp] at h
    simp only [Option.bind_some] at h
    split at h
    · rename_i hle
      obtain ⟨b, base, vs, e, hh, hl, hs⟩ := place_rep I hr hp
      have hsub := hh.sub off (P.cellsOf t)
      have hrl : RepL C (sub cs off (P.cellsOf t)) ((vs.drop off).take (P.cellsOf t)) := hl.drop.take
      have hlen : ((vs.drop off).take (P.cellsOf t)).length = P.cellsOf t := by
        rw [hrl.length]; simp only [sub, List.length_take, List.length_drop]; omega
      obtain ⟨q1, q2⟩ := asVal_rep h (all_scal_sub hs off _) hrl
      have hinfo : (P.info? t).isSome = true := by
        obtain ⟨d, hd⟩ := Option.isSome_iff_exists.1 hu
        exact info_of_underlying hd
      have hlc := run_loadCells' (P := P) hsub
      rw [hlen] at hlc
      cases hag : aggT P t with
      | true =>
        refine ⟨_, .agg ((vs.drop off).take (P.cellsOf t)).toArray, e, ?_, q1 hag⟩
        simp only [loadVar, Sem.run_bind, Sem.run_pure, Result.andThen_ok, run_isAgg' t C.w hu, hag, if_true, run_sizeOf' hinfo, hlc]
      | false =>
        obtain ⟨z, hz, rz⟩ := q2 hag
        have hc : C.w.cell? ⟨b, base + off, none⟩ = some z := by
          have := hsub 0 z (by rw [hz]; rfl)
          simpa using this
        refine ⟨_, z, e, ?_, rz⟩
        simp only [loadVar, Sem.run_bind, Result.andThen_ok, run_isAgg' t C.w hu, hag, Bool.false_eq_true, if_false, run_load, hc]
    · cases h
theorem results_rep {C : Ctx} (I : Inv tb C) {f : Fr} {a : Act} (F : FrRel C f a nt) : ∀ (l : List ARes) (rs : List ResultVar), okRess P l rs = true → ∀ {vs : List AV}, results f C.H l = some vs →
    ∃ xs : List Value, (rs.mapM (m := Sem) fun
      | .tmp t => pure (a.tmps.getD t undef)
      | .cell b t => do loadVar t (← asAddr (a.tmps.getD b undef))).run P C.w = .ok xs C.w ∧ RepL C vs xs := by
  intro l
  induction l with
  | nil =>
    intro rs h vs e
    cases rs with
    | cons r rs => simp [okRess] at h
    | nil =>
      simp only [results, Option.some.injEq] at e
      subst e
      exact ⟨[], by simp, rfl⟩
  | cons x l ih =>
    intro rs h vs e
    cases rs with
    | nil => simp [okRess] at h
    | cons r rs =>
      simp only [okRess, Bool.and_eq_true] at h
      obtain ⟨h1, h2⟩ := h
      cases x with
      | tmp t =>
        cases r with
        | cell b t => simp [okRes] at h1
        | tmp u =>
          simp only [okRes, beq_iff_eq] at h1
          subst h1
          simp only [results] at e
          obtain ⟨vs', hv, rfl⟩ := Option.map_eq_some_iff.1 e
          obtain ⟨xs, q1, q2⟩ := ih rs h2 hv
          refine ⟨a.tmps.getD t undef :: xs, ?_, ⟨_, _, rfl, F.rep t, q2⟩⟩
          simp only [List.mapM_cons, Sem.run_bind, Sem.run_pure, Result.andThen_ok, q1]
      | cell ag n t =>
        cases r with
        | tmp u => simp [okRes] at h1
        | cell b ty =>
          simp only [okRes, Bool.and_eq_true, beq_iff_eq] at h1
          obtain ⟨⟨⟨rfl, rfl⟩, rfl⟩, hu⟩ := h1
          simp only [results] at e
          obtain ⟨v, hv, e⟩ := Option.bind_eq_some_iff.1 e
          obtain ⟨vs', hv', rfl⟩ := Option.map_eq_some_iff.1 e
          obtain ⟨xs, q1, q2⟩ := ih rs h2 hv'
          obtain ⟨p, z, hp, hz, rz⟩ := run_load_place I hu (F.rep t) hv
          refine ⟨z :: xs, ?_, ⟨_, _, rfl, rz, q2⟩⟩
          have ha : (asAddr (a.tmps.getD t undef)).run P C.w = .ok p C.w := by rw [hp]; rfl
          simp only [List.mapM_cons, Sem.run_bind, Sem.run_pure, Result.andThen_ok, ha, hz, q1]
def packV : List Value → Value
  | [x] => x
  | xs => .tuple xs.toArray
theorem packed_rep {C : Ctx} : ∀ {vs : List AV} {xs : List Value}, RepL C vs xs → Rep C (packed vs) (packV xs)
  | [], xs, h => by rw [show xs = [] from h]; exact ⟨[], rfl, rfl⟩
  | [v], xs, ⟨x, q, e, h1, h2⟩ => by rw [e, show q = [] from h2]; exact h1
  | v :: u :: vs, xs, ⟨x, q, e, h1, ⟨y, q', e', h2, h3⟩⟩ => by
    rw [e, e']
    exact ⟨x :: y :: q', rfl, x, _, rfl, h1, y, _, rfl, h2, h3⟩
theorem run_results {fn : Func} {C : Ctx} (I : Inv tb C) {f : Fr} {a : Act} (F : FrRel C f a nt) {l : List ARes} (h : okRess P l fn.results.toList = true) {vs : List AV} (e : results f C.H l = some vs) :
    ∃ xs, (Go.results fn a.tmps).run P C.w = .ok (packV xs) C.w ∧ RepL C vs xs := by
  obtain ⟨xs, h1, h2⟩ := results_rep I F l _ h e
  refine ⟨xs, ?_, h2⟩
  have hrun : (Go.results fn a.tmps).run P C.w = .ok (if h : xs.toArray.size = 1 then xs.toArray[0] else .tuple xs.toArray) C.w := by
    unfold Go.results
    rw [Array.mapM_eq_mapM_toList, Sem.run_bind, Sem.run_map]
    exact congrArg (fun r => (Result.andThen (Result.andThen r fun a w' => .ok a.toArray w') fun a w' => Sem.run P (pure (if h : a.size = 1 then a[0] else Value.tuple a)) w')) h1
  rw [hrun]
  match xs with
  | [] => rfl
  | [x] => rfl
  | x :: y :: xs => simp [packV]
end
end Go.Proofs.YtoegmdfkcaojlaaGreat.Am
namespace Go.Proofs.YtoegmdfkcaojlaaGreat.Am
section
variable {T : AOp → Oper → Bool} {P : Program} {tb : Tab} {cl : Nat → List AV → Heap → Out} {nt : Nat}
theorem not_own_cut {D : Ctx} (I : Inv tb D) {n id : Nat} (hid : id < D.H.length) (h : ¬ id < n) : ¬ (D.cut n).own (D.φ id).blk := by
  rintro (⟨j, hj, e⟩ | hr)
  · simp only [Ctx.cut, List.length_take] at hj
    have := I.inj j id (by omega) hid e
    omega
  · exact (I.rs _ hr).2 id hid rfl
theorem frz_same {D : Ctx} {n : Nat} {v : AV} {x : Value} (h : ment v ≤ n) (r : Rep D v x) : Rep (D.cut n) v x ∧ (scal v = true → scal v = true) := ⟨r.cut h, fun h => h⟩
def FrzOk (D : Ctx) (n : Nat) (F : AV → Option AV) : Prop := ∀ (v v' : AV) (x : Value), F v = some v' → Rep D v x → Rep (D.cut n) v' x ∧ (scal v = true → scal v' = true)
theorem manyO_rep {D : Ctx} {n : Nat} {F : AV → Option AV} (hF : FrzOk D n F) : ∀ {l l' : List AV} {xs : List Value}, manyO F l = some l' → RepL D l xs → RepL (D.cut n) l' xs ∧ (l.all scal = true → l'.all scal = true) ∧ l'.length = l.length
  | [], _, _, h, r => by
    simp only [manyO, Option.some.injEq] at h
    subst h
    exact ⟨r, fun h => h, rfl⟩
  | v :: l, _, _, h, ⟨x, q, e, r, rr⟩ => by
    simp only [manyO] at h
    obtain ⟨v', hv, h⟩ := Option.bind_eq_some_iff.1 h
    obtain ⟨l', hl, rfl⟩ := Option.map_eq_some_iff.1 h
    obtain ⟨h1, h2⟩ := hF _ _ _ hv r
    obtain ⟨h3, h4, h5⟩ := manyO_rep hF hl rr
    refine ⟨⟨x, q, e, h1, h3⟩, fun hs => ?_, by simp [h5]⟩
    simp only [List.all_cons, Bool.and_eq_true] at hs ⊢
    exact ⟨h2 hs.1, h4 hs.2⟩
theorem manyOO_rep {D : Ctx} {n sz : Nat} {F : AV → Option AV} (hF : FrzOk D n F) : ∀ {l l' : List (List AV)} {xs : List (List Value)}, manyO (manyO F) l = some l' → RepLL D l xs → (∀ e ∈ l, e.length = sz ∧ e.all scal = true) →
    RepLL (D.cut n) l' xs ∧ (∀ e ∈ l', e.length = sz ∧ e.all scal = true) ∧ l'.length = l.length
  | [], _, _, h, r, _ => by
    simp only [manyO, Option.some.injEq] at h
    subst h
    exact ⟨r, fun e h => (by cases h), rfl⟩
  | v :: l, _, _, h, ⟨x, q, e, r, rr⟩, hs => by
    simp only [manyO] at h
    obtain ⟨v', hv, h⟩ := Option.bind_eq_some_iff.1 h
    obtain ⟨l', hl, rfl⟩ := Option.map_eq_some_iff.1 h
    obtain ⟨h1, h2, h6⟩ := manyO_rep hF hv r
    obtain ⟨h3, h4, h5⟩ := manyOO_rep hF hl rr fun e he => hs e (List.mem_cons_of_mem _ he)
    refine ⟨⟨x, q, e, h1, h3⟩, fun e he => ?_, by simp [h5]⟩
    have h0 := hs v List.mem_cons_self
    rcases List.mem_cons.1 he with rfl | he
    · exact ⟨h6.trans h0.1, h2 h0.2⟩
    · exact h4 e he
theorem frz_rep {D : Ctx} (I : Inv tb D) {n : Nat} : ∀ d, FrzOk D n (frz D.H n d)
  | 0 => fun v v' x h r => by
    simp only [frz] at h
    split at h
    · rename_i hm
      obtain rfl := Option.some.inj h
      exact frz_same hm r
    · cases h
  | d + 1 => fun v v' x h r => by
    simp only [frz] at h
    split at h
    · rename_i hm
      obtain rfl := Option.some.inj h
      exact frz_same hm r
    · rename_i hm
      have ih := frz_rep I (n := n) d
      split at h
      · rename_i id k lo len
        have hid : ¬ id < n := by simp only [ment] at hm; omega
        obtain ⟨_, fz, sz, els, hg, hle, q⟩ := r
        simp only [hg, Option.bind_some] at h
        split at h
        · rename_i hc
          obtain ⟨hk, hlo⟩ := hc
          obtain ⟨els', he, rfl⟩ := Option.map_eq_some_iff.1 h
          refine ⟨?_, fun _ => rfl⟩
          obtain ⟨_, off, cap, rfl, hlc, hoff, _, _⟩ := q hk
          obtain ⟨tl, hg', hlab⟩ := row_get hg
          obtain ⟨vss, arr, et, fr, ⟨h1, _⟩, h2, h3, h4, h5, h6, h7, h8, h9⟩ := I.obj id _ hg'
          have hlens := RepLL.lens (fun x hx => (h4 x hx).1) h5
          have hlen : ((els.drop lo).take len).length = len := by simp only [List.length_take, List.length_drop]; omega
          obtain ⟨q1, q2, q3⟩ := manyOO_rep (sz := sz) ih he (h5.drop.take) fun e he => h4 e (List.mem_of_mem_drop (List.mem_of_mem_take he))
          refine .inl ⟨(D.φ id).blk, off, cap, (vss.drop lo).take len, by rw [q3, hlen], by rw [q3, hlen]; exact hlc, I.lt id (lt_of_get hg'), not_own_cut I (lt_of_get hg') hid, ?_, q2, q1⟩
          intro j v hj
          have hpos : 0 < len := by
            rcases Nat.eq_zero_or_pos len with h | h
            · subst h; simp at hj
            · exact h
          rw [hoff hpos]
          have hh := h7.sub (lo * sz) (len * sz)
          refine hh j v ?_
          rw [flatten_take (sz := sz) _ _ (fun x hx => hlens x (List.mem_of_mem_drop hx)), flatten_drop (sz := sz) _ _ hlens] at hj
          exact hj
        · cases h
      · rename_i sz id off len
        have hid : ¬ id < n := by simp only [ment] at hm; omega
        obtain ⟨_, o, cap, rfl, hlc, hoff, hsz⟩ := r
        obtain ⟨cs, hc, h⟩ := Option.bind_eq_some_iff.1 h
        split at h
        · rename_i hcond
          obtain ⟨els', he, rfl⟩ := Option.map_eq_some_iff.1 h
          refine ⟨?_, fun _ => rfl⟩
          obtain ⟨tl, hg, hlab⟩ := cells_get hc
          obtain ⟨vs, arr, et, fr, ⟨h1, _⟩, h2, h3, h4, h5, h6⟩ := I.obj id _ hg
          obtain ⟨c1, c2, vss, c3, c4⟩ := chunks_spec (C := D) sz len (cs.drop off) (vs.drop off) D.w (D.φ id).blk off (by
            simp only [List.all_eq_true] at h3 ⊢
            exact fun x hx => h3 x (List.mem_of_mem_drop hx)) h4.drop (by
            have := h5.sub off (vs.drop off).length
            rw [Nat.zero_add] at this
            rwa [List.take_of_length_le (Nat.le_refl _)] at this) (by simp only [List.length_drop]; omega)
          obtain ⟨q1, q2, q3⟩ := manyOO_rep (sz := sz) ih he c4 c2
          refine .inl ⟨(D.φ id).blk, o, cap, vss, by rw [q3, c1], by rw [q3, c1]; exact hlc, I.lt id (lt_of_get hg), not_own_cut I (lt_of_get hg) hid, ?_, q2, q1⟩
          intro j v hj
          have hpos : 0 < len := by
            rcases Nat.eq_zero_or_pos len with h | h
            · subst h
              simp only [chunks] at c4
              rw [show vss = [] from c4] at hj
              simp at hj
            · exact h
          rw [hoff hpos]
          exact c3 j v hj
        · cases h
      · rename_i sz els
        obtain ⟨els', he, rfl⟩ := Option.map_eq_some_iff.1 h
        refine ⟨?_, fun _ => rfl⟩
        rcases r with ⟨b, base, cap, vss, rfl, hlc, hlt, hown, hh, hs, hr⟩ | ⟨rfl, p, cap, rfl⟩
        · obtain ⟨q1, q2, q3⟩ := manyOO_rep (sz := sz) ih he hr hs
          exact .inl ⟨b, base, cap, vss, by rw [q3], by rw [q3]; exact hlc, hlt, cut_own hown, hh, q2, q1⟩
        · simp only [manyO, Option.some.injEq] at he
          subst he
          exact .inr ⟨rfl, p, cap, rfl⟩
      · rename_i cs
        obtain ⟨vs, e, s, q⟩ := r
        obtain ⟨cs', hc, rfl⟩ := Option.map_eq_some_iff.1 h
        obtain ⟨h1, h2, _⟩ := manyO_rep ih hc q
        exact ⟨⟨vs, e, h2 s, h1⟩, fun h => by simp [scal] at h⟩
      · rename_i cs
        obtain ⟨vs, e, q⟩ := r
        obtain ⟨cs', hc, rfl⟩ := Option.map_eq_some_iff.1 h
        exact ⟨⟨vs, e, (manyO_rep ih hc q).1⟩, fun h => by simp [scal] at h⟩
      · cases h
theorem frzL_rep {D : Ctx} (I : Inv tb D) {n : Nat} {l l' : List AV} {xs : List Value} (h : frzL D.H n l = some l') (r : RepL D l xs) : RepL (D.cut n) l' xs ∧ (l.all scal = true → l'.all scal = true) :=
  ⟨(manyO_rep (frz_rep I 12) h r).1, (manyO_rep (frz_rep I 12) h r).2.1⟩
theorem leave_sound {C D : Ctx} (X : Ext C D) (I : Inv tb D) (hg : ∀ g cs, tb.gl g = some cs → mentL cs = 0) {vs : List AV} {xs : List Value} (h : RepL D vs xs) :
    ∃ D' : Ctx, Ext C D' ∧ Inv tb D' ∧ D'.w = D.w ∧ D'.H = (leave C.H.length D.H vs).2.getD C.H ∧ Rep D' (leave C.H.length D.H vs).1 (packV xs) := by
  unfold leave
  split
  · rename_i vs' hf
    split
    · rename_i hm
      exact ⟨D.cut C.H.length, X.cut (Nat.le_refl _), I.cut hm hg, rfl, rfl, packed_rep (frzL_rep I hf h).1⟩
    · exact ⟨D, X, I, rfl, rfl, packed_rep h⟩
  · exact ⟨D, X, I, rfl, rfl, packed_rep h⟩
theorem quit_sound {C D : Ctx} (X : Ext C D) (I : Inv tb D) (hg : ∀ g cs, tb.gl g = some cs → mentL cs = 0) {warm : Bool} {vs : List AV} {xs : List Value} (h : RepL D vs xs) :
    ∃ D' : Ctx, Ext C D' ∧ Inv tb D' ∧ D'.w = D.w ∧ D'.H = (quit warm C.H.length D.H vs).2.getD C.H ∧ Rep D' (quit warm C.H.length D.H vs).1 (packV xs) := by
  cases warm
  · exact leave_sound X I hg h
  · exact ⟨D, X, I, rfl, rfl, packed_rep h⟩
theorem get_args : ∀ (l : List AV) (k t : Nat), get ((l.zipIdx k).map fun p => (p.2, p.1)) t = if k ≤ t then l[t - k]?.getD .junk else .junk
  | [], k, t => by simp [get]
  | v :: l, k, t => by
    simp only [List.zipIdx_cons, List.map_cons, get]
    rw [get_args l (k + 1) t]
    by_cases h : k = t
    · subst h; simp
    · rw [if_neg h]
      by_cases h1 : k ≤ t
      · rw [if_pos (show k + 1 ≤ t by omega), if_pos h1, show t - k = (t - (k + 1)) + 1 by omega]
        simp
      · rw [if_neg (by omega), if_neg h1]
theorem fr_args {C : Ctx} {args : List AV} {vs : List Value} (h : RepL C args vs) {m : Nat} (hm : args.length ≤ m) :
    FrRel C (args.zipIdx.map fun p => (p.2, p.1)) { tmps := vs.toArray ++ Array.replicate (m - vs.toArray.size) undef, defers := [] } m := by
  have hl := h.length
  refine ⟨fun t => ?_, by simp; omega, rfl⟩
  rw [get_args, if_pos (Nat.zero_le _), Nat.sub_zero]
  cases ht : args[t]? with
  | none => trivial
  | some v =>
    obtain ⟨x, hx, r⟩ := h.get ht
    have : t < vs.length := lt_of_get hx
    simp only [Option.getD_some, Array.getD_eq_getD_getElem?]
    rw [Array.getElem?_append_left (by simpa using this)]
    simpa [hx] using r
theorem okFn_spec {fn : AFn} {g : Nat} (h : okFn T P fn g = true) : ∃ (F : Func) (c : Code), P.funcs[g]? = some F ∧ F.body = some c ∧ okC T fn.nt fn.body c = true ∧ (F.name == "runtime.NumGoroutine") = false ∧ fn.nt = F.ntmps ∧ fn.np ≤ fn.nt ∧
    okRess P fn.res F.results.toList = true := by
  unfold okFn at h
  split at h
  · rename_i F hF
    simp only [Bool.and_eq_true, Bool.not_eq_true', beq_iff_eq, decide_eq_true_eq] at h
    obtain ⟨⟨⟨⟨h1, h2⟩, h3⟩, h4⟩, h5⟩ := h
    split at h1
    · rename_i c hc
      exact ⟨F, c, hF, hc, h1, h2, h3, h4, h5⟩
    · cases h1
  · cases h
theorem body_sound (hm : P.follows .mixedOrders = true) (hT : ∀ ao o, T ao o = true → OpOk P tb ao o) (hAl : ∀ t z o, T (.alloc t z) o = true → AllocRuns P t z o) (hcl : CallsOk P tb fun g args h => calling tb cl h g args) (hg : ∀ g cs, tb.gl g = some cs → mentL cs = 0)
    {fn : AFn} {g : Nat} (hok : okFn T P fn g = true) {C : Ctx} {args : List AV} {vs : List Value} {r : AV × Option Heap} (I : Inv tb C) (hr : RepL C args vs) (h : body tb cl fn args C.H = some r) :
    Calls P g vs.toArray C.w (After tb C r) := by
  obtain ⟨F, c, hF, hc, h1, h2, h3, h4, h5⟩ := okFn_spec hok
  simp only [body] at h
  split at h
  · rename_i hnp
    obtain ⟨⟨e, f, h'⟩, he, h⟩ := Option.bind_eq_some_iff.1 h
    refine calls_of_wp hF hc ?_
    rw [← h3]
    refine exec_sound hm hT hAl hcl hg fn.body c h1 he I (fr_args hr (by omega)) fun D a' N => ?_
    obtain ⟨X, ID, hH, FD⟩ := N
    have fin : ∀ us, results f h' fn.res = some us → quit fn.warm C.H.length h' us = r → ∃ v, (Go.results F a'.tmps).run P D.w = .ok v D.w ∧ After tb C r (.returned v) D.w := by
      intro us hus hl
      rw [← hH] at hus hl
      obtain ⟨xs, hx, rx⟩ := run_results ID FD h5 hus
      obtain ⟨D', X', I', hw, hH', r'⟩ := quit_sound (warm := fn.warm) X ID hg rx
      rw [hl] at hH' r'
      exact ⟨_, hx, _, D', rfl, X', I', hw, hH', r'⟩
    cases e with
    | exit id => simp at h
    | normal =>
      obtain ⟨us, hus, hl⟩ := Option.map_eq_some_iff.1 h
      exact ⟨FD.defers, fin us hus hl⟩
    | ret =>
      obtain ⟨us, hus, hl⟩ := Option.map_eq_some_iff.1 h
      exact ⟨FD.defers, fin us hus hl⟩
  · cases h
structure Fits (T : AOp → Oper → Bool) (P : Program) (tb : Tab) : Prop where
  mixed : P.follows .mixedOrders = true
  ops : ∀ ao o, T ao o = true → OpOk P tb ao o
  al : ∀ t z o, T (.alloc t z) o = true → AllocRuns P t z o
  prims : PrimsOk P tb
  gl : ∀ g cs, tb.gl g = some cs → mentL cs = 0
  fns : ∀ g fn, tb.fns g = some fn → okFn T P fn g = true
theorem enter_of_ok {fn : AFn} {g : Nat} (hok : okFn T P fn g = true) (vs : Array Value) (w : World) : (callFunc g vs).run P w = .ok (.enter g vs) w := by
  obtain ⟨F, c, hF, hc, _, h2, _⟩ := okFn_spec hok
  have h2' : ¬ F.name = "runtime.NumGoroutine" := by simpa using h2
  simp [callFunc, hF, hc, h2']
theorem run_calls (ft : Fits T P tb) : ∀ n, CallsOk P tb (run tb n)
  | 0 => fun g C args vs r I hr h => by simp [run] at h
  | n + 1 => fun g C args vs r I hr h => by
    simp only [run] at h
    obtain ⟨fn, hfn, h⟩ := Option.bind_eq_some_iff.1 h
    have hok := ft.fns g fn hfn
    exact .inr ⟨g, vs.toArray, enter_of_ok hok _ _, body_sound ft.mixed ft.ops ft.al (callsOk_calling ft.prims (run_calls ft n)) ft.gl hok I hr h⟩
theorem den_calls (ft : Fits T P tb) {g : Nat} {C : Ctx} {args : List AV} {vs : List Value} {r : AV × Option Heap} (I : Inv tb C) (hr : RepL C args vs) (h : den tb g args C.H = some r) : Calls P g vs.toArray C.w (After tb C r) := by
  unfold den at h
  split at h
  · generalize Classical.choose _ = n at h
    cases n with
    | zero => simp [run] at h
    | succ n =>
      simp only [run] at h
      obtain ⟨fn, hfn, h⟩ := Option.bind_eq_some_iff.1 h
      exact body_sound ft.mixed ft.ops ft.al (callsOk_calling ft.prims (run_calls ft n)) ft.gl (ft.fns g fn hfn) I hr h
  · cases h
end
end Go.Proofs.YtoegmdfkcaojlaaGreat.Am
namespace Go.Proofs.YtoegmdfkcaojlaaGreat.Am
def ext? (P : Program) (g : Nat) : Option (Array Value → Sem Value) :=
  match P.funcs[g]? with
  | some fn => if !(fn.name == "runtime.NumGoroutine") && fn.body.isNone && (Extern.findNext fn).isNone then Extern.find fn else none
  | none => none
def bytesA (h : Heap) : AV → Option (List UInt8)
  | .s l => some l
  | v => (els? h 1 v).bind bytes?
def pCompare : List AV → Heap → Option (AV × Option Heap)
  | [x, y], h => (bytesA h x).bind fun a => (bytesA h y).map fun b => (.i .i64 (Extern.BytealgCompare.cmp ⟨a.toArray⟩ ⟨b.toArray⟩), none)
  | _, _ => none
section
variable {P : Program} {tb : Tab} {C : Ctx}
theorem run_ext {g : Nat} {e : Array Value → Sem Value} (he : ext? P g = some e) {vs : Array Value} {v : Value} {w : World} (h : (e vs).run P w = .ok v w) : (callFunc g vs).run P w = .ok (.value v) w := by
  unfold ext? at he
  split at he
  · rename_i fn hf
    split at he
    · rename_i hc
      simp only [Bool.and_eq_true, Bool.not_eq_true', Option.isNone_iff_eq_none] at hc
      obtain ⟨⟨h1, h2⟩, h3⟩ := hc
      have h2' : fn.body.isNone = true := by rw [h2]; rfl
      simp only [callFunc, Sem.run_bind, run_program, Result.andThen_ok, hf, h1, Bool.false_eq_true, if_false, h2', if_true, run_mark, h3, he, h, Sem.run_pure]
    · cases he
  · cases he
theorem bytes_one {e : List AV} {r : List (List AV)} {l : List UInt8} (h : bytes? (e :: r) = some l) : ∃ n q, e = [.i .u8 n] ∧ bytes? r = some q ∧ l = UInt8.ofNat n.toNat :: q := by
  unfold bytes? at h
  split at h
  · rename_i he; cases he
  · rename_i n r' he
    cases he
    obtain ⟨q, hq, rfl⟩ := Option.map_eq_some_iff.1 h
    exact ⟨n, q, rfl, hq, rfl⟩
  · cases h
theorem run_lb (w : World) (b : Nat) : ∀ (els : List (List AV)) (vss : List (List Value)) (l : List UInt8) (o : Nat) (acc : ByteArray), RepLL C els vss → bytes? els = some l → Holds w b o vss.flatten →
    (Extern.Bytes.loadBytes ⟨b, o, none⟩ els.length acc).run P w = .ok ⟨acc.data ++ l.toArray⟩ w
  | [], _, l, o, acc, _, h, _ => by
    simp only [bytes?, Option.some.injEq] at h
    subst h
    simp [Extern.Bytes.loadBytes]
  | e :: els, vss, l, o, acc, ⟨v, q, e1, r1, r2⟩, h, hh => by
    subst e1
    obtain ⟨n, l', rfl, hl, rfl⟩ := bytes_one h
    obtain ⟨u, us, e2, ru, e3⟩ := r1
    have e3' : us = [] := e3
    have ru' : u = .int .u8 n := ru
    subst e3'; subst e2; subst ru'
    have h0 : w.cell? ⟨b, o, none⟩ = some (.int .u8 n) := by
      have := hh 0 (.int .u8 n) (by simp)
      simpa using this
    have hn : (⟨b, o, none⟩ : Addr).add 1 = ⟨b, o + 1, none⟩ := rfl
    have ih := run_lb w b els q l' (o + 1) (acc.push n.toNat.toUInt8) r2 hl (fun j v hj => by
      have := hh (j + 1) v (by simpa using hj)
      rw [show o + 1 + j = o + (j + 1) by omega]
      exact this)
    simp only [List.length_cons, Extern.Bytes.loadBytes, Sem.run_bind, run_load, h0, Result.andThen_ok, hn, ih]
    congr 1
    apply ByteArray.ext
    simp [ByteArray.push, Nat.toUInt8]
theorem run_bytes (I : Inv tb C) {x : AV} {v : Value} {l : List UInt8} (r : Rep C x v) (h : bytesA C.H x = some l) : (Extern.Bytes.bytesOf v).run P C.w = .ok ⟨l.toArray⟩ C.w := by
  have slc : (els? C.H 1 x).bind bytes? = some l → (Extern.Bytes.bytesOf v).run P C.w = .ok ⟨l.toArray⟩ C.w := by
    intro h
    obtain ⟨els, he, hl⟩ := Option.bind_eq_some_iff.1 h
    rcases els_rep I (by omega) r he with ⟨rfl, e⟩ | ⟨q, cap, vss, e, hlc, hh, hs, hr⟩
    · subst e
      simp only [bytes?, Option.some.injEq] at hl
      subst hl
      rfl
    · subst e
      by_cases hne : els = []
      · subst hne
        simp only [bytes?, Option.some.injEq] at hl
        subst hl
        rfl
      · obtain ⟨b, base, rfl, hh2⟩ := hh hne
        have := run_lb (P := P) (C := C) C.w b els vss l base .empty hr hl hh2
        simp only [Extern.Bytes.bytesOf, this]
        congr 1
        apply ByteArray.ext
        show (#[] : Array UInt8) ++ l.toArray = l.toArray
        simp
  cases x <;> simp only [bytesA] at h <;> try exact slc h
  obtain rfl := Option.some.inj h
  have e : v = .string ⟨_⟩ := r
  subst e
  rfl
theorem prim_compare {g : Nat} (he : ext? P g = some Extern.BytealgCompare.compare) : CallsOk P tb fun g' args h => if g' = g then pCompare args h else none := by
  intro g' D args vs r I hr h
  dsimp only at h
  split at h
  · rename_i hg
    subst hg
    unfold pCompare at h
    split at h
    · rename_i x y h'
      obtain ⟨v, vs', e1, r1, v2, vs2, e2, r2, e3⟩ := hr
      have e3' : vs2 = [] := e3
      subst e3'; subst e2; subst e1
      obtain ⟨a, ha, h⟩ := Option.bind_eq_some_iff.1 h
      obtain ⟨b, hb, rfl⟩ := Option.map_eq_some_iff.1 h
      refine .inl (yields_pure I (v := .int .i64 (Extern.BytealgCompare.cmp ⟨a.toArray⟩ ⟨b.toArray⟩)) (run_ext he ?_) rfl)
      change Sem.run P (do pure (goInt (Extern.BytealgCompare.cmp (← Extern.Bytes.bytesOf v) (← Extern.Bytes.bytesOf v2)))) D.w = _
      simp only [Sem.run_bind, run_bytes I r1 ha, run_bytes I r2 hb, Result.andThen_ok, Sem.run_pure, goInt]
    · cases h
  · cases h
end
end Go.Proofs.YtoegmdfkcaojlaaGreat.Am
namespace Go.Proofs.YtoegmdfkcaojlaaGreat.Am
section
variable {P : Program} {tb : Tab}
end
end Go.Proofs.YtoegmdfkcaojlaaGreat.Am
namespace Go.Proofs.YtoegmdfkcaojlaaGreat.Am
section
variable {tb : Tab} {Γ : Cx} {a b : AO}
inductive ArgL (tb : Tab) (Γ : Cx) : (As : List T) → List AO → Res As → Prop where
  | nil : ArgL tb Γ [] [] ()
  | one {a : AO} {t : T} {x : t.α} (h : OpF tb Γ a (.val t x)) : ArgL tb Γ [t] [a] x
  | cons {a : AO} {t u : T} {x : t.α} {As : List T} {l : List AO} {y : Res (u :: As)} (h : OpF tb Γ a (.val t x)) (k : ArgL tb Γ (u :: As) l y) : ArgL tb Γ (t :: u :: As) (a :: l) (x, y)
theorem ArgL.spec {E : Env} {rv : Nat → AV} {fp : Fp} {f : Fr} {H : Heap} (R : RelI E Γ rv fp f H) : ∀ {As : List T} {l : List AO} {x : Res As}, ArgL tb Γ As l x → VsR (Pf E Γ.ss fp H) H As (l.map (eval tb f)) x
  | _, _, _, .nil => rfl
  | _, _, _, .one h => ⟨_, rfl, h E rv fp f H R⟩
  | _, _, _, .cons h k => ⟨_, _, rfl, h E rv fp f H R, k.spec R⟩
def tupL : (Rs : List T) → Res Rs → List (Σ t : T, t.α)
  | [], _ => []
  | [a], x => [⟨a, x⟩]
  | a :: b :: r, x => ⟨a, x.1⟩ :: tupL (b :: r) x.2
theorem tupL_rel {P : Nat → Prop} {H : Heap} : ∀ {Rs : List T} {vs : List AV} {x : Res Rs}, VsR P H Rs vs x → TupR P H vs (tupL Rs x)
  | [], _, _, h => by rw [show _ = [] from h]; trivial
  | [a], _, _, ⟨v, e, h⟩ => by rw [e]; exact ⟨h, trivial⟩
  | a :: b :: r, _, _, ⟨v, q, e, h, g⟩ => by rw [e]; exact ⟨h, tupL_rel g⟩
def outF : (Rs : List T) → Res Rs → Fact
  | [a], x => .val a x
  | Rs, x => .tup (tupL Rs x)
theorem outF_rel {rv : Nat → AV} {ss : Ss} {P : Nat → Prop} {H : Heap} {v : AV} : ∀ {Rs : List T} {x : Res Rs}, OutR P H Rs v x → FR rv ss P H (outF Rs x) v
  | [], _, ⟨vs, e, h⟩ => by rw [e, show vs = [] from h]; exact ⟨[], rfl, trivial⟩
  | [a], _, ⟨vs, e, v, e', h⟩ => by rw [e, e']; exact h
  | a :: b :: r, _, ⟨vs, e, h⟩ => by
    have hh := h
    obtain ⟨v1, q, e1, h1, h2⟩ := h
    have : ∃ v2 q2, q = v2 :: q2 := by
      cases r with
      | nil => obtain ⟨v2, e2, _⟩ := h2; exact ⟨v2, [], e2⟩
      | cons c r => obtain ⟨v2, q2, e2, _⟩ := h2; exact ⟨v2, q2, e2⟩
    obtain ⟨v2, q2, e2⟩ := this
    refine ⟨vs, ?_, tupL_rel hh⟩
    rw [e, e1, e2]; rfl
theorem h_call {g : Nat} {As Rs : List T} {F : Res As → Option (Res Rs)} {l : List AO} {x : Res As} (sp : Spec tb g As Rs F) (hx : ArgL tb Γ As l x) : OpH tb Γ (.call g l) (F x) fun r => outF Rs r := by
  intro E rv fp f H R r hr
  obtain ⟨v, u, h1, h2, h3⟩ := (sp (Pf E Γ.ss fp H) H _ x R.ltP R.wf (hx.spec R) r hr).call
  exact ⟨v, u, by simp only [aop]; exact h1, h2, outF_rel h3⟩
theorem h_call1 {g : Nat} {As : List T} {t : T} {F : Res As → Option (Res [t])} {l : List AO} {x : Res As} (sp : Spec tb g As [t] F) (hx : ArgL tb Γ As l x) : OpH tb Γ (.call g l) (F x) fun r : t.α => .val t r := h_call sp hx
theorem h_callN {g : Nat} {As : List T} {t u : T} {Rs : List T} {F : Res As → Option (Res (t :: u :: Rs))} {l : List AO} {x : Res As} (sp : Spec tb g As (t :: u :: Rs) F) (hx : ArgL tb Γ As l x) : OpH tb Γ (.call g l) (F x) fun r => .tup (tupL (t :: u :: Rs) r) := h_call sp hx
theorem h_ext {l : List (Σ t : T, t.α)} {i : Nat} {t : T} {x : t.α} (ha : OpF tb Γ a (.tup l)) (h : l[i]? = some ⟨t, x⟩) : OpH tb Γ (.ext a i) (some ()) fun _ => .val t x := by
  rintro E rv fp f H R _ ⟨⟩
  obtain ⟨vs, e, hv⟩ := ha E rv fp f H R
  have : ∀ {vs : List AV} {l : List (Σ t : T, t.α)} {i : Nat} {p : Σ t : T, t.α}, TupR (Pf E Γ.ss fp H) H vs l → l[i]? = some p → ∃ v, vs[i]? = some v ∧ p.1.V (Pf E Γ.ss fp H) H v p.2 := by
    intro vs
    induction vs with
    | nil => intro l i p h e; cases l with | nil => simp at e | cons => exact h.elim
    | cons v vs ih =>
      intro l i p h e
      cases l with
      | nil => exact h.elim
      | cons q l =>
        cases i with
        | zero => simp only [List.getElem?_cons_zero, Option.some.injEq] at e; subst e; exact ⟨v, rfl, h.1⟩
        | succ i => simp only [List.getElem?_cons_succ] at e; obtain ⟨w, h1, h2⟩ := ih h.2 e; exact ⟨w, by simpa using h1, h2⟩
  obtain ⟨v, h1, h2⟩ := this hv h
  exact ⟨v, none, by simp only [aop, e, h1, val, Option.map_some], rfl, h2⟩
end
structure CmpC (t : T) (l : List CK) where
  d : (x y : t.α) → Decidable (x = y)
  h : ∀ {P Q : Nat → Prop} {H G : Heap} {c c' : List AV} {x y : t.α}, t.R P H c x → t.R Q G c' y → eqS l c c' = some (@decide (x = y) (d x y))
theorem eqS_app {l m : List CK} : ∀ {c d c' d' : List AV} {p q : Bool}, eqS l c c' = some p → eqS m d d' = some q → eqS (l ++ m) (c ++ d) (c' ++ d') = some (p && q) := by
  induction l with
  | nil =>
    intro c d c' d' p q h g
    match c, c', h with
    | [], [], h => simp only [eqS, Option.some.injEq] at h; subst h; simpa using g
  | cons k l ih =>
    intro c d c' d' p q h g
    match c, c', h with
    | [], [], h => simp [eqS] at h
    | [], _ :: _, h => simp [eqS] at h
    | _ :: _, [], h => simp [eqS] at h
    | x :: c, y :: c', h =>
      simp only [eqS] at h
      obtain ⟨e, he, h⟩ := Option.bind_eq_some_iff.1 h
      obtain ⟨e', he', rfl⟩ := Option.map_eq_some_iff.1 h
      simp only [List.cons_append, eqS, he, Option.bind_some, ih he' g, Option.map_some, Bool.and_assoc]
theorem dec_iff {p q : Prop} {d : Decidable p} {e : Decidable q} (h : p ↔ q) : @decide p d = @decide q e := by
  rw [Bool.eq_iff_iff]; simp only [decide_eq_true_eq]; exact h
theorem dec_of {p : Prop} {d : Decidable p} {q : Bool} (h : q = true ↔ p) : q = @decide p d := by
  rw [Bool.eq_iff_iff]; simp only [decide_eq_true_eq]; exact h
def CmpC.sc {α : Type} {c : α → AV} {z : α} {hs : ∀ x, scal (c x) = true} {hm : ∀ x, ment (c x) = 0} (k : CK) (d : (x y : α) → Decidable (x = y)) (h : ∀ x y, eq1 k (c x) (c y) = some (@decide (x = y) (d x y))) : CmpC (T.sc α c z hs hm) [k] :=
  ⟨d, fun {P Q H G c' d' x y} h1 h2 => by
    rw [show c' = _ from h1, show d' = _ from h2]
    show (eq1 k (c x) (c y)).bind (fun a => (some true).map fun b => a && b) = _
    rw [h x y]
    simp only [Option.bind_some, Option.map_some, Bool.and_true]
    rfl⟩
def CmpC.b : CmpC T.b [.b] := CmpC.sc .b (fun x y => inferInstance) fun x y => by cases x <;> cases y <;> rfl
def CmpC.int (k : IntKind) : CmpC (T.int k) [.i k] := CmpC.sc (.i k) (fun x y => inferInstance) fun x y => by simp only [eq1, and_self, if_true]; rfl
theorem eq_nat {x y : Nat} : ((x : Int) == (y : Int)) = decide (x = y) := by
  rw [Bool.eq_iff_iff]; simp only [beq_iff_eq, decide_eq_true_eq]; omega
def CmpC.u8 : CmpC T.u8 [.i .u8] := CmpC.sc (.i .u8) (fun x y => inferInstance) fun x y => by
  simp only [eq1, and_self, if_true, eq_nat]; congr 1; exact dec_iff UInt8.toNat_inj
def CmpC.prod {s t : T} {l m : List CK} (p : CmpC s l) (q : CmpC t m) : CmpC (T.prod s t) (l ++ m) :=
  ⟨fun x y => @decidable_of_iff _ (x.1 = y.1 ∧ x.2 = y.2) ⟨fun h => Prod.ext h.1 h.2, fun h => by rw [h]; exact ⟨rfl, rfl⟩⟩ (have := p.d x.1 y.1; have := q.d x.2 y.2; inferInstance), fun {P Q H G c c' x y} ⟨c1, d1, e1, h1, g1⟩ ⟨c2, d2, e2, h2, g2⟩ => by
    rw [e1, e2, eqS_app (p.h h1 h2) (q.h g1 g2)]
    congr 1
    rw [Bool.eq_iff_iff]
    simp only [Bool.and_eq_true, decide_eq_true_eq]
    exact ⟨fun h => Prod.ext h.1 h.2, fun h => by rw [h]; exact ⟨rfl, rfl⟩⟩⟩
def CmpC.iso {t : T} {l : List CK} {β : Type} {f : β → t.α} {g : t.α → β} {hfg : ∀ y, f (g y) = y} (p : CmpC t l) (d : (x y : β) → Decidable (x = y)) (hi : ∀ x y, f x = f y → x = y) : CmpC (T.iso t β f g hfg) l :=
  ⟨d, fun {P Q H G c c' x y} h1 h2 => by
    have := p.h (x := f x) (y := f y) h1 h2
    rw [this]
    congr 1
    exact dec_iff ⟨hi x y, fun h => by rw [h]⟩⟩
def repK (l : List CK) : Nat → List CK
  | 0 => []
  | n + 1 => l ++ repK l n
theorem CmpC.all {t : T} {l : List CK} (p : CmpC t l) {P Q : Nat → Prop} {H G : Heap} : ∀ {c c' : List (List AV)} {x y : List t.α}, x.length = y.length → AllR t P H c x → AllR t Q G c' y → ∃ q, eqS (repK l x.length) c.flatten c'.flatten = some q ∧ (q = true ↔ x = y) := by
  intro c
  induction c with
  | nil =>
    intro c' x y hl h1 h2
    match x, h1 with
    | [], _ =>
      match c', y, h2, hl with
      | [], [], _, _ => exact ⟨true, rfl, by simp⟩
      | _ :: _, _ :: _, _, hl => simp at hl
  | cons a c ih =>
    intro c' x y hl h1 h2
    match x, h1 with
    | u :: x, h1 =>
      match c', y, h2 with
      | [], [], _ => simp at hl
      | a' :: c', v :: y, h2 =>
        obtain ⟨q, e, hq⟩ := ih (by simpa using hl) h1.2 h2.2
        refine ⟨_, by rw [List.length_cons, repK, List.flatten_cons, List.flatten_cons]; exact eqS_app (p.h h1.1 h2.1) e, ?_⟩
        simp only [Bool.and_eq_true, decide_eq_true_eq, hq, List.cons.injEq]
def CmpC.arr {t : T} {l : List CK} (n : Nat) (p : CmpC t l) : CmpC (T.arr n t) (repK l n) :=
  ⟨fun (x y : Ar t.α n) => @decidable_of_iff _ (x.l = y.l) ⟨fun h => Ar.ext h, fun h => by rw [h]⟩ (have : DecidableEq t.α := p.d; inferInstance), fun {P Q H G c c' x y} ⟨cs, e, h⟩ ⟨ds, e', h'⟩ => by
    obtain ⟨q, hq, hi⟩ := p.all (x.len.trans y.len.symm) h h'
    rw [x.len] at hq
    rw [e, e', hq]
    congr 1
    exact dec_of (hi.trans ⟨fun h => Ar.ext h, fun h => by rw [h]⟩)⟩
section
variable {tb : Tab} {Γ : Cx} {a b : AO}
theorem h_eq {t : T} {l l' : List CK} {x y : t.α} {neg : Bool} (p : CmpC t l) (ht : t.agg = true) (hl : l' = l) (ha : OpF tb Γ a (.val t x)) (hb : OpF tb Γ b (.val t y)) : OpH tb Γ (.eq neg (.agg l') a b) (some (if neg then !(@decide (x = y) (p.d x y)) else @decide (x = y) (p.d x y))) fun z => .val T.b z := by
  rintro E rv fp f H R z ⟨⟩
  subst hl
  rcases ha E rv fp f H R with ⟨_, c, e, r⟩ | ⟨e, _⟩
  · rcases hb E rv fp f H R with ⟨_, c', e', r'⟩ | ⟨e', _⟩
    · exact ⟨_, none, by simp only [aop, e, e', eqK, p.h r r', Option.map_some, val], rfl, T.b_V.2 rfl⟩
    · rw [ht] at e'; cases e'
  · rw [ht] at e; cases e
theorem h_eqb {x y : Bool} {neg : Bool} (ha : OpF tb Γ a (.val T.b x)) (hb : OpF tb Γ b (.val T.b y)) : OpH tb Γ (.eq neg (.one .b) a b) (some (if neg then !decide (x = y) else decide (x = y))) fun z => .val T.b z := by
  rintro E rv fp f H R z ⟨⟩
  have h : eq1 .b (.b x) (.b y) = some (decide (x = y)) := by cases x <;> cases y <;> rfl
  exact ⟨_, none, by simp only [aop, T.b_V.1 (ha E rv fp f H R), T.b_V.1 (hb E rv fp f H R), eqK, h, Option.map_some, val], rfl, T.b_V.2 rfl⟩
theorem M_stA {s t : T} {x : s.α} {y : t.α} {n j o o' m k N : Nat} {ps : List (Nat × Fact)} (F : Fld s (T.arr n t) o') (hk : k = t.sz) (ha : OpF tb Γ a (.cp j (o + m * t.sz))) (hb : OpF tb Γ b (.val t y)) (hj : findS Γ.ss j = some (.cells ps)) (hp : findP ps o = some (N, .val s x, o')) :
    OpM tb Γ none (.st k a b) (if m < n then some (F.put x ((F.get x).set m y)) else none) fun x' => Γ.setS j (.cells (putP ps o (.val s x'))) := by
  intro E rv fp f H R x' hx'
  split at hx'
  · rename_i hlt
    cases hx'
    obtain ⟨l, id, e, hv⟩ := ha E rv fp f H R
    obtain ⟨cs, h0, h2, h3⟩ := cells_of R hj e
    obtain ⟨b', c, e0, e1, e2, e3, e4, e5, e6⟩ := findP_spec h3 hp
    let G := Fld.comp F (Fld.at n t m hlt)
    have hle := G.le
    have hl := s.len e4
    have hy := T.V.cells (hb E rv fp f H R)
    have hyl := t.len hy
    have hput := G.putR e4 hy
    have hpr := e6 (o' + m * t.sz) (cellsOf (eval tb f b)) (.val s (G.put x y)) (by omega) hput
    rw [show b' + (o' + m * t.sz) = o + m * t.sz by omega] at hpr
    have hmen := PR.men R.ltP R.rvlt h3
    have hym := t.men hy R.ltP
    subst hk
    have hlt' := (R.fplt j id l ((h0 id).2 rfl)).1
    obtain ⟨rv', fp', _, _, R'⟩ := R.set (j := j) (S := .cells (putP ps o (.val s (G.put x y)))) (v := rv j) (o := .cells (labAt H id) (splice cs (o + m * t.sz) (cellsOf (eval tb f b)))) (by rw [hj]; rfl) l h0 (by simp only [mentO]; exact mentL_splice hmen hym) rfl (R.rvlt j l) (.inl rfl) (R.scal j l) fun rv' fp' e1 e2 hP hs =>
      ⟨id, _, by rw [e1, e], e2, by simp [cellsAt, hlt'], PR.mono hP (by simp) (fun p _ => hs p.2 (.inl rfl)) hpr⟩
    refine ⟨.junk, some (H.set id (AObj.cells (labAt H id) (splice cs (o + m * t.sz) (cellsOf (eval tb f b))))), ?_, rv', fp', R'⟩
    simp only [aop, hv, store, h2, Option.bind_some]
    rw [if_pos ⟨hyl, by omega⟩]
    rfl
  · cases hx'
theorem res_c {s t : T} {x : s.α} {n j o o' N m : Nat} {ag : Bool} {ps : List (Nat × Fact)} (h : findT Γ.ts n = some (.cp j o)) (hj : findS Γ.ss j = some (.cells ps)) (hp : findP ps o = some (N, .val s x, o')) (F : Fld s t o') (hag : ag = t.agg) (hm : m = t.sz) : ResF Γ (.cell ag m n) t (F.get x) := by
  intro E rv fp f H R r vs hr
  obtain ⟨v, u, h1, _, h3⟩ := h_ldC (tb := ⟨fun _ => none, fun _ => none, fun _ => none, []⟩) (o_t h) hj hp F hag hm E rv fp f H R () rfl
  refine ⟨v, ?_, h3⟩
  simp only [aop, eval, val] at h1
  obtain ⟨w, hw, e⟩ := Option.map_eq_some_iff.1 h1
  cases e
  simp only [results, hw, Option.bind_some, hr, Option.map_some]
end
def look {α : Type} (n : Nat) : List (Nat × α) → Option α
  | [] => none
  | (k, v) :: r => if Nat.beq n k then some v else look n r
theorem look_mem {α : Type} {n : Nat} {v : α} : ∀ {l : List (Nat × α)}, look n l = some v → (n, v) ∈ l
  | [], h => by simp [look] at h
  | (k, u) :: r, h => by
    simp only [look] at h
    split at h
    · rename_i e
      obtain rfl := Option.some.inj h
      obtain rfl := Nat.eq_of_beq_eq_true e
      exact List.mem_cons_self
    · exact List.mem_cons_of_mem _ (look_mem h)
end Go.Proofs.YtoegmdfkcaojlaaGreat.Am
namespace Go.Proofs.YtoegmdfkcaojlaaGreat.Am
section
variable {tb : Tab} {Γ : Cx} {a b : AO}
def T.Flat (t : T) : Prop := ∀ {P Q : Nat → Prop} {H G : Heap} {cs : List AV} {x : t.α}, t.R P H cs x → t.R Q G cs x
theorem flat_int {k : IntKind} : (T.int k).Flat := fun h => h
theorem T.Flat.V {t : T} (h : t.Flat) {P Q : Nat → Prop} {H G : Heap} {v : AV} {x : t.α} (r : t.V P H v x) : t.V Q G v x := by
  rcases r with ⟨a, cs, e, r⟩ | ⟨a, r⟩
  · exact .inl ⟨a, cs, e, h r⟩
  · exact .inr ⟨a, h r⟩
inductive Flats : List T → Prop where
  | nil : Flats []
  | cons {t : T} {l : List T} : t.Flat → Flats l → Flats (t :: l)
theorem VsR.flat {P Q : Nat → Prop} {H G : Heap} : ∀ {l : List T} {vs : List AV} {x : Res l}, Flats l → VsR P H l vs x → VsR Q G l vs x
  | [], _, _, _, h => h
  | [a], _, _, .cons k _, ⟨v, e, h⟩ => ⟨v, e, k.V h⟩
  | _ :: _ :: _, _, _, .cons k l, ⟨v, q, e, h, g⟩ => ⟨v, q, e, k.V h, VsR.flat l g⟩
def ArgP (tb : Tab) (Γ : Cx) (a : AO) (t : T) (x : t.α) : Prop := ∀ E rv fp f H, RelI E Γ rv fp f H → t.V (fun i => i < H.length) H (eval tb f a) x
inductive ArgR (tb : Tab) (Γ : Cx) : (As : List T) → List AO → Res As → Prop where
  | one {a : AO} {t : T} {x : t.α} (h : ArgP tb Γ a t x) : ArgR tb Γ [t] [a] x
  | cons {a : AO} {t u : T} {x : t.α} {As : List T} {l : List AO} {y : Res (u :: As)} (h : ArgP tb Γ a t x) (k : ArgR tb Γ (u :: As) l y) : ArgR tb Γ (t :: u :: As) (a :: l) (x, y)
theorem ArgR.spec {E : Env} {rv : Nat → AV} {fp : Fp} {f : Fr} {H : Heap} (R : RelI E Γ rv fp f H) : ∀ {As : List T} {l : List AO} {x : Res As}, ArgR tb Γ As l x → VsR (fun i => i < H.length) H As (l.map (eval tb f)) x
  | _, _, _, .one h => ⟨_, rfl, h E rv fp f H R⟩
  | _, _, _, .cons h k => ⟨_, _, rfl, h E rv fp f H R, k.spec R⟩
theorem h_callR {g : Nat} {As Rs : List T} {F : Res As → Option (Res Rs)} {l : List AO} {x : Res As} (sp : Spec tb g As Rs F) (fl : Flats Rs) (hx : ArgR tb Γ As l x) : OpH tb Γ (.call g l) (F x) fun r => outF Rs r := by
  intro E rv fp f H R r hr
  obtain ⟨v, u, h1, h2, vs, h3, h4⟩ := (sp (fun i => i < H.length) H _ x (fun _ h => h) R.wf (hx.spec R) r hr).call
  exact ⟨v, u, by simp only [aop]; exact h1, h2, outF_rel ⟨vs, h3, h4.flat fl⟩⟩
end
end Go.Proofs.YtoegmdfkcaojlaaGreat.Am
namespace Go.Proofs.YtoegmdfkcaojlaaGreat.Am
section
variable {tb : Tab} {Γ : Cx} {a b : AO}
variable {ks : List Kf} {ρ : Type} {Q : Post ρ}
end
end Go.Proofs.YtoegmdfkcaojlaaGreat.Am
namespace Go.Proofs.YtoegmdfkcaojlaaGreat.Am
def blindOp : AOp → Bool
  | .mv _ => true
  | .pick _ _ _ => true
  | .bld _ _ => true
  | .bll _ _ _ => true
  | .fa _ _ => true
  | .nilc _ => true
  | .bin _ _ _ => true
  | .eq _ _ _ _ => true
  | .un _ _ => true
  | .cvi _ _ => true
  | .cvid _ => true
  | .cvc _ => true
  | .mkf _ _ _ => true
  | .sls _ _ _ => true
  | .fld _ _ _ _ => true
  | .iaa _ _ _ _ => true
  | .ixa _ _ _ _ _ => true
  | .ixs _ _ => true
  | .ext _ _ => true
  | .mkif _ _ => true
  | .len _ => true
  | .lens _ => true
  | .mnx _ _ _ => true
  | .isni _ _ => true
  | .capn _ => true
  | _ => false
structure Mob where
  o : AOp
  v : AV
  c : Nat
def freeT (d : Option Nat) (o : AOp) : Bool :=
  match d with
  | some d => (opT o).all fun t => !Nat.beq d t
  | none => true
def freshM (d : Option Nat) : List Mob → Bool
  | [] => true
  | m :: r => freeT d m.o && freshM d r
def decM : List Mob → List Mob
  | [] => []
  | m :: r => match m.c with
    | 0 => decM r
    | 1 => decM r
    | c + 2 => { m with c := c + 1 } :: decM r
def plainO (N k lo hi : Nat) (o : AOp) : Bool := (Nat.beq lo k && Nat.beq hi k) || (blindOp o && Nat.ble hi N)
def addM (N k lo hi : Nat) (o : AOp) (v : AV) (ms : List Mob) : List Mob :=
  bif plainO N k lo hi o then ms else ⟨o, v, hi - k⟩ :: ms
def lateO (N k lo hi : Nat) (d : Option Nat) (o : AOp) : Bool := Nat.beq lo k && (Nat.ble hi N && freeT d o)
structure Eob where
  ag : Bool
  n : Nat
  a : AV
  v : AV
  lo : Nat
def opsT (tb : Tab) (cl : Nat → List AV → Heap → Out) (N : Nat) : Nat → List Mob → List Eob → List AOper → List (Option (Nat × Nat)) → Fr → Heap → Fr × Heap → Prop
  | k, _, _, [], [], f, h, p => k = N ∧ p = (f, h)
  | k, ms, es, ⟨d, g, o⟩ :: l, none :: w, f, h, p => (wanted f g = some true ∧ ∃ q es', aop tb cl (eval tb f) h o = some q ∧ freshM d ms = true ∧
      (∀ m ∈ ms, 0 < m.c → ∃ u, aop tb cl (eval tb (put f d q.1)) (q.2.getD h) m.o = some (m.v, u) ∧ u.getD (q.2.getD h) = q.2.getD h) ∧
      (∀ e ∈ es', (e ∈ es ∨ e.lo = k) ∧ load h e.ag e.n e.a = some e.v) ∧ opsT tb cl N (k + 1) (decM ms) es' l w (put f d q.1) (q.2.getD h) p) ∨
      (wanted f g = some false ∧ ms = [] ∧ opsT tb cl N (k + 1) [] [] l w (put f d (.tup [])) h p)
  | k, ms, es, ⟨d, g, o⟩ :: l, some (lo, hi) :: w, f, h, p => (wanted f g = some true ∧ ∃ q, aop tb cl (eval tb f) h o = some q ∧ q.2.getD h = h ∧ freshM d ms = true ∧
      (((plainO N k lo hi o || lateO N k lo hi d o) = true ∧ opsT tb cl N k (addM N k lo hi o q.1 ms) es l w (put f d q.1) h p) ∨
       (hi = k ∧ (∃ e ∈ es, ∃ t, o = .ld e.ag e.n (.t t) ∧ get f t = e.a ∧ q.1 = e.v ∧ e.lo ≤ lo) ∧ opsT tb cl N k ms es l w (put f d q.1) h p))) ∨
      (wanted f g = some false ∧ freshM d ms = true ∧ opsT tb cl N k ms es l w (put f d (.tup [])) h p)
  | _, _, _, _, _, _, _, _ => False
section
variable {tb : Tab} {cl : Nat → List AV → Heap → Out}
theorem aop_blind {o : AOp} (ho : blindOp o = true) {rho : AO → AV} {h h' : Heap} : aop tb cl rho h o = aop tb cl rho h' o := by
  cases o <;> first | (simp only [blindOp, Bool.false_eq_true] at ho; done) | rfl
theorem val_none {x : Option AV} {p : AV × Option Heap} (e : val x = some p) : p.2 = none := by
  obtain ⟨v, _, rfl⟩ := Option.map_eq_some_iff.1 e; rfl
theorem map_none {α : Type} {x : Option α} {f : α → AV} {p : AV × Option Heap} (e : x.map (fun a => (f a, (none : Option Heap))) = some p) : p.2 = none := by
  obtain ⟨v, _, rfl⟩ := Option.map_eq_some_iff.1 e; rfl
theorem bind_none {α : Type} {x : Option α} {f : α → Out} {p : AV × Option Heap} (h : ∀ a, f a = some p → p.2 = none) (e : x.bind f = some p) : p.2 = none := by
  obtain ⟨v, _, e⟩ := Option.bind_eq_some_iff.1 e; exact h v e
theorem aop_none {o : AOp} (ho : blindOp o = true) {rho : AO → AV} {h : Heap} {p : AV × Option Heap} (e : aop tb cl rho h o = some p) : p.2 = none := by
  cases o <;> first | (simp only [blindOp, Bool.false_eq_true] at ho; done) | skip
  case mv => simp only [aop, Option.some.injEq] at e; subst e; rfl
  case pick => simp only [aop] at e; split at e <;> first | (cases e; rfl) | cases e
  case bld => exact val_none e
  case bll => exact val_none e
  case nilc => simp only [aop] at e; split at e <;> first | (cases e; rfl) | cases e
  case bin => exact val_none e
  case eq => exact val_none e
  case un => exact val_none e
  case cvi => simp only [aop] at e; split at e <;> first | (cases e; rfl) | cases e
  case cvid => simp only [aop] at e; split at e <;> first | (cases e; rfl) | cases e
  case cvc => simp only [aop] at e; split at e <;> first | (cases e; rfl) | cases e
  case mkf => simp only [aop, Option.some.injEq] at e; subst e; rfl
  case sls => simp only [aop] at e; split at e <;> first | exact map_none e | cases e
  case fa => exact val_none e
  case fld => simp only [aop] at e; split at e <;> first | cases e | (split at e <;> first | exact val_none e | cases e)
  case iaa => exact bind_none (fun a e => by split at e <;> first | exact val_none e | cases e) e
  case ixa => exact bind_none (fun a e => by split at e <;> first | cases e | (split at e <;> first | exact val_none e | cases e)) e
  case ixs => exact bind_none (fun a e => by split at e <;> first | cases e | (split at e <;> first | exact map_none e | cases e)) e
  case ext => simp only [aop] at e; split at e <;> first | exact val_none e | cases e
  case mkif => simp only [aop, Option.some.injEq] at e; subst e; rfl
  case len => exact map_none e
  case lens => simp only [aop] at e; split at e <;> first | (cases e; rfl) | cases e
  case isni => simp only [aop] at e; split at e <;> first | (cases e; rfl) | cases e
  case capn => simp only [aop] at e; split at e <;> first | (cases e; rfl) | cases e
  case mnx => simp only [aop] at e; split at e <;> first | cases e | (split at e <;> first | (cases e; rfl) | cases e)
theorem blind_same {o : AOp} (ho : blindOp o = true) {rho : AO → AV} {h h' : Heap} {p : AV × Option Heap} (e : aop tb cl rho h o = some p) : aop tb cl rho h' o = some (p.1, none) := by
  rw [aop_blind ho (h' := h), e]
  have := aop_none ho e
  obtain ⟨a, b⟩ := p
  simp only at this
  rw [this]
theorem alike_free {d : Option Nat} {f : Fr} {v : AV} {o : AOp} (h : freeT d o = true) : Alike tb (put f d v) f (opT o) := by
  intro t ht
  cases d with
  | none => rfl
  | some d =>
    have := List.all_eq_true.1 h t ht
    simp only [Bool.not_eq_true'] at this
    simp only [put, get]
    rw [if_neg fun e => by rw [e, Nat.beq_refl] at this; cases this]
theorem freshM_eval {d : Option Nat} {f : Fr} {v : AV} : ∀ {ms : List Mob}, freshM d ms = true → ∀ m ∈ ms, Alike tb (put f d v) f (opT m.o)
  | [], _, m, hm => by cases hm
  | q :: r, h, m, hm => by
    simp only [freshM, Bool.and_eq_true] at h
    rcases List.mem_cons.1 hm with rfl | hm
    · exact alike_free h.1
    · exact freshM_eval h.2 m hm
def Keeps (tb : Tab) (cl : Nat → List AV → Heap → Out) (f : Fr) (tl : List Heap) (m : Mob) : Prop := ∀ i h', i < m.c → tl[i]? = some h' → ∃ u, aop tb cl (eval tb f) h' m.o = some (m.v, u) ∧ u.getD h' = h'
theorem decM_mem : ∀ {ms : List Mob} {m : Mob}, m ∈ ms → 1 < m.c → { m with c := m.c - 1 } ∈ decM ms
  | q :: r, m, hm, hc => by
    rcases List.mem_cons.1 hm with rfl | hm
    · obtain ⟨o, v, c⟩ := m
      match c, hc with
      | c + 2, _ => simp [decM]
    · have := decM_mem hm hc
      simp only [decM]
      split
      · exact this
      · exact this
      · exact List.mem_cons_of_mem _ this
theorem addM_mem {N k lo hi : Nat} {o : AOp} {v : AV} {ms : List Mob} {m : Mob} (h : m ∈ ms) : m ∈ addM N k lo hi o v ms := by
  simp only [addM]
  cases plainO N k lo hi o with
  | true => exact h
  | false => simp only [cond_false]; simp [h]
theorem lateO_spec {N k lo hi : Nat} {d : Option Nat} {o : AOp} (h : lateO N k lo hi d o = true) : lo = k ∧ hi ≤ N ∧ freeT d o = true := by
  simp only [lateO, Bool.and_eq_true] at h
  exact ⟨Nat.eq_of_beq_eq_true h.1, Nat.le_of_ble_eq_true h.2.1, h.2.2⟩
open Classical in
theorem opsT_spec {N : Nat} : ∀ {l : List AOper} {k : Nat} {ms : List Mob} {es : List Eob} {w : List (Option (Nat × Nat))} {f : Fr} {h : Heap} {f' : Fr} {h' : Heap}, opsT tb cl N k ms es l w f h (f', h') →
    ∃ tl, heaps tb cl l w f h = some (h :: tl) ∧ (h :: tl).getLast? = some h' ∧ k + tl.length = N ∧ (∀ m ∈ ms, Keeps tb cl f tl m) ∧ ∀ (pre : List Heap), pre.length = k → (∀ e ∈ es, ∀ j g, e.lo ≤ j → pre[j]? = some g → load g e.ag e.n e.a = some e.v) → opsD tb cl (pre ++ h :: tl) l w k f = some f'
  | [], k, ms, es, w, f, h, f', h', e => by
    cases w with
    | nil =>
      simp only [opsT, Prod.mk.injEq] at e
      obtain ⟨hk, rfl, rfl⟩ := e
      exact ⟨[], by simp [heaps], rfl, by simpa using hk, fun m _ i h' _ hi => by simp at hi, fun pre hp _ => by simp [opsD, hp]⟩
    | cons => simp [opsT] at e
  | ⟨d, g, o⟩ :: l, k, ms, es, [], f, h, f', h', e => by simp [opsT] at e
  | ⟨d, gd, o⟩ :: l, k, ms, es, none :: w, f, h, f', h', e => by
    simp only [opsT] at e
    rcases e with ⟨hwt, p, es', hp, hc1, hc2, hc3, e⟩ | ⟨hwt, rfl, e⟩
    rotate_left
    · obtain ⟨tl, h1, h2, h3, h4, h5⟩ := opsT_spec e
      refine ⟨h :: tl, ?_, ?_, by simp; omega, (fun m hm => absurd hm (by simp)), fun pre hpre hes => ?_⟩
      · simp [heaps, hwt, h1]
      · simpa using h2
      · have h6 := h5 (pre ++ [h]) (by simp [hpre]) (fun x hx => absurd hx (by simp))
        simp only [List.append_assoc, List.singleton_append] at h6
        have g0 : (pre ++ h :: h :: tl)[k]? = some h := by rw [← hpre, List.getElem?_append_right (Nat.le_refl _), Nat.sub_self]; rfl
        have g1 : (pre ++ h :: h :: tl)[k + 1]? = some h := by rw [← hpre, List.getElem?_append_right (by omega), Nat.add_sub_cancel_left]; rfl
        simp only [opsD, hwt, Option.bind_some, Bool.false_eq_true, if_false, g0, g1, if_true]
        exact h6
    obtain ⟨tl, h1, h2, h3, h4, h5⟩ := opsT_spec e
    refine ⟨p.2.getD h :: tl, ?_, ?_, by simp; omega, ?_, fun pre hpre hes => ?_⟩
    · simp [heaps, hwt, hp, h1]
    · simpa using h2
    · intro m hm i h' hi hg
      have he := freshM_eval (tb := tb) (f := f) (v := p.1) hc1 m hm
      rw [← aop_alike he]
      cases i with
      | zero =>
        simp only [List.getElem?_cons_zero, Option.some.injEq] at hg
        subst hg
        exact hc2 m hm (by omega)
      | succ i =>
        simp only [List.getElem?_cons_succ] at hg
        exact h4 _ (decM_mem hm (by omega)) i h' (by simp only; omega) hg
    · have h6 := h5 (pre ++ [h]) (by simp [hpre]) (fun x hx j g hj hg => by
        rcases Nat.lt_or_ge j pre.length with hlt | hge
        · rw [List.getElem?_append_left hlt] at hg
          rcases (hc3 x hx).1 with hx' | hx'
          · exact hes x hx' j g hj hg
          · omega
        · rw [List.getElem?_append_right hge] at hg
          have : j - pre.length = 0 := by
            rcases Nat.eq_zero_or_pos (j - pre.length) with h | h
            · exact h
            · rw [List.getElem?_eq_none (by simp; omega)] at hg; cases hg
          rw [this] at hg
          simp only [List.getElem?_cons_zero, Option.some.injEq] at hg
          subst hg
          exact (hc3 x hx).2)
      simp only [List.append_assoc, List.singleton_append] at h6
      have g0 : (pre ++ h :: p.2.getD h :: tl)[k]? = some h := by rw [← hpre, List.getElem?_append_right (Nat.le_refl _), Nat.sub_self]; rfl
      have g1 : (pre ++ h :: p.2.getD h :: tl)[k + 1]? = some (p.2.getD h) := by rw [← hpre, List.getElem?_append_right (by omega), Nat.add_sub_cancel_left]; rfl
      simp only [opsD, hwt, Option.bind_some, if_true, g0, hp, g1]
      exact h6
  | ⟨d, gd, o⟩ :: l, k, ms, es, some (lo, hi) :: w, f, h, f', h', e => by
    simp only [opsT] at e
    rcases e with ⟨hwt, p, hp, hu, hfr, e⟩ | ⟨hwt, hfr, e⟩
    rotate_left
    · obtain ⟨tl, h1, h2, h3, h4, h5⟩ := opsT_spec e
      refine ⟨tl, ?_, h2, h3, fun m hm i h' hi hg => ?_, fun pre hpre hes => ?_⟩
      · simp [heaps, hwt, h1]
      · have he := freshM_eval (tb := tb) (f := f) (v := .tup []) hfr m hm
        rw [← aop_alike he]
        exact h4 m hm i h' hi hg
      · have h6 := h5 pre hpre hes
        simp only [opsD, hwt, Option.bind_some, Bool.false_eq_true, if_false]
        exact h6
    rcases e with ⟨hpl, e⟩ | ⟨hhi0, ⟨x, hx, t0, hxo, hxa, hxv, hxl⟩, e⟩
    · obtain ⟨tl, h1, h2, h3, h4, h5⟩ := opsT_spec e
      have hms : ∀ m ∈ ms, Keeps tb cl f tl m := fun m hm i h' hi hg => by
        have he := freshM_eval (tb := tb) (f := f) (v := p.1) hfr m hm
        rw [← aop_alike he]
        exact h4 m (addM_mem hm) i h' hi hg
      refine ⟨tl, ?_, h2, h3, hms, fun pre hpre hes => ?_⟩
      · simp [heaps, hwt, hp, hu, h1]
      · have h6 := h5 pre hpre hes
        have g0 : (pre ++ h :: tl)[k]? = some h := by rw [← hpre, List.getElem?_append_right (Nat.le_refl _), Nat.sub_self]; rfl
        have hlen : (pre ++ h :: tl).length = N + 1 := by simp [hpre]; omega
        have hk : ∀ j, lo ≤ j → j < lo + (hi + 1 - lo) → ∃ u, ((pre ++ h :: tl)[j]?).bind (fun h => aop tb cl (eval tb f) h o) = some (p.1, u) ∧ some (u.getD ((pre ++ h :: tl)[j]?.getD [])) = (pre ++ h :: tl)[j]? := by
          intro j hj1 hj2
          simp only [Bool.or_eq_true] at hpl
          cases hP : plainO N k lo hi o with
          | true =>
            have hP' := hP
            simp only [plainO, Bool.or_eq_true, Bool.and_eq_true] at hP'
            rcases hP' with ⟨hlo, hhi⟩ | ⟨hb, hle⟩
            · have hlo := Nat.eq_of_beq_eq_true hlo
              have hhi := Nat.eq_of_beq_eq_true hhi
              obtain rfl : j = k := by omega
              exact ⟨p.2, by rw [g0, Option.bind_some, hp], by rw [g0]; simp [hu]⟩
            · have hle := Nat.le_of_ble_eq_true hle
              have hj : j < (pre ++ h :: tl).length := by omega
              rw [List.getElem?_eq_getElem hj]
              exact ⟨none, by rw [Option.bind_some]; exact blind_same hb hp, rfl⟩
          | false =>
            have hL : lateO N k lo hi d o = true := hpl.resolve_left (by rw [hP]; simp)
            obtain ⟨hlo, hhi, hd⟩ := lateO_spec hL
            rcases Nat.lt_or_ge k j with hkj | hkj
            · have hm : (⟨o, p.1, hi - k⟩ : Mob) ∈ addM N k lo hi o p.1 ms := by
                simp only [addM, hP, cond_false]; simp
              have hj : j < (pre ++ h :: tl).length := by omega
              have hjt : (pre ++ h :: tl)[j]? = tl[j - k - 1]? := by
                rw [List.getElem?_append_right (by omega), hpre, show j - k = (j - k - 1) + 1 by omega, List.getElem?_cons_succ]; rfl
              have hjl : j - k - 1 < tl.length := by simp [hpre] at hlen; omega
              rw [hjt, List.getElem?_eq_getElem hjl]
              have := h4 _ hm (j - k - 1) _ (by simp only; omega) (List.getElem?_eq_getElem hjl)
              obtain ⟨u, e1, e2⟩ := this
              rw [aop_alike (alike_free hd)] at e1
              exact ⟨u, by rw [Option.bind_some]; exact e1, congrArg some e2⟩
            · obtain rfl : j = k := by omega
              exact ⟨p.2, by rw [g0, Option.bind_some, hp], by rw [g0]; simp [hu]⟩
        simp only [opsD, hwt, Option.bind_some, if_true, g0, hp]
        rw [if_pos (by
          rw [List.all_eq_true]
          intro j hj
          rw [List.mem_range'_1] at hj
          exact decide_eq_true (hk j hj.1 hj.2))]
        exact h6
    · obtain ⟨tl, h1, h2, h3, h4, h5⟩ := opsT_spec e
      have hms : ∀ m ∈ ms, Keeps tb cl f tl m := fun m hm i h' hi hg => by
        have he := freshM_eval (tb := tb) (f := f) (v := p.1) hfr m hm
        rw [← aop_alike he]
        exact h4 m hm i h' hi hg
      refine ⟨tl, ?_, h2, h3, hms, fun pre hpre hes => ?_⟩
      · simp [heaps, hwt, hp, hu, h1]
      · have h6 := h5 pre hpre hes
        have g0 : (pre ++ h :: tl)[k]? = some h := by rw [← hpre, List.getElem?_append_right (Nat.le_refl _), Nat.sub_self]; rfl
        have hk : ∀ j, lo ≤ j → j < lo + (hi + 1 - lo) → ∃ u, ((pre ++ h :: tl)[j]?).bind (fun h => aop tb cl (eval tb f) h o) = some (p.1, u) ∧ some (u.getD ((pre ++ h :: tl)[j]?.getD [])) = (pre ++ h :: tl)[j]? := by
          intro j hj1 hj2
          rcases Nat.lt_or_ge j k with hjk | hjk
          · have hjp : j < pre.length := by omega
            rw [List.getElem?_append_left hjp, List.getElem?_eq_getElem hjp]
            have := hes x hx j pre[j] (by omega) (List.getElem?_eq_getElem hjp)
            refine ⟨none, ?_, rfl⟩
            rw [Option.bind_some, hxo, hxv]
            simp only [aop, eval, hxa, this, val, Option.map_some]
          · obtain rfl : j = k := by omega
            exact ⟨p.2, by rw [g0, Option.bind_some, hp], by rw [g0]; simp [hu]⟩
        simp only [opsD, hwt, Option.bind_some, if_true, g0, hp]
        rw [if_pos (by
          rw [List.all_eq_true]
          intro j hj
          rw [List.mem_range'_1] at hj
          exact decide_eq_true (hk j hj.1 hj.2))]
        exact h6
theorem exec_regd {l : List AOper} {w : List (Option (Nat × Nat))} {f : Fr} {h : Heap} {n : Nat} {p : Fr × Heap} (e : opsT tb cl n 0 [] [] l w f h p) :
    exec tb cl (.regd l w) f h = some (.normal, p.1, p.2) := by
  obtain ⟨tl, h1, h2, h3, h4, h5⟩ := opsT_spec (f' := p.1) (h' := p.2) e
  have h6 := h5 [] rfl (fun e he => by cases he)
  simp only [List.nil_append] at h6
  simp only [exec, h1, Option.bind_some, List.tail_cons, h6, h2, Option.map_some]
end
structure Ob where
  o : AOp
  d : Nat
  φ : Fact
  c : Nat
def decB : List Ob → List Ob
  | [] => []
  | m :: r => match m.c with
    | 0 => decB r
    | 1 => decB r
    | c + 2 => { m with c := c + 1 } :: decB r
def freshB (d : Option Nat) : List Ob → Bool
  | [] => true
  | m :: r => (freeT d m.o && match d with | some d => !Nat.beq d m.d | none => true) && freshB d r
def T.Uni (t : T) : Prop := ∀ {P Q : Nat → Prop} {H G : Heap} {cs ds : List AV} {x : t.α}, t.R P H cs x → t.R Q G ds x → cs = ds
theorem T.Uni.V {t : T} (h : t.Uni) {P Q : Nat → Prop} {H G : Heap} {v w : AV} {x : t.α} (r : t.V P H v x) (r' : t.V Q G w x) : v = w := by
  rcases r with ⟨ha, cs, rfl, r⟩ | ⟨ha, r⟩
  · rcases r' with ⟨_, ds, rfl, r'⟩ | ⟨hb, _⟩
    · rw [h r r']
    · rw [ha] at hb; cases hb
  · rcases r' with ⟨hb, _⟩ | ⟨_, r'⟩
    · rw [ha] at hb; cases hb
    · have := h r r'
      simpa using this
def UniL : List (Σ t : T, t.α) → Prop
  | [] => True
  | p :: r => p.1.Uni ∧ UniL r
theorem UniL.eq {P Q : Nat → Prop} {H G : Heap} : ∀ {l : List (Σ t : T, t.α)} {v w : List AV}, UniL l → TupR P H v l → TupR Q G w l → v = w
  | [], [], [], _, _, _ => rfl
  | _ :: _, _ :: _, _ :: _, h, r, r' => by rw [T.Uni.V h.1 r.1 r'.1, UniL.eq h.2 r.2 r'.2]
  | [], _ :: _, _, _, r, _ => r.elim
  | [], [], _ :: _, _, _, r => r.elim
  | _ :: _, [], _, _, r, _ => r.elim
  | _ :: _, _ :: _, [], _, _, r => r.elim
def Fact.Uni : Fact → Prop
  | .val t _ => t.Uni
  | .tup l => UniL l
  | .own _ => True
  | .cp _ _ => True
  | .ep _ _ _ => True
  | .oc _ _ _ _ => True
  | .con _ => True
  | .kv _ => True
  | .fnv _ _ _ => True
  | _ => False
theorem Fact.Uni.eq {φ : Fact} (h : φ.Uni) {rv : Nat → AV} {ss : Ss} {P Q : Nat → Prop} {H G : Heap} {v w : AV} (r : FR rv ss P H φ v) (r' : FR rv ss Q G φ w) : v = w := by
  cases φ <;> simp only [Fact.Uni] at h
  case val t x => exact T.Uni.V h r r'
  case tup l =>
    obtain ⟨vs, e, h1⟩ := r
    obtain ⟨ws, e', h2⟩ := r'
    rw [e, e', UniL.eq h h1 h2]
  case own j => exact r.2.trans r'.2.symm
  case cp j o =>
    obtain ⟨_, id, e, rfl⟩ := r
    obtain ⟨_, id', e', rfl⟩ := r'
    rw [e] at e'; cases e'; rfl
  case ep j i o =>
    obtain ⟨_, id, n, e, _, rfl⟩ := r
    obtain ⟨_, id', n', e', _, rfl⟩ := r'
    rw [e] at e'; cases e'; rfl
  case oc j o s n =>
    obtain ⟨_, id, e, rfl⟩ := r
    obtain ⟨_, id', e', rfl⟩ := r'
    rw [e] at e'; cases e'; rfl
  case con c => exact r.1.trans r'.1.symm
  case kv j => exact r.2.trans r'.2.symm
  case fnv f js ks => exact r.2.trans r'.2.symm
inductive ObOk (tb : Tab) (Γ : Cx) : List Ob → Prop where
  | nil : ObOk tb Γ []
  | cons {o : AOp} {d c : Nat} {φ : Fact} {l : List Ob} (h : OpH tb Γ o (some ()) fun _ => φ) (hd : OpF tb Γ (.t d) φ) (hu : φ.Uni) (r : ObOk tb Γ l) : ObOk tb Γ (⟨o, d, φ, c⟩ :: l)
inductive ObR (f : Fr) : List Ob → List Mob → Prop where
  | nil : ObR f [] []
  | cons {o : AOp} {d c : Nat} {φ : Fact} {v : AV} {l : List Ob} {ms : List Mob} (h : get f d = v) (r : ObR f l ms) : ObR f (⟨o, d, φ, c⟩ :: l) (⟨o, v, c⟩ :: ms)
theorem ObR.dec {f : Fr} : ∀ {l : List Ob} {ms : List Mob}, ObR f l ms → ObR f (decB l) (decM ms)
  | _, _, .nil => .nil
  | _, _, .cons (c := c) h r => by
    match c with
    | 0 => exact r.dec
    | 1 => exact r.dec
    | c + 2 => exact .cons h r.dec
theorem ObR.fresh {d : Option Nat} {f : Fr} : ∀ {l : List Ob} {ms : List Mob}, ObR f l ms → freshB d l = true → freshM d ms = true
  | _, _, .nil, _ => rfl
  | _, _, .cons h r, e => by
    simp only [freshB, Bool.and_eq_true] at e
    simp only [freshM, Bool.and_eq_true]
    exact ⟨e.1.1, r.fresh e.2⟩
theorem ObR.put {d : Option Nat} {f : Fr} {w : AV} : ∀ {l : List Ob} {ms : List Mob}, ObR f l ms → freshB d l = true → ObR (put f d w) l ms
  | _, _, .nil, _ => .nil
  | _, _, .cons h r, e => by
    simp only [freshB, Bool.and_eq_true] at e
    refine .cons ?_ (r.put e.2)
    cases d with
    | none => exact h
    | some d =>
      have := e.1.2
      simp only [Bool.not_eq_true'] at this
      simp only [Am.put, get]
      rw [if_neg fun e => by rw [e, Nat.beq_refl] at this; cases this]
      exact h
theorem ObOk.spec {tb : Tab} {Γ : Cx} {E : Env} {rv : Nat → AV} {fp : Fp} {f : Fr} {H : Heap} (I : RelI E Γ rv fp f H) : ∀ {l : List Ob} {ms : List Mob}, ObOk tb Γ l → ObR f l ms → ∀ m ∈ ms, 0 < m.c → ∃ u, aop tb (den tb) (eval tb f) H m.o = some (m.v, u) ∧ u.getD H = H
  | _, _, .nil, .nil, m, hm, _ => by cases hm
  | _, _, .cons h hd hu r, .cons h' r', m, hm, hc => by
    rcases List.mem_cons.1 hm with rfl | hm
    · obtain ⟨v, u, h1, h2, h3⟩ := h E rv fp f H I () rfl
      have := hu.eq h3 (hd E rv fp f H I)
      subst this
      exact ⟨u, by rw [h1, ← h']; rfl, h2⟩
    · exact ObOk.spec I r r' m hm hc
structure Cb where
  ag : Bool
  n : Nat
  t : Nat
  off : Nat
  lo : Nat
  u : T
  x : u.α
def freshC (d : Option Nat) : List Cb → Bool
  | [] => true
  | m :: r => (match d with | some d => !Nat.beq d m.t | none => true) && freshC d r
inductive CR (f : Fr) : List Cb → List Eob → Prop where
  | nil : CR f [] []
  | cons {ag : Bool} {n t off lo id o : Nat} {u : T} {x : u.α} {v a : AV} {l : List Cb} {es : List Eob} {P : Nat → Prop} {H : Heap} (h0 : get f t = .ptr id o) (ha : a = .ptr id (o + off)) (h : u.V P H v x) (r : CR f l es) :
      CR f (⟨ag, n, t, off, lo, u, x⟩ :: l) (⟨ag, n, a, v, lo⟩ :: es)
theorem CR.put {d : Option Nat} {f : Fr} {w : AV} : ∀ {l : List Cb} {es : List Eob}, CR f l es → freshC d l = true → CR (put f d w) l es
  | _, _, .nil, _ => .nil
  | _, _, .cons h0 ha h r, e => by
    simp only [freshC, Bool.and_eq_true] at e
    refine .cons ?_ ha h (r.put e.2)
    cases d with
    | none => exact h0
    | some d =>
      have := e.1
      simp only [Bool.not_eq_true'] at this
      simp only [Am.put, get]
      rw [if_neg fun e => by rw [e, Nat.beq_refl] at this; cases this]
      exact h0
theorem CR.find {f : Fr} : ∀ {l : List Cb} {es : List Eob} {i : Nat} {c : Cb}, CR f l es → l[i]? = some c → ∃ e ∈ es, e.ag = c.ag ∧ e.n = c.n ∧ e.lo = c.lo ∧ (∃ id o, get f c.t = .ptr id o ∧ e.a = .ptr id (o + c.off)) ∧ ∃ P H, c.u.V P H e.v c.x
  | _, _, i, c, .nil, h => by simp at h
  | _, _, 0, c, .cons h0 ha h r, hc => by
    simp only [List.getElem?_cons_zero, Option.some.injEq] at hc
    subst hc
    exact ⟨_, List.mem_cons_self, rfl, rfl, rfl, ⟨_, _, h0, ha⟩, _, _, h⟩
  | _, _, i + 1, c, .cons h0 ha h r, hc => by
    simp only [List.getElem?_cons_succ] at hc
    obtain ⟨e, he, g⟩ := r.find hc
    exact ⟨e, List.mem_cons_of_mem _ he, g⟩
def LdAt (Γ : Cx) (c : Cb) : Prop := ∃ j o ps N s y o', findT Γ.ts c.t = some (.cp j o) ∧ findS Γ.ss j = some (.cells ps) ∧ findP ps (o + c.off) = some (N, .val s y, o') ∧ ∃ F : Fld s c.u o', F.get y = c.x ∧ c.ag = c.u.agg ∧ c.n = c.u.sz
theorem LdAt.spec {Γ : Cx} {c : Cb} {E : Env} {rv : Nat → AV} {fp : Fp} {f : Fr} {H : Heap} (h : LdAt Γ c) (R : RelI E Γ rv fp f H) : ∃ id o v, get f c.t = .ptr id o ∧ load H c.ag c.n (.ptr id (o + c.off)) = some v ∧ c.u.V (Pf E Γ.ss fp H) H v c.x := by
  obtain ⟨j, o, ps, N, s, y, o', h1, hj, hp, F, hx, hag, hn⟩ := h
  obtain ⟨l, id, e, hv⟩ := R.temps _ _ h1
  obtain ⟨cs, h0, h2, h3⟩ := cells_of R hj e
  obtain ⟨b', c', e0, e1, e2, e3, e4, e5, _⟩ := findP_spec h3 hp
  have hle := F.le
  have hl := s.len e4
  have hr := F.getR e4
  rw [← e5 o' c.u.sz (by omega), ← e1] at hr
  obtain ⟨v, g1, g2⟩ := T.V.of hr
  refine ⟨id, o, v, hv, ?_, by rw [← hx]; exact g2⟩
  rw [hag, hn]
  simp only [Am.load, place, h2, Option.map_some, Option.bind_some, if_pos (show o + c.off + c.u.sz ≤ cs.length by omega), g1]
inductive CbNext (Γ : Cx) (k : Nat) (C : List Cb) : List Cb → Prop where
  | nil : CbNext Γ k C []
  | new {c : Cb} {l : List Cb} (hk : c.lo = k) (h : LdAt Γ c) (r : CbNext Γ k C l) : CbNext Γ k C (c :: l)
  | old {c : Cb} {l : List Cb} (i : Nat) (hi : C[i]? = some c) (hu : c.u.Uni) (h : LdAt Γ c) (r : CbNext Γ k C l) : CbNext Γ k C (c :: l)
theorem CbNext.spec {Γ : Cx} {k : Nat} {C : List Cb} {es : List Eob} {E : Env} {rv : Nat → AV} {fp : Fp} {f : Fr} {H : Heap} (R : RelI E Γ rv fp f H) (hC : CR f C es) : ∀ {l : List Cb}, CbNext Γ k C l → ∃ es', CR f l es' ∧ ∀ e ∈ es', (e ∈ es ∨ e.lo = k) ∧ load H e.ag e.n e.a = some e.v
  | _, .nil => ⟨[], .nil, fun _ h => by cases h⟩
  | _, .new (c := c) hk h r => by
    obtain ⟨es', h1, h2⟩ := r.spec R hC
    obtain ⟨id, o, v, g1, g2, g3⟩ := h.spec R
    refine ⟨⟨c.ag, c.n, .ptr id (o + c.off), v, c.lo⟩ :: es', .cons g1 rfl g3 h1, fun e he => ?_⟩
    rcases List.mem_cons.1 he with rfl | he
    · exact ⟨.inr hk, g2⟩
    · exact h2 e he
  | _, .old (c := c) i hi hu h r => by
    obtain ⟨es', h1, h2⟩ := r.spec R hC
    obtain ⟨id, o, v, g1, g2, g3⟩ := h.spec R
    obtain ⟨e, he, e1, e2, e3, ⟨id', o', e4, e5⟩, P, H', e6⟩ := hC.find hi
    have hv : v = e.v := hu.V g3 e6
    rw [g1] at e4
    cases e4
    refine ⟨⟨c.ag, c.n, .ptr id (o + c.off), v, c.lo⟩ :: es', .cons g1 rfl g3 h1, fun x hx => ?_⟩
    rcases List.mem_cons.1 hx with rfl | hx
    · refine ⟨.inl ?_, g2⟩
      obtain ⟨ag, n, a, v', lo⟩ := e
      simp only at e1 e2 e3 e5 hv
      subst e1 e2 e3 e5 hv
      exact he
    · exact h2 x hx
structure SimD (tb : Tab) (Γ : Cx) (N k : Nat) (B : List Ob) (C : List Cb) (l : List AOper) (w : List (Option (Nat × Nat))) (ks : List Kf) {ρ : Type} (Q : Post ρ) where
  m : Option ρ
  ok : ∀ E f H, Rel E Γ f H → ∀ ms, ObR f B ms → ∀ es, CR f C es → ∀ r, m = some r → ∃ p e f' H', opsT tb (den tb) N k ms es l w f H p ∧ runk tb ks (.normal, p.1, p.2) = some (e, f', H') ∧ Q E r e f' H'
section
variable {tb : Tab} {Γ : Cx} {ks : List Kf} {ρ : Type} {Q : Post ρ} {w : List (Option (Nat × Nat))} {N k : Nat} {B : List Ob} {C C' : List Cb}
def Sim.regd {l : List AOper} (n : Nat) (s : SimD tb Γ n 0 [] [] l w ks Q) : Sim tb Γ (.regd l w) ks Q :=
  ⟨s.m, fun E f H R r hr => by
    obtain ⟨p, e, f', H', h1, h2, h3⟩ := s.ok E f H R [] .nil [] .nil r hr
    exact ⟨e, f', H', by rw [exec_regd h1]; exact h2, h3⟩⟩
def SimD.done (s : Sim tb Γ (rg false []) ks Q) : SimD tb Γ N N B C [] [] ks Q :=
  ⟨s.m, fun E f H R ms _ es _ r hr => by
    obtain ⟨e, f', H', h1, h2⟩ := s.ok E f H R r hr
    rw [exec_rg_nil] at h1
    exact ⟨(f, H), e, f', H', ⟨rfl, rfl⟩, h1, h2⟩⟩
def SimD.turn {l : List AOper} {Γ' : Cx} (h : ∀ E f H, Rel E Γ f H → Rel E Γ' f H) (s : SimD tb Γ' N k B C l w ks Q) : SimD tb Γ N k B C l w ks Q :=
  ⟨s.m, fun E f H R ms hms es hes r hr => s.ok E f H (h E f H R) ms hms es hes r hr⟩
def SimD.frzRow {l : List AOper} (j : Nat) {t : T} {g : GS t.α} (h : findS Γ.ss j = some (.row t g)) (hn : Nat.blt j parj = true) (s : SimD tb (Γ.turn j (rowF t g)) N k B C l w ks Q) : SimD tb Γ N k B C l w ks Q :=
  s.turn fun _ _ _ ⟨rv, fp, I⟩ => ⟨rv, fp, I.frzRow h hn⟩
variable {o : AOp} {l : List AOper} {y : Nat × Nat}
def chkD (N k : Nat) (B : List Ob) (C : List Cb) (y : Nat × Nat) (d : Option Nat) (o : AOp) : Bool := plainO N k y.1 y.2 o && (freshB d B && freshC d C)
theorem stepD {cl : Nat → List AV → Heap → Out} {d : Option Nat} {ms : List Mob} {es : List Eob} {f : Fr} {H : Heap} {v : AV} {u : Option Heap} {p : Fr × Heap} (hq : chkD N k B C y d o = true) (hms : ObR f B ms) (h1 : aop tb cl (eval tb f) H o = some (v, u)) (h2 : u.getD H = H)
    (g : opsT tb cl N k ms es l w (put f d v) H p) : opsT tb cl N k ms es (⟨d, none, o⟩ :: l) (some y :: w) f H p := by
  obtain ⟨lo, hi⟩ := y
  simp only [chkD, Bool.and_eq_true] at hq
  refine .inl ⟨rfl, (v, u), h1, h2, hms.fresh hq.2.1, .inl ⟨by rw [hq.1]; rfl, ?_⟩⟩
  simp only [addM, hq.1, cond_true]
  exact g
theorem chkD_fresh {d : Option Nat} (hq : chkD N k B C y d o = true) : freshB d B = true ∧ freshC d C = true := by
  simp only [chkD, Bool.and_eq_true] at hq; exact hq.2
def chkW (B : List Ob) (C' : List Cb) (d : Option Nat) : Bool := freshB d B && freshC d C'
theorem stepW {Γ' : Cx} {E : Env} {rv rv' : Nat → AV} {fp fp' : Fp} {d : Option Nat} {ms : List Mob} {es : List Eob} {f : Fr} {H : Heap} {v : AV} {u : Option Heap} (hq : chkW B C' d = true) (hb : ObOk tb Γ' B) (hc : CbNext Γ k C C') (hms : ObR f B ms) (hes : CR f C es) (I0 : RelI E Γ rv fp f H) (h1 : aop tb (den tb) (eval tb f) H o = some (v, u)) (I : RelI E Γ' rv' fp' (put f d v) (u.getD H)) :
    ∃ es', CR (put f d v) C' es' ∧ ∀ p, opsT tb (den tb) N (k + 1) (decM ms) es' l w (put f d v) (u.getD H) p → opsT tb (den tb) N k ms es (⟨d, none, o⟩ :: l) (none :: w) f H p := by
  simp only [chkW, Bool.and_eq_true] at hq
  obtain ⟨es', g1, g2⟩ := hc.spec I0 hes
  exact ⟨es', g1.put hq.2, fun p g => .inl ⟨rfl, (v, u), es', h1, hms.fresh hq.1, hb.spec I (hms.put hq.1), g2, g⟩⟩
def SimD.op {d : Nat} {β : Type} {a : Option β} {φ : β → Fact} (hq : chkD N k B C y (some d) o = true) (h : OpH tb Γ o a φ) (s : (b : β) → SimD tb (Γ.push d (φ b)) N k B C l w ks Q) : SimD tb Γ N k B C (⟨some d, none, o⟩ :: l) (some y :: w) ks Q :=
  ⟨a.bind fun b => (s b).m, fun E f H ⟨rv, fp, I⟩ ms hms es hes r hr => by
    obtain ⟨b, hb, hr⟩ := Option.bind_eq_some_iff.1 hr
    obtain ⟨v, u, h1, h2, h3⟩ := h E rv fp f H I b hb
    obtain ⟨p, e, f', H', g, g'⟩ := (s b).ok E (put f (some d) v) H ⟨rv, fp, I.push h3⟩ ms (hms.put (chkD_fresh hq).1) es (hes.put (chkD_fresh hq).2) r hr
    exact ⟨p, e, f', H', stepD hq hms h1 h2 g, g'⟩⟩
def SimD.op1 {d : Nat} {φ : Fact} (hq : chkD N k B C y (some d) o = true) (h : OpH tb Γ o (some ()) fun _ => φ) (s : SimD tb (Γ.push d φ) N k B C l w ks Q) : SimD tb Γ N k B C (⟨some d, none, o⟩ :: l) (some y :: w) ks Q :=
  ⟨s.m, (SimD.op hq h fun _ => s).ok⟩
def SimD.opM {d : Option Nat} {β : Type} {a : Option β} {Γ' : β → Cx} (hq : chkW B C' d = true) (hb : ∀ b, ObOk tb (Γ' b) B) (hc : CbNext Γ k C C') (h : OpM tb Γ d o a Γ') (s : (b : β) → SimD tb (Γ' b) N (k + 1) (decB B) C' l w ks Q) : SimD tb Γ N k B C (⟨d, none, o⟩ :: l) (none :: w) ks Q :=
  ⟨a.bind fun b => (s b).m, fun E f H ⟨rv, fp, I⟩ ms hms es hes r hr => by
    obtain ⟨b, hb', hr⟩ := Option.bind_eq_some_iff.1 hr
    obtain ⟨v, u, h1, rv', fp', h3⟩ := h E rv fp f H I b hb'
    obtain ⟨es', g1, g2⟩ := stepW (l := l) (w := w) (N := N) hq (hb b) hc hms hes I h1 h3
    have hq' := hq; simp only [chkW, Bool.and_eq_true] at hq'
    obtain ⟨p, e, f', H', g, g'⟩ := (s b).ok E _ _ ⟨rv', fp', h3⟩ _ (hms.put hq'.1).dec _ g1 r hr
    exact ⟨p, e, f', H', g2 p g, g'⟩⟩
end
end Go.Proofs.YtoegmdfkcaojlaaGreat.Am
namespace Go.Proofs.YtoegmdfkcaojlaaGreat.Am
section
variable {tb : Tab} {tB te ncc nne nws nwb nbs : Nat} {h : Heap} {id : Nat} {a b : AV}
theorem body_of {fn : AFn} {args vs : List AV} {f f' : Fr} {G : Heap} {e : Ex} (hn : args.length = fn.np) (hf : (args.zipIdx.map fun p => (p.2, p.1)) = f) (he : exec tb (den tb) fn.body f h = some (e, f', G)) (hex : e = .ret ∨ e = .normal) (hr : results f' G fn.res = some vs) :
    body tb (den tb) fn args h = some (quit fn.warm h.length G vs) := by
  simp only [body, if_pos hn, hf, he, Option.bind_some]
  rcases hex with rfl | rfl <;> simp [hr]
end
end Go.Proofs.YtoegmdfkcaojlaaGreat.Am
namespace Go.Proofs.YtoegmdfkcaojlaaGreat.Am
section
variable {tb : Tab} {tB te ncc nne nws nwb nbs : Nat}
variable {Γ : Cx} {a b : AO}
theorem RelI.dom {E : Env} {rv : Nat → AV} {fp : Fp} {f : Fr} {H G : Heap} (R : RelI E Γ rv fp f H) {j : Nat} {S : Slot} {D : Dom} {y : D.α} (hnk : keepO (findS Γ.ss j) = false) (hl : live Γ.ss j) {F' : Nat → Prop} (hlen : H.length ≤ G.length) (hG : ∀ i, i < H.length → ¬ fp j i → G[i]? = H[i]?)
    (hF : ∀ i, F' i → fp j i ∨ (H.length ≤ i ∧ i < G.length)) (hw : mentH G ≤ G.length) (hS : S = .dom D y) (hR : ∀ Q, D.R F' Q G (rv j) y) :
    ∃ rv' fp', rv' j = rv j ∧ live ((j, S) :: Γ.ss) j ∧ RelI E ⟨Γ.ts, (j, S) :: Γ.ss⟩ rv' fp' f G := by
  subst hS
  exact R.chg (j := j) (S := .dom D y) (v := rv j) (F := F') (G := G) hnk rfl hlen (fun i hi hn => hG i hi (hn hl)) (fun i hi => (hF i hi).imp (fun h => ⟨hl, h⟩) id) (fun _ => .inl rfl) hw (Nat.le_trans (R.rvlt j hl) hlen) (.inr ((R.scal j hl).resolve_left (by rw [hnk]; simp)))
    fun rv' fp' e1 e2 _ _ => by
      show D.R (fp' j) _ G (rv' j) y
      rw [e1, e2]; exact hR _
end
end Go.Proofs.YtoegmdfkcaojlaaGreat.Am
namespace Go.Proofs.YtoegmdfkcaojlaaGreat.Am
section
variable {tb : Tab} {Γ : Cx} {a b : AO} {E : Env} {rv : Nat → AV} {fp : Fp} {f : Fr} {H : Heap}
theorem o_fn {g : Nat} : OpF tb Γ (.f g) (.fnv (.func g) [] []) := fun _ _ _ _ _ _ => ⟨fun j hj => (by cases hj), rfl⟩
def FRs (rv : Nat → AV) (ss : Ss) (P : Nat → Prop) (H : Heap) : List Fact → List AV → Prop
  | [], [] => True
  | φ :: l, v :: r => FR rv ss P H φ v ∧ FRs rv ss P H l r
  | _, _ => False
variable {ks : List Kf} {ρ : Type} {Q : Post ρ}
end
end Go.Proofs.YtoegmdfkcaojlaaGreat.Am
namespace Go.Proofs.YtoegmdfkcaojlaaGreat.Am
inductive Src where
  | o (a : AO)
  | k (j : Nat)
def srcV (tb : Tab) (f : Fr) (rv : Nat → AV) : Src → AV
  | .o a => eval tb f a
  | .k j => rv j
def OpS (tb : Tab) (Γ : Cx) (s : Src) (φ : Fact) : Prop := ∀ E rv fp f H, RelI E Γ rv fp f H → FR rv Γ.ss (Pf E Γ.ss fp H) H φ (srcV tb f rv s)
inductive SrcL (tb : Tab) (Γ : Cx) : List Src → List Fact → Prop where
  | nil : SrcL tb Γ [] []
  | cons {s : Src} {φ : Fact} {l : List Src} {r : List Fact} : OpS tb Γ s φ → SrcL tb Γ l r → SrcL tb Γ (s :: l) (φ :: r)
def CallO (tb : Tab) (Γ : Cx) (o : AOp) (g : Nat) (l : List Src) : Prop :=
  ∀ E rv fp f H, RelI E Γ rv fp f H → aop tb (den tb) (eval tb f) H o = calling tb (den tb) H g (l.map (srcV tb f rv))
section
variable {tb : Tab} {Γ : Cx} {a b : AO} {E : Env} {rv : Nat → AV} {fp : Fp} {f : Fr} {H : Heap}
theorem s_o {φ : Fact} (h : OpF tb Γ a φ) : OpS tb Γ (.o a) φ := h
theorem c_call {g : Nat} {xs : List AO} {l : List Src} (hl : l = xs.map .o) : CallO tb Γ (.call g xs) g l := by
  intro E rv fp f H I
  subst hl
  simp only [aop, List.map_map]; rfl
theorem c_callv {g : Nat} {x : AO} {xs : List AO} {js ks : List Nat} {l : List Src} (ha : OpF tb Γ x (.fnv (.func g) js ks)) (hl : l = js.map .k ++ xs.map .o ++ ks.map .k) : CallO tb Γ (.callv x xs) g l := by
  intro E rv fp f H I
  subst hl
  simp only [aop, (ha E rv fp f H I).2, List.map_append, List.map_map]; rfl
theorem SrcL.spec (I : RelI E Γ rv fp f H) : ∀ {l : List Src} {r : List Fact}, SrcL tb Γ l r → FRs rv Γ.ss (Pf E Γ.ss fp H) H r (l.map (srcV tb f rv))
  | _, _, .nil => trivial
  | _, _, .cons h k => ⟨h E rv fp f H I, k.spec I⟩
def argF : Nat → List Fact → Ts
  | _, [] => []
  | k, φ :: r => (k, φ) :: argF (k + 1) r
def frameOf (vs : List AV) (k : Nat) : Fr := (vs.zipIdx k).map fun p => (p.2, p.1)
theorem argF_rel {P : Nat → Prop} {ss : Ss} : ∀ {r : List Fact} {vs : List AV} {k : Nat}, FRs rv ss P H r vs → ∀ t φ, findT (argF k r) t = some φ → k ≤ t ∧ FR rv ss P H φ (get (frameOf vs k) t)
  | [], [], _, _, t, φ, e => by simp [argF, findT] at e
  | ψ :: r, v :: vs, k, h, t, φ, e => by
    simp only [argF, findT] at e
    simp only [frameOf, List.zipIdx_cons, List.map_cons, get]
    split at e
    · rename_i hk
      cases e
      subst hk
      exact ⟨Nat.le_refl _, by rw [if_pos rfl]; exact h.1⟩
    · rename_i hk
      obtain ⟨h1, h2⟩ := argF_rel (k := k + 1) h.2 t φ e
      exact ⟨by omega, by rw [if_neg hk]; exact h2⟩
def ghosts (J : Nat) : Ts → Ss → Ss
  | [], ss => ss
  | (t, φ) :: r, ss => (J + t, .ghost φ) :: ghosts J r ss
def ghostOk (Γ : Cx) (J : Nat) : Ts → Prop
  | [] => True
  | (t, φ) :: r => (findT Γ.ts t = some φ ∧ findS Γ.ss (J + t) = none) ∧ ghostOk Γ J r
def ghostLt (J : Nat) : Ss → Bool
  | [] => true
  | (j, .ghost _) :: r => Nat.blt j J && ghostLt J r
  | _ :: r => ghostLt J r
theorem ghostLt_find {J : Nat} : ∀ {ss : Ss} {j : Nat} {φ : Fact}, ghostLt J ss = true → findS ss j = some (.ghost φ) → j < J
  | [], _, _, _, e => by simp [findS] at e
  | (u, S) :: r, j, φ, h, e => by
    simp only [findS] at e
    split at e
    · rename_i hu
      cases e
      simp only [ghostLt, Bool.and_eq_true] at h
      have := h.1
      rw [blt_iff] at this
      omega
    · refine ghostLt_find (ss := r) ?_ e
      cases S <;> simp only [ghostLt, Bool.and_eq_true] at h <;> first | exact h.2 | exact h
theorem ghosts_find {J : Nat} {ss : Ss} : ∀ {l : Ts} {j : Nat}, findS (ghosts J l ss) j = findS ss j ∨ ∃ t φ, j = J + t ∧ findT l t = some φ ∧ findS (ghosts J l ss) j = some (.ghost φ)
  | [], _ => .inl rfl
  | (t, φ) :: r, j => by
    simp only [ghosts, findS]
    by_cases hj : J + t = j
    · rw [if_pos hj]
      exact .inr ⟨t, φ, hj.symm, by simp [findT], rfl⟩
    · rw [if_neg hj]
      rcases ghosts_find (J := J) (ss := ss) (l := r) (j := j) with h | ⟨t', φ', h1, h2, h3⟩
      · exact .inl h
      · refine .inr ⟨t', φ', h1, ?_, h3⟩
        simp only [findT]
        rw [if_neg (fun e => hj (by rw [h1, e]))]
        exact h2
theorem ghostOk_find {J : Nat} : ∀ {l : Ts} {t : Nat} {φ : Fact}, ghostOk Γ J l → findT l t = some φ → findT Γ.ts t = some φ ∧ findS Γ.ss (J + t) = none
  | [], _, _, _, e => by simp [findT] at e
  | (u, ψ) :: r, t, φ, h, e => by
    simp only [findT] at e
    split at e
    · rename_i hu
      cases e
      subst hu
      exact h.1
    · exact ghostOk_find h.2 e
theorem RelI.enter (I : RelI E Γ rv fp f H) {J : Nat} {L : Ts} {srcs : List Src} {φs : List Fact} (hL : ghostOk Γ J L) (hg : ghostLt J Γ.ss = true) (ha : SrcL tb Γ srcs φs) :
    RelI { E with g := fun j => if J ≤ j then get f (j - J) else E.g j } ⟨argF 0 φs, ghosts J L Γ.ss⟩ rv fp (frameOf (srcs.map (srcV tb f rv)) 0) H := by
  have hlv : ∀ k, live (ghosts J L Γ.ss) k ↔ live Γ.ss k := by
    intro k
    rcases ghosts_find (J := J) (ss := Γ.ss) (l := L) (j := k) with h | ⟨t, φ, rfl, h2, h3⟩
    · simp only [live, h]
    · have := (ghostOk_find hL h2).2
      simp only [live, h3, this, liveO]
  have hkeep : ∀ k, keepO (findS (ghosts J L Γ.ss) k) = keepO (findS Γ.ss k) := by
    intro k
    rcases ghosts_find (J := J) (ss := Γ.ss) (l := L) (j := k) with h | ⟨t, φ, rfl, h2, h3⟩
    · rw [h]
    · rw [h3, (ghostOk_find hL h2).2]; rfl
  have hP : ∀ i, Pf E Γ.ss fp H i → Pf E (ghosts J L Γ.ss) fp H i := fun i => Pf.same fun k l => (hlv k).1 l
  have hFR : ∀ φ v, FR rv Γ.ss (Pf E Γ.ss fp H) H φ v → FR rv (ghosts J L Γ.ss) (Pf E (ghosts J L Γ.ss) fp H) H φ v := fun φ v h =>
    h.mono (fun i hi => ⟨hP i hi, rfl⟩) fun k _ l => ⟨⟨(hlv k).2 l, fun e => by rw [hkeep]; exact e⟩, rfl⟩
  have hFRs : ∀ {l : List Fact} {vs : List AV}, FRs rv Γ.ss (Pf E Γ.ss fp H) H l vs → FRs rv (ghosts J L Γ.ss) (Pf E (ghosts J L Γ.ss) fp H) H l vs := by
    intro l
    induction l with
    | nil => intro vs h; cases vs <;> exact h
    | cons φ l ih =>
      intro vs h
      cases vs with
      | nil => exact h
      | cons v vs => exact ⟨hFR φ v h.1, ih h.2⟩
  refine ⟨I.le, I.base, I.wf, fun j i l e => I.fplt j i ((hlv j).1 l) e, fun j l => I.rvlt j ((hlv j).1 l), fun j l => (I.scal j ((hlv j).1 l)).imp (fun e => by rw [hkeep]; exact e) id, fun j k i l l' => I.inj j k i ((hlv j).1 l) ((hlv k).1 l'), ?_, ?_, ?_⟩
  · intro j S e
    rcases ghosts_find (J := J) (ss := Γ.ss) (l := L) (j := j) with h | ⟨t, φ, rfl, h2, h3⟩
    · replace e : findS (ghosts J L Γ.ss) j = some S := e
      rw [h] at e
      exact (I.slots j S e).keep rfl rfl (fun i hi => ⟨hP i hi, rfl⟩) (Nat.le_refl _) (fun _ _ => rfl) (fun _ _ _ _ k _ l => ⟨⟨(hlv k).2 l, fun e => by rw [hkeep]; exact e⟩, rfl⟩) (fun _ _ k _ l => ⟨⟨(hlv k).2 l, fun e => by rw [hkeep]; exact e⟩, rfl⟩) (fun _ _ _ k _ l => ⟨⟨(hlv k).2 l, fun e => by rw [hkeep]; exact e⟩, rfl⟩)
    · replace e : findS (ghosts J L Γ.ss) (J + t) = some S := e
      rw [h3] at e; cases e; trivial
  · intro t φ e
    exact (argF_rel (hFRs (ha.spec I)) t φ e).2
  · intro j φ e
    show FR rv (ghosts J L Γ.ss) _ H φ (if J ≤ j then get f (j - J) else E.g j)
    rcases ghosts_find (J := J) (ss := Γ.ss) (l := L) (j := j) with h | ⟨t, ψ, rfl, h2, h3⟩
    · replace e : findS (ghosts J L Γ.ss) j = some (.ghost φ) := e
      rw [h] at e
      have := ghostLt_find hg e
      rw [if_neg (by omega)]
      exact hFR φ _ (I.gh j φ e)
    · replace e : findS (ghosts J L Γ.ss) (J + t) = some (.ghost φ) := e
      rw [h3] at e
      cases e
      rw [if_pos (by omega), show J + t - J = t by omega]
      exact hFR _ _ (I.temps t _ (ghostOk_find hL h2).1)
def QIn {τ : Type} (res : List ARes) (Γr : τ → Cx) : Post τ := fun E p e f H =>
  (e = .ret ∨ e = .normal) ∧ ∃ vs, results f H res = some vs ∧ Rel E (Γr p) (frameOf vs 0) H
def ResG (Γ : Cx) (a : ARes) (φ : Fact) : Prop := ∀ E rv fp f H, RelI E Γ rv fp f H → ∀ r vs, results f H r = some vs → ∃ v, results f H (a :: r) = some (v :: vs) ∧ FR rv Γ.ss (Pf E Γ.ss fp H) H φ v
inductive ResL (Γ : Cx) : List ARes → List Fact → Prop where
  | nil : ResL Γ [] []
  | cons {a : ARes} {φ : Fact} {l : List ARes} {r : List Fact} : ResG Γ a φ → ResL Γ l r → ResL Γ (a :: l) (φ :: r)
theorem ResL.spec (I : RelI E Γ rv fp f H) : ∀ {l : List ARes} {r : List Fact}, ResL Γ l r → ∃ vs, results f H l = some vs ∧ FRs rv Γ.ss (Pf E Γ.ss fp H) H r vs
  | _, _, .nil => ⟨[], rfl, trivial⟩
  | _, _, .cons h k => by
    obtain ⟨vs, e, g⟩ := k.spec I
    obtain ⟨v, e', g'⟩ := h E rv fp f H I _ vs e
    exact ⟨v :: vs, e', g', g⟩
theorem rg_t {n : Nat} {φ : Fact} (h : findT Γ.ts n = some φ) : ResG Γ (.tmp n) φ := fun _ _ _ _ _ I r vs hr => ⟨_, by simp only [results, hr, Option.map_some], I.temps n _ h⟩
variable {ks : List Kf} {ρ τ : Type} {Q : Post ρ}
def Sim.retIn {res : List ARes} {Γr : τ → Cx} {φs : List Fact} (p : τ) (h : ResL Γ res φs) (hs : Sub (Γr p) ⟨argF 0 φs, Γ.ss⟩) : Sim tb Γ .ret ks (QIn res Γr) :=
  Sim.retK ⟨some p, fun E f H ⟨rv, fp, I⟩ r hr => by
    cases hr
    obtain ⟨vs, e, g⟩ := h.spec I
    refine ⟨.ret, f, H, by simp [exec, runk], .inl rfl, vs, e, rv, fp, RelI.sub (Γ := ⟨argF 0 φs, Γ.ss⟩) ?_ hs⟩
    exact ⟨I.le, I.base, I.wf, I.fplt, I.rvlt, I.scal, I.inj, I.slots, fun t φ e => (argF_rel g t φ e).2, I.gh⟩⟩
inductive BackR (tsr : Ts) : Nat → Fact → Prop where
  | none : BackR tsr 0 (.tup [])
  | one {φ : Fact} : findT tsr 0 = some φ → BackR tsr 1 φ
  | vals {n : Nat} {l : List (Σ t : T, t.α)} (hn : l.length = n + 2) (h : ∀ (i : Nat) (p : Σ t : T, t.α), l[i]? = some p → findT tsr i = some (.val p.1 p.2)) : BackR tsr (n + 2) (.tup l)
  | kvs {n : Nat} {js : List Nat} (hn : js.length = n + 2) (h : ∀ i j, js[i]? = some j → findT tsr i = some (.kv j)) : BackR tsr (n + 2) (.tupk js)
  | junk {n : Nat} : BackR tsr n .junk
theorem frameOf_get {vs : List AV} {i : Nat} {v : AV} (h : vs[i]? = some v) : get (frameOf vs 0) i = v := by
  have key : ∀ (vs : List AV) (k i : Nat) (v : AV), vs[i]? = some v → get (frameOf vs k) (k + i) = v := by
    intro vs
    induction vs with
    | nil => intro k i v h; simp at h
    | cons w vs ih =>
      intro k i v h
      simp only [frameOf, List.zipIdx_cons, List.map_cons, get]
      cases i with
      | zero => simp only [List.getElem?_cons_zero, Option.some.injEq] at h; rw [if_pos (by omega)]; exact h
      | succ i =>
        rw [if_neg (by omega)]
        have := ih (k + 1) i v (by simpa using h)
        rw [show k + (i + 1) = k + 1 + i by omega]
        exact this
  have := key vs 0 i v h
  rwa [Nat.zero_add] at this
theorem BackR.spec {Γr : Cx} {n : Nat} {φ : Fact} {vs : List AV} (I : RelI E Γr rv fp (frameOf vs 0) H) (hn : vs.length = n) (h : BackR Γr.ts n φ) : FR rv Γr.ss (Pf E Γr.ss fp H) H φ (packed vs) := by
  cases h with
  | none =>
    have : vs = [] := List.eq_nil_of_length_eq_zero hn
    subst this
    exact ⟨[], rfl, trivial⟩
  | one h =>
    match vs, hn with
    | [v], _ =>
      have := I.temps 0 _ h
      rw [frameOf_get (i := 0) (v := v) rfl] at this
      exact this
  | @vals m l hl h =>
    have hp : packed vs = .tup vs := by
      match vs, hn with
      | _ :: _ :: _, _ => rfl
    rw [hp]
    refine ⟨vs, rfl, ?_⟩
    have key : ∀ (vs : List AV) (l : List (Σ t : T, t.α)), vs.length = l.length → (∀ (i : Nat) (v : AV) (p : Σ t : T, t.α), vs[i]? = some v → l[i]? = some p → p.1.V (Pf E Γr.ss fp H) H v p.2) → TupR (Pf E Γr.ss fp H) H vs l := by
      intro vs
      induction vs with
      | nil => intro l h _; cases l <;> first | trivial | simp at h
      | cons v vs ih =>
        intro l h g
        cases l with
        | nil => simp at h
        | cons p l => exact ⟨g 0 v p rfl rfl, ih l (by simpa using h) fun i w q a b => g (i + 1) w q (by simpa using a) (by simpa using b)⟩
    refine key vs l (by omega) fun i v p a b => ?_
    have := I.temps i _ (h i p b)
    rw [frameOf_get a] at this
    exact this
  | @kvs m js hl h =>
    have hp : packed vs = .tup vs := by
      match vs, hn with
      | _ :: _ :: _, _ => rfl
    rw [hp]
    have hv : vs = js.map rv := by
      apply List.ext_getElem?
      intro i
      rcases Nat.lt_or_ge i vs.length with hi | hi
      · have hj : i < js.length := by omega
        have := (I.temps i _ (h i js[i] (List.getElem?_eq_getElem hj))).2
        rw [frameOf_get (List.getElem?_eq_getElem hi)] at this
        rw [List.getElem?_eq_getElem hi, List.getElem?_map, List.getElem?_eq_getElem hj, this]; rfl
      · rw [List.getElem?_eq_none hi, List.getElem?_eq_none (by rw [List.length_map]; omega)]
    refine ⟨fun j hj => ?_, by rw [hv]⟩
    obtain ⟨i, hi, rfl⟩ := List.mem_iff_getElem.1 hj
    exact (I.temps i _ (h i _ (List.getElem?_eq_getElem hi))).1 _ (by simp)
  | junk => trivial
def backT (Γr : Cx) (ss : Ss) (J : Nat) : Ts → Prop
  | [] => True
  | (t, φ) :: r => (findS Γr.ss (J + t) = some (.ghost φ) ∧ refOk ss φ) ∧ backT Γr ss J r
structure BackOk (Γr Γk : Cx) (J : Nat) (d : Option Nat) (n : Nat) : Prop where
  ss : subS Γr Γk.ss Γk.ss
  gl : ghostLt J Γk.ss = true
  ts : match d with
    | none => backT Γr Γk.ss J Γk.ts
    | some d => ∃ φ r, Γk.ts = (d, φ) :: r ∧ BackR Γr.ts n φ ∧ refOk Γk.ss φ ∧ backT Γr Γk.ss J r
theorem BackOk.some' {Γr : Cx} {ss : Ss} {J d n : Nat} {φ : Fact} {r : Ts} (h1 : subS Γr ss ss) (h2 : ghostLt J ss = true) (h3 : BackR Γr.ts n φ) (h4 : refOk ss φ) (h5 : backT Γr ss J r) : BackOk Γr ⟨(d, φ) :: r, ss⟩ J (some d) n := ⟨h1, h2, φ, r, rfl, h3, h4, h5⟩
theorem backT_find {Γr : Cx} {ss : Ss} {J : Nat} : ∀ {l : Ts} {t : Nat} {φ : Fact}, backT Γr ss J l → findT l t = some φ → findS Γr.ss (J + t) = some (.ghost φ) ∧ refOk ss φ
  | [], _, _, _, e => by simp [findT] at e
  | (u, ψ) :: r, t, φ, h, e => by
    simp only [findT] at e
    split at e
    · rename_i hu; cases e; subst hu; exact h.1
    · exact backT_find h.2 e
theorem RelI.back {Γr Γk : Cx} {J n : Nat} {d : Option Nat} {vs : List AV} {f : Fr} (I : RelI { E with g := fun j => if J ≤ j then get f (j - J) else E.g j } Γr rv fp (frameOf vs 0) H) (hn : vs.length = n) (hb : BackOk Γr Γk J d n) :
    RelI E Γk rv fp (put f d (packed vs)) H := by
  have S : Sub ⟨[], Γk.ss⟩ Γr := ⟨trivial, hb.ss⟩
  have I0 := I.sub S
  have hlv : ∀ k, live Γk.ss k → live Γr.ss k := by
    intro k l
    cases e : findS Γk.ss k with
    | none => simp only [live, e] at l; exact l.elim
    | some S =>
      have := (subS_find hb.ss e).1
      simp only [live, e] at l
      simp only [live, this]; exact l
  have hP : ∀ i, Pf E Γr.ss fp H i → Pf E Γk.ss fp H i := fun i => Pf.same hlv
  have hsame : ∀ φ, refOk Γk.ss φ → Same rv rv Γr.ss Γk.ss φ := fun φ r j hj l => by
    have hl := (refOk_spec r j hj).1
    refine ⟨⟨hl, fun e => ?_⟩, rfl⟩
    cases e' : findS Γk.ss j with
    | none => simp only [live, e'] at hl; exact hl.elim
    | some S => rw [(subS_find hb.ss e').1] at e; exact e
  have hFR : ∀ φ v, refOk Γk.ss φ → FR rv Γr.ss (Pf E Γr.ss fp H) H φ v → FR rv Γk.ss (Pf E Γk.ss fp H) H φ v := fun φ v r h => h.mono (fun i hi => ⟨hP i hi, rfl⟩) (hsame φ r)
  have hback : ∀ {l : Ts}, backT Γr Γk.ss J l → ∀ t φ, findT l t = some φ → FR rv Γk.ss (Pf E Γk.ss fp H) H φ (get f t) := by
    intro l hl t φ e
    obtain ⟨h1, h2⟩ := backT_find hl e
    have := I.gh _ _ h1
    simp only [if_pos (show J ≤ J + t by omega), show J + t - J = t by omega] at this
    exact hFR φ _ h2 this
  refine ⟨I0.le, I0.base, I0.wf, I0.fplt, I0.rvlt, I0.scal, I0.inj, I0.slots, ?_, ?_⟩
  · intro t φ e
    have hts := hb.ts
    cases d with
    | none => exact hback hts t φ e
    | some d =>
      obtain ⟨ψ, r, hr, h1, h2, h3⟩ := hts
      rw [hr] at e
      simp only [findT] at e
      simp only [put, get]
      split at e
      · rename_i hd
        cases e
        rw [if_pos hd]
        have h1' := h1.spec I hn
        exact hFR _ _ h2 h1'
      · rename_i hd
        rw [if_neg hd]
        exact hback h3 t φ e
  · intro j φ e
    have h1 := ghostLt_find hb.gl e
    have := I0.gh j φ e
    simp only [if_neg (show ¬ J ≤ j by omega)] at this
    exact this
structure Kont (tb : Tab) {τ : Type} (Γk : τ → Cx) (c : AC) (ks : List Kf) {ρ : Type} (Q : Post ρ) where
  m : τ → Option ρ
  ok : ∀ p E f H, Rel E (Γk p) f H → ∀ r, m p = some r → ∃ e f' H', (exec tb (den tb) c f H).bind (runk tb ks) = some (e, f', H') ∧ Q E r e f' H'
def Kont.one {Γk : τ → Cx} {c : AC} (k : (p : τ) → Sim tb (Γk p) c ks Q) : Kont tb Γk c ks Q := ⟨fun p => (k p).m, fun p => (k p).ok⟩
theorem results_len : ∀ {l : List ARes} {vs : List AV}, results f H l = some vs → vs.length = l.length
  | [], vs, h => by simp only [results, Option.some.injEq] at h; subst h; rfl
  | .tmp t :: r, vs, h => by
    simp only [results] at h
    obtain ⟨v, hv, rfl⟩ := Option.map_eq_some_iff.1 h
    simp [results_len hv]
  | .cell ag n t :: r, vs, h => by
    simp only [results] at h
    obtain ⟨w, hw, h⟩ := Option.bind_eq_some_iff.1 h
    obtain ⟨v, hv, rfl⟩ := Option.map_eq_some_iff.1 h
    simp [results_len hv]
theorem inl_eq {g : Nat} {fn : AFn} {o : AOp} {d : Option Nat} {srcs : List Src} {φs : List Fact} {J n : Nat} {L : Ts} {Γr Γk : τ → Cx} (hf : tb.prim g = none ∧ tb.fns g = some fn) (hw : fn.warm = true) (hnp : fn.np = srcs.length) (hn : n = fn.res.length)
    (hc : CallO tb Γ o g srcs) (ha : SrcL tb Γ srcs φs) (hL : ghostOk Γ J L) (hg : ghostLt J Γ.ss = true) (s : Sim tb ⟨argF 0 φs, ghosts J L Γ.ss⟩ fn.body [] (QIn fn.res Γr)) (hb : ∀ p, BackOk (Γr p) (Γk p) J d n) (I : RelI E Γ rv fp f H) {p : τ} (hp : s.m = some p) :
    ∃ v H', aop tb (den tb) (eval tb f) H o = some (v, some H') ∧ Rel E (Γk p) (put f d v) H' := by
  have R := I.enter (tb := tb) hL hg ha
  obtain ⟨e, f', H', h1, h2, vs, h3, rv', fp', h4⟩ := s.ok _ _ _ ⟨_, _, R⟩ p hp
  have h1' : exec tb (den tb) fn.body (frameOf (srcs.map (srcV tb f rv)) 0) H = some (e, f', H') := by
    obtain ⟨q, hq, h1⟩ := Option.bind_eq_some_iff.1 h1
    rw [hq, ← h1]; rfl
  have hbody : body tb (den tb) fn (srcs.map (srcV tb f rv)) H = some (packed vs, some H') := by
    have := body_of (tb := tb) (h := H) (fn := fn) (args := srcs.map (srcV tb f rv)) (by rw [List.length_map, hnp]) rfl h1' h2 h3
    rw [this, hw]; rfl
  refine ⟨packed vs, H', ?_, rv', fp', h4.back (by rw [hn]; exact results_len h3) (hb p)⟩
  rw [hc E rv fp f H I]
  simp only [calling, hf.1]
  rw [den_eq, hf.2]
  exact hbody
def Sim.inl {g : Nat} {fn : AFn} {o : AOp} {d : Option Nat} {rest : List AOper} {srcs : List Src} {φs : List Fact} {n : Nat} {L : Ts} {Γr : τ → Cx} (J : Nat) (Γk : τ → Cx) (hf : tb.prim g = none ∧ tb.fns g = some fn) (hw : fn.warm = true) (hnp : fn.np = srcs.length) (hn : n = fn.res.length)
    (hc : CallO tb Γ o g srcs) (ha : SrcL tb Γ srcs φs) (hL : ghostOk Γ J L) (hg : ghostLt J Γ.ss = true) (s : Sim tb ⟨argF 0 φs, ghosts J L Γ.ss⟩ fn.body [] (QIn fn.res Γr)) (hb : ∀ p, BackOk (Γr p) (Γk p) J d n) (k : Kont tb Γk (rg false rest) ks Q) : Sim tb Γ (rg false (⟨d, none, o⟩ :: rest)) ks Q :=
  ⟨s.m.bind k.m, fun E f H ⟨rv, fp, I⟩ r hr => by
    obtain ⟨p, hp, hr⟩ := Option.bind_eq_some_iff.1 hr
    obtain ⟨v, H', h1, h2⟩ := inl_eq hf hw hnp hn hc ha hL hg s hb I hp
    obtain ⟨e, f', H2, h4, h5⟩ := k.ok p E _ _ h2 r hr
    exact ⟨e, f', H2, by rw [exec_reg_cons h1]; exact h4, h5⟩⟩
inductive SrcA (tb : Tab) (Γ : Cx) : (As : List T) → List Src → Res As → Prop where
  | nil : SrcA tb Γ [] [] ()
  | one {t : T} {s : Src} {x : t.α} : OpS tb Γ s (.val t x) → SrcA tb Γ [t] [s] x
  | cons {t u : T} {As : List T} {s : Src} {l : List Src} {x : t.α} {y : Res (u :: As)} : OpS tb Γ s (.val t x) → SrcA tb Γ (u :: As) l y → SrcA tb Γ (t :: u :: As) (s :: l) (x, y)
theorem SrcA.spec (R : RelI E Γ rv fp f H) : ∀ {As : List T} {l : List Src} {x : Res As}, SrcA tb Γ As l x → VsR (Pf E Γ.ss fp H) H As (l.map (srcV tb f rv)) x
  | _, _, _, .nil => rfl
  | _, _, _, .one h => ⟨_, rfl, h E rv fp f H R⟩
  | _, _, _, .cons h k => ⟨_, _, rfl, h E rv fp f H R, k.spec R⟩
theorem h_callS {g : Nat} {As Rs : List T} {F : Res As → Option (Res Rs)} {o : AOp} {l : List Src} {x : Res As} (sp : Spec tb g As Rs F) (hc : CallO tb Γ o g l) (hx : SrcA tb Γ As l x) : OpH tb Γ o (F x) fun r => outF Rs r := by
  intro E rv fp f H R r hr
  obtain ⟨v, u, h1, h2, h3⟩ := (sp (Pf E Γ.ss fp H) H _ x R.ltP R.wf (hx.spec R) r hr).call
  exact ⟨v, u, by rw [hc E rv fp f H R]; exact h1, h2, outF_rel h3⟩
theorem h_callS1 {g : Nat} {As : List T} {t : T} {F : Res As → Option (Res [t])} {o : AOp} {l : List Src} {x : Res As} (sp : Spec tb g As [t] F) (hc : CallO tb Γ o g l) (hx : SrcA tb Γ As l x) : OpH tb Γ o (F x) fun r : t.α => .val t r := h_callS sp hc hx
end
end Go.Proofs.YtoegmdfkcaojlaaGreat.Am
namespace Go.Proofs.YtoegmdfkcaojlaaGreat.Am
section
variable {tb : Tab} {Γ : Cx} {a b : AO} {E : Env} {rv : Nat → AV} {fp : Fp} {f : Fr} {H : Heap} {ks : List Kf} {ρ : Type} {Q : Post ρ}
end
end Go.Proofs.YtoegmdfkcaojlaaGreat.Am
namespace Go.Proofs.YtoegmdfkcaojlaaGreat.Am
theorem run_gd_app {tb : Tab} {q : Bool} {g : Nat} {w : Bool} {R : List AOper} : ∀ {l : List AOper} {f : Fr} {H : Heap}, get f g = .b w → g ∉ dsts l → exec tb (den tb) (rg q (l.map (gd g w) ++ R)) f H = exec tb (den tb) (rg q (l ++ R)) f H
  | [], _, _, _, _ => rfl
  | o :: l, f, H, h, hn => by
    have hd : o.d ≠ some g := fun e => hn (by simp [dsts, e])
    have hn' : g ∉ dsts l := fun e => hn (by
      simp only [dsts, List.filterMap_cons] at e ⊢
      cases o.d <;> simp [e])
    have hwt : wanted f (gd g w o).g = wanted f o.g := by
      cases ho : o.g with
      | none => simp [gd, ho, wanted, h]
      | some p => simp [gd, ho]
    have hoo : (gd g w o).o = o.o := by cases ho : o.g <;> simp [gd, ho]
    have hod : (gd g w o).d = o.d := by cases ho : o.g <;> simp [gd, ho]
    have ih : ∀ v H', exec tb (den tb) (rg q (l.map (gd g w) ++ R)) (put f o.d v) H' = exec tb (den tb) (rg q (l ++ R)) (put f o.d v) H' := fun v H' => run_gd_app (by rw [wanted_put (w := w) hd]; exact h) hn'
    cases q with
    | true =>
      have ih' : ∀ v H', opsQ tb (den tb) H' (l.map (gd g w) ++ R) (put f o.d v) = opsQ tb (den tb) H' (l ++ R) (put f o.d v) := fun v H' => by
        have := ih v H'
        simp only [rg, if_true, exec] at this
        cases h1 : opsQ tb (den tb) H' (l.map (gd g w) ++ R) (put f o.d v) <;> cases h2 : opsQ tb (den tb) H' (l ++ R) (put f o.d v) <;> simp_all
      simp only [rg, if_true, exec, List.map_cons, List.cons_append, opsQ, hwt, hoo, hod, ih']
    | false =>
      have ih' : ∀ v H', ops tb (den tb) (l.map (gd g w) ++ R) (put f o.d v) H' = ops tb (den tb) (l ++ R) (put f o.d v) H' := fun v H' => by
        have := ih v H'
        simp only [rg, Bool.false_eq_true, if_false, exec] at this
        cases h1 : ops tb (den tb) (l.map (gd g w) ++ R) (put f o.d v) H' <;> cases h2 : ops tb (den tb) (l ++ R) (put f o.d v) H' <;> simp_all [Prod.ext_iff]
      simp only [rg, Bool.false_eq_true, if_false, exec, List.map_cons, List.cons_append, ops, hwt, hoo, hod, ih']
section
variable {tb : Tab} {Γ : Cx} {a b : AO} {ks : List Kf} {ρ : Type} {Q : Post ρ}
def Sim.andI {q : Bool} {L l rest : List AOper} {g t d : Nat} {b : Bool} (Γk : Cx) (n : Nat) (og : findT Γ.ts g = some (.val T.b b)) (h : splitG g true n L = some (l, ⟨some d, none, .pick (.t g) (.t t) (.k (.b false))⟩ :: rest)) (hc : chkG g l Γ.ts = true) (hs : ∀ z, Sub (Γk.push d (.val T.b z)) (Γ.push d (.val T.b z)))
    (k : (z : Bool) → Sim tb (Γk.push d (.val T.b z)) (rg q rest) ks Q)
    (main : ((z : Bool) → Sim tb (Γk.push d (.val T.b z)) (rg q rest) ks Q) → Sim tb (Γ.push g (.val T.b true)) (rg q (l ++ ⟨some d, none, .pick (.t g) (.t t) (.k (.b false))⟩ :: rest)) ks Q) : Sim tb Γ (rg q L) ks Q :=
  ⟨if b = true then (main k).m else (k false).m, fun E f H ⟨rv, fp, I⟩ r hr => by
    have hL := splitG_spec h
    simp only [chkG, Bool.and_eq_true, Bool.not_eq_true'] at hc
    obtain ⟨hc1, hc2, hc3⟩ := hc
    have hg := T.b_V.1 (I.temps g _ og)
    have hng := memN_spec hc2
    cases b with
    | true =>
      obtain ⟨e, f', H', h4, h5⟩ := (main k).ok E f H ⟨rv, fp, I.le, I.base, I.wf, I.fplt, I.rvlt, I.scal, I.inj, I.slots, fun u φ e => by
        simp only [Cx.push, findT] at e
        split at e
        · rename_i hu; cases e; subst hu; exact T.b_V.2 hg
        · exact I.temps u φ e, I.gh⟩ r (by simpa using hr)
      exact ⟨e, f', H', by rw [hL, run_gd_app hg hng]; exact h4, h5⟩
    | false =>
      obtain ⟨f', h1, h2⟩ := skip_gd (tb := tb) (q := q) (w := true) (H := H) hg hng hc1 (by simp)
      have hp : aop tb (den tb) (eval tb f') H (.pick (.t g) (.t t) (.k (.b false))) = some (.b false, none) := by
        simp only [aop, eval, h2 g hng, hg]; rfl
      have I' : RelI E Γ rv fp f' H := I.fr fun u φ e => h2 u (apart_find hc3 e)
      obtain ⟨e, f2, H2, h4, h5⟩ := (k false).ok E _ H ⟨rv, fp, (put_b I').sub (hs _)⟩ r (by simpa using hr)
      exact ⟨e, f2, H2, by rw [hL, exec_rg_app h1, exec_rg_cons hp rfl]; exact h4, h5⟩⟩
def Sim.pickI {Γ0 : Cx} {q : Bool} {rest : List AOper} {g d : Nat} {x w : Bool} {y z : AO} (og : findT Γ.ts g = some (.val T.b w)) (ht : OpF tb Γ (bif w then y else z) (.val T.b x)) (hs : Sub (Γ0.push d (.val T.b x)) (Γ.push d (.val T.b x)))
    (k : (z : Bool) → Sim tb (Γ0.push d (.val T.b z)) (rg q rest) ks Q) : Sim tb Γ (rg q (⟨some d, none, .pick (.t g) y z⟩ :: rest)) ks Q :=
  ⟨(k x).m, fun E f H ⟨rv, fp, I⟩ r hr => by
    have hg := T.b_V.1 (I.temps g _ og)
    have hp : aop tb (den tb) (eval tb f) H (.pick (.t g) y z) = some (.b x, none) := by
      have hv := T.b_V.1 (ht E rv fp f H I)
      simp only [aop, eval, hg]
      cases w <;> exact congrArg (fun v => some (v, none)) hv
    obtain ⟨e, f2, H2, h4, h5⟩ := (k x).ok E _ H ⟨rv, fp, (put_b I).sub hs⟩ r hr
    exact ⟨e, f2, H2, by rw [exec_rg_cons hp rfl]; exact h4, h5⟩⟩
theorem flat_take {sz : Nat} : ∀ {l : List (List AV)} {i : Nat}, (∀ e ∈ l, e.length = sz) → i ≤ l.length → l.flatten.take (i * sz) = (l.take i).flatten ∧ l.flatten.drop (i * sz) = (l.drop i).flatten
  | l, 0, _, _ => by simp
  | [], i + 1, _, h => by simp at h
  | d :: l, i + 1, hl, h => by
    have h1 := hl d List.mem_cons_self
    obtain ⟨a, b⟩ := flat_take (l := l) (i := i) (fun e he => hl e (List.mem_cons_of_mem _ he)) (by simpa using h)
    have hs : (i + 1) * sz = d.length + i * sz := by rw [Nat.succ_mul]; omega
    constructor
    · rw [List.flatten_cons, hs, List.take_append, List.take_of_length_le (by omega), Nat.add_sub_cancel_left, a]; simp
    · rw [List.flatten_cons, hs, ← List.drop_drop, List.drop_left' rfl, b]; simp
theorem flat_piece {sz k m : Nat} {l : List (List AV)} (hl : ∀ e ∈ l, e.length = sz) (h : k + m ≤ l.length) : sub l.flatten (k * sz) (m * sz) = ((l.drop k).take m).flatten := by
  simp only [sub]
  rw [(flat_take hl (i := k) (by omega)).2, (flat_take (fun e he => hl e (List.mem_of_mem_drop he)) (i := m) (by rw [List.length_drop]; omega)).1]
theorem flat_len {sz : Nat} {l : List (List AV)} (hl : ∀ e ∈ l, e.length = sz) : l.flatten.length = l.length * sz := by
  induction l with
  | nil => simp
  | cons d l ih =>
    have := ih fun e he => hl e (List.mem_cons_of_mem _ he)
    have := hl d List.mem_cons_self
    simp only [List.flatten_cons, List.length_append, List.length_cons, Nat.succ_mul]; omega
theorem flat_splices {sz i : Nat} {l dss : List (List AV)} (hl : ∀ e ∈ l, e.length = sz) (hd : ∀ e ∈ dss, e.length = sz) (h : i + dss.length ≤ l.length) : splice l.flatten (i * sz) dss.flatten = (l.take i ++ dss ++ l.drop (i + dss.length)).flatten := by
  simp only [splice, List.flatten_append]
  rw [(flat_take hl (i := i) (by omega)).1, flat_len hd, ← Nat.add_mul, (flat_take hl (i := i + dss.length) h).2]
def Fld.piece (n : Nat) (t : T) (k m : Nat) (hkm : k + m ≤ n) : Fld (T.arr n t) (T.arr m t) (k * t.sz) where
  get := fun x => ⟨(x.l.drop k).take m, by rw [List.length_take, List.length_drop, x.len]; omega⟩
  put := fun x y => ⟨x.l.take k ++ y.l ++ x.l.drop (k + m), by rw [List.length_append, List.length_append, List.length_take, List.length_drop, x.len, y.len]; omega⟩
  le := by
    show k * t.sz + m * t.sz ≤ n * t.sz
    rw [← Nat.add_mul]; exact Nat.mul_le_mul_right _ hkm
  getR := fun {P H cs x} ⟨css, e, h⟩ => by
    refine ⟨(css.drop k).take m, ?_, h.drop.take⟩
    have hlen := h.length
    have hx := x.len
    rw [e]
    exact flat_piece h.lens (by omega)
  putR := fun {P H cs x c y} ⟨css, e, h⟩ ⟨dss, e', h'⟩ => by
    refine ⟨css.take k ++ dss ++ css.drop (k + m), ?_, (h.take.app h').app h.drop⟩
    have hlen := h.length
    have hx := x.len
    have hlen' := h'.length
    have hy := y.len
    rw [e, e']
    have := flat_splices (dss := dss) h.lens h'.lens (i := k) (by omega)
    rw [this, show dss.length = m by omega]
theorem h_slaC {j off n sz : Nat} {ps : List (Nat × Fact)} {lo hi : Option AO} {l h : Option Int} (hj : findS Γ.ss j = some (.cells ps)) (hle : Nat.ble (off + n * sz) (sizes ps) = true) (ha : OpF tb Γ a (.cp j off)) (hl : OpO tb Γ lo l) (hh : OpO tb Γ hi h) :
    OpH tb Γ (.sla n sz a lo hi) (bnd n l h) fun p => .oc j (off + p.1 * sz) sz (p.2 - p.1) := by
  intro E rv fp f H I p hp
  obtain ⟨lv, id, e, hv⟩ := ha E rv fp f H I
  obtain ⟨cs, h0, h2, h3⟩ := cells_of I hj e
  have hs := PR.length h3
  have hle := Nat.le_of_ble_eq_true hle
  refine ⟨.ocel sz id (off + p.1 * sz) (p.2 - p.1), none, ?_, rfl, lv, id, e, rfl⟩
  simp only [aop, hv]
  rw [bounds_of hl hh I, hp]
  simp only [Option.bind_some, arrsl, h2]
  rw [if_pos (by omega)]
  rfl
theorem h_slaL {j off n sz k m o' c : Nat} {ps : List (Nat × Fact)} {lo hi : Option AO} {l h : Option Int} (hj : findS Γ.ss j = some (.cells ps)) (hle : Nat.ble (off + n * sz) (sizes ps) = true) (ha : OpF tb Γ a (.cp j off)) (hl : OpO tb Γ lo l) (hh : OpO tb Γ hi h)
    (hb : bnd n l h = some (k, m)) (ho : off + k * sz = o') (hc : m - k = c) : OpH tb Γ (.sla n sz a lo hi) (some ()) fun _ => .oc j o' sz c := by
  rintro E rv fp f H I _ ⟨⟩
  subst ho hc
  exact h_slaC hj hle ha hl hh E rv fp f H I (k, m) hb
theorem h_s2aC {j off len sz n : Nat} (ha : OpF tb Γ a (.oc j off sz len)) (hn : Nat.ble n len = true) : OpH tb Γ (.s2a n sz a) (some ()) fun _ => .cp j off := by
  rintro E rv fp f H I _ ⟨⟩
  obtain ⟨lv, id, e, hv⟩ := ha E rv fp f H I
  have hn := Nat.le_of_ble_eq_true hn
  exact ⟨.ptr id off, none, by simp only [aop, hv, arrOf]; rw [if_pos ⟨trivial, hn⟩]; rfl, rfl, lv, id, e, rfl⟩
def cpyA {α : Type} {n : Nat} (x : Ar α n) (k m : Nat) (ys : List α) : Option (Ar α n) :=
  if h : k + m ≤ n then some ⟨x.l.take k ++ ys.take m ++ x.l.drop (k + min ys.length m), by
    rw [List.length_append, List.length_append, List.length_take, List.length_take, List.length_drop, x.len]; omega⟩ else none
theorem RelI.cpy {E : Env} {rv : Nat → AV} {fp : Fp} {f : Fr} {H : Heap} (I : RelI E Γ rv fp f H) {s t : T} {x : s.α} {n j o o' k sz m N : Nat} {ps : List (Nat × Fact)} {ys : List t.α} {z : Ar t.α n} (F : Fld s (T.arr n t) o') (hk : sz = t.sz)
    (ha : OpF tb Γ a (.oc j (o + k * sz) sz m)) (hb : NewL tb Γ b t ys) (hj : findS Γ.ss j = some (.cells ps)) (hp : findP ps o = some (N, .val s x, o')) (hz : cpyA (F.get x) k m ys = some z) :
    ∃ v H', aop tb (den tb) (eval tb f) H (.cpy sz a b) = some (v, some H') ∧ v = .i .i64 ((min ys.length m : Nat) : Int) ∧ ∃ rv' fp', RelI E (Γ.setS j (.cells (putP ps o (.val s (F.put x z))))) rv' fp' f H' := by
  subst hk
  simp only [cpyA] at hz
  split at hz
  · rename_i hkm
    cases hz
    obtain ⟨l, id, e, hv⟩ := ha E rv fp f H I
    obtain ⟨cs, h0, h2, h3⟩ := cells_of I hj e
    obtain ⟨b', c, e0, e1, e2, e3, e4, e5, e6⟩ := findP_spec h3 hp
    obtain ⟨els, g1, g2⟩ := hb E rv fp f H I
    have hel := g2.length
    have hlens := (g2.take (n := m)).lens
    have htl : (els.take m).length = min ys.length m := by rw [List.length_take, hel, Nat.min_comm]
    have hfl := flat_len hlens
    rw [htl] at hfl
    let G := Fld.comp F (Fld.piece n t k (min ys.length m) (by omega))
    have hle := G.le
    have hszA : (T.arr (min ys.length m) t).sz = min ys.length m * t.sz := rfl
    have hl := s.len e4
    have hy : (T.arr (min ys.length m) t).R (Pf E Γ.ss fp H) H (els.take m).flatten ⟨ys.take m, by rw [List.length_take, Nat.min_comm]⟩ := ⟨els.take m, rfl, g2.take⟩
    have hput := G.putR e4 hy
    have hpr := e6 (o' + k * t.sz) (els.take m).flatten (.val s (G.put x ⟨ys.take m, by rw [List.length_take, Nat.min_comm]⟩)) (by rw [hfl]; omega) hput
    rw [show b' + (o' + k * t.sz) = o + k * t.sz by omega] at hpr
    have hmen := PR.men I.ltP I.rvlt h3
    have hym := (T.arr (min ys.length m) t).men hy I.ltP
    have hlt' := (I.fplt j id l ((h0 id).2 rfl)).1
    have hx : G.put x ⟨ys.take m, by rw [List.length_take, Nat.min_comm]⟩ = F.put x ⟨(F.get x).l.take k ++ ys.take m ++ (F.get x).l.drop (k + min ys.length m), by
        rw [List.length_append, List.length_append, List.length_take, List.length_take, List.length_drop, (F.get x).len]; omega⟩ := rfl
    rw [hx] at hpr
    obtain ⟨rv', fp', _, _, R'⟩ := I.set (j := j) (S := .cells (putP ps o (.val s (F.put x ⟨(F.get x).l.take k ++ ys.take m ++ (F.get x).l.drop (k + min ys.length m), by
        rw [List.length_append, List.length_append, List.length_take, List.length_take, List.length_drop, (F.get x).len]; omega⟩)))) (v := rv j) (o := .cells (labAt H id) (splice cs (o + k * t.sz) (els.take m).flatten)) (by rw [hj]; rfl) l h0 (by simp only [mentO]; exact mentL_splice hmen hym) rfl (I.rvlt j l) (.inl rfl) (I.scal j l) fun rv' fp' e1 e2 hP hs =>
      ⟨id, _, by rw [e1, e], e2, by simp [cellsAt, hlt'], PR.mono hP (by simp) (fun p _ => hs p.2 (.inl rfl)) hpr⟩
    refine ⟨_, H.set id (AObj.cells (labAt H id) (splice cs (o + k * t.sz) (els.take m).flatten)), ?_, rfl, rv', fp', R'⟩
    have hmn : min els.length m = min ys.length m := by rw [hel]
    have hbnd : o + k * t.sz + m * t.sz ≤ cs.length := by
      have hF := F.le
      have hszF : (T.arr n t).sz = n * t.sz := rfl
      have : (k + m) * t.sz ≤ n * t.sz := Nat.mul_le_mul_right _ hkm
      rw [Nat.add_mul] at this
      omega
    simp only [aop, g1, Option.bind_some, hv, copyTo, h2]
    rw [if_pos ⟨trivial, hbnd⟩, hmn]
    have hte : els.take (min ys.length m) = els.take m := by
      rw [← hmn]
      rcases Nat.le_total els.length m with h | h
      · rw [Nat.min_eq_left h, List.take_of_length_le (Nat.le_refl _), List.take_of_length_le h]
      · rw [Nat.min_eq_right h]
    rw [hte, splice, hfl]
  · cases hz
theorem M_cpyD {s t : T} {x : s.α} {n j o o' k sz m N d : Nat} {ps : List (Nat × Fact)} {ys : List t.α} (F : Fld s (T.arr n t) o') (hk : sz = t.sz)
    (ha : OpF tb Γ a (.oc j (o + k * sz) sz m)) (hb : NewL tb Γ b t ys) (hj : findS Γ.ss j = some (.cells ps)) (hp : findP ps o = some (N, .val s x, o')) :
    OpM tb Γ (some d) (.cpy sz a b) (cpyA (F.get x) k m ys) fun z => (Γ.setS j (.cells (putP ps o (.val s (F.put x z))))).push d (.val (T.int .i64) ((min ys.length m : Nat) : Int)) := fun E rv fp f H I z hz => by
  obtain ⟨v, H', h1, rfl, rv', fp', h2⟩ := I.cpy F hk ha hb hj hp hz
  exact ⟨_, some H', h1, rv', fp', h2.push (T.int_V.2 rfl)⟩
end
section
variable {tb : Tab} {Γ : Cx} {a b : AO}
def kvs (js : List Nat) : List (Nat × Fact) := js.map fun k => (1, .kv k)
end
def cmpB {t : T} {l : List CK} (p : CmpC t l) (x y : t.α) : Bool := @decide (x = y) (p.d x y)
theorem cmpB_yes {t : T} {l : List CK} {p : CmpC t l} {x y : t.α} (h : x = y) : cmpB p x y = true := @decide_eq_true _ (p.d x y) h
theorem cmpB_no {t : T} {l : List CK} {p : CmpC t l} {x y : t.α} (h : ¬ x = y) : cmpB p x y = false := @decide_eq_false _ (p.d x y) h
end Go.Proofs.YtoegmdfkcaojlaaGreat.Am
namespace Go.Proofs.YtoegmdfkcaojlaaGreat.Am
section
variable {tb : Tab} {cl : Nat → List AV → Heap → Out} {N : Nat}
end
section
variable {tb : Tab} {Γ : Cx} {a b : AO} {ks : List Kf} {ρ : Type} {Q : Post ρ}
end
section
variable {K V : T} {P Q : Nat → Prop} {H G : Heap}
end
section
variable {K V : T} {P Q : Nat → Prop} {H G : Heap} {ek : EK}
end
section
variable {tb : Tab} {Γ : Cx} {a b c : AO} {K V : T} {ek : EK}
end
end Go.Proofs.YtoegmdfkcaojlaaGreat.Am
namespace Go.Proofs.YtoegmdfkcaojlaaGreat.Am
section
variable {tb : Tab} {Γ : Cx} {ks : List Kf} {ρ : Type} {Q : Post ρ}
def QJ (tb : Tab) {τ : Type} (Γj : τ → Cx) (ks : List Kf) (Q : Post ρ) : Post (τ ⊕ ρ) := fun E r e f H =>
  match r with
  | .inl p => e = .normal ∧ Rel E (Γj p) f H
  | .inr r => e ≠ .normal ∧ ∃ e' f' H', runk tb ks (e, f, H) = some (e', f', H') ∧ Q E r e' f' H'
def Sim.joinS {c : AC} {τ : Type} (Γj : τ → Cx) (k : (p : τ) → Sim tb (Γj p) (rg false []) ks Q) (main : Sim tb Γ c [] (QJ tb Γj ks Q)) : Sim tb Γ c ks Q :=
  ⟨main.m.bind (Sum.elim (fun p => (k p).m) some), fun E f H R r hr => by
    obtain ⟨b, hb, hr⟩ := Option.bind_eq_some_iff.1 hr
    obtain ⟨e, f1, H1, h1, h2⟩ := main.ok E f H R b hb
    have h1' : exec tb (den tb) c f H = some (e, f1, H1) := by
      obtain ⟨p, hp, h⟩ := Option.bind_eq_some_iff.1 h1
      rw [hp, ← h]; rfl
    rw [h1']
    cases b with
    | inr r' =>
      simp only [Sum.elim_inr, Option.some.injEq] at hr
      subst hr
      exact h2.2
    | inl p =>
      obtain ⟨rfl, R'⟩ := h2
      simp only [Sum.elim_inl] at hr
      obtain ⟨e2, f2, H2, h4, h5⟩ := (k p).ok E f1 H1 R' r hr
      exact ⟨e2, f2, H2, by simpa [exec_rg_nil] using h4, h5⟩⟩
def Sim.jn {q : Bool} {τ : Type} {Γj : τ → Cx} (p : τ) (h : Sub (Γj p) Γ) : Sim tb Γ (rg q []) [] (QJ tb Γj ks Q) :=
  ⟨some (.inl p), fun E f H ⟨rv, fp, I⟩ r hr => by
    cases hr
    exact ⟨.normal, f, H, by simp [exec_rg_nil, runk], rfl, rv, fp, I.sub h⟩⟩
def Sim.opV {q : Bool} {d : Nat} {o : AOp} {l : List AOper} {β : Type} {a : β} {φ : β → Fact} (h : OpH tb Γ o (some a) φ) (k : (b : β) → Sim tb (Γ.push d (φ b)) (rg q l) ks Q) : Sim tb Γ (rg q (⟨some d, none, o⟩ :: l)) ks Q :=
  ⟨(k a).m, (Sim.op h k).ok⟩
def Grp.opV {q : Bool} {d t : Nat} {o : AOp} {l : List AOper} {β : Type} {a : β} {φ : β → Fact} (h : OpH tb Γ o (some a) φ) (k : (b : β) → Grp tb (Γ.push d (φ b)) q l t) : Grp tb Γ q (⟨some d, none, o⟩ :: l) t :=
  ⟨(k a).m, (Grp.op h k).ok⟩
def Sim.opMV {d : Option Nat} {o : AOp} {l : List AOper} {β : Type} {a : β} {Γ' : β → Cx} (h : OpM tb Γ d o (some a) Γ') (k : (b : β) → Sim tb (Γ' b) (rg false l) ks Q) : Sim tb Γ (rg false (⟨d, none, o⟩ :: l)) ks Q :=
  ⟨(k a).m, (Sim.opM h k).ok⟩
variable {w : List (Option (Nat × Nat))} {N k : Nat} {B : List Ob} {C C' : List Cb} {o : AOp} {l : List AOper} {y : Nat × Nat}
end
end Go.Proofs.YtoegmdfkcaojlaaGreat.Am
namespace Go.Proofs.YtoegmdfkcaojlaaGreat.Am
def entB (P : Program) (g : Nat) : Bool := match P.funcs[g]? with
  | some fn => fn.body.isSome && !(fn.name == "runtime.NumGoroutine")
  | none => false
section
variable {P : Program} {tb : Tab}
theorem enters_of_entB {g : Nat} (h : entB P g = true) (vs : Array Value) (w : World) : (callFunc g vs).run P w = .ok (.enter g vs) w := by
  unfold entB at h
  split at h
  · rename_i fn hf
    simp only [Bool.and_eq_true, Bool.not_eq_true'] at h
    obtain ⟨h1, h2⟩ := h
    obtain ⟨c, hc⟩ := Option.isSome_iff_exists.1 h1
    have h2' : ¬ fn.name = "runtime.NumGoroutine" := by simpa using h2
    simp [callFunc, hf, hc, h2']
  · cases h
end
end Go.Proofs.YtoegmdfkcaojlaaGreat.Am
namespace Go.Proofs.YtoegmdfkcaojlaaGreat.Am
section
variable {tb : Tab} {tB te tS ncc nne ngw ngr : Nat} {h : Heap} {id : Nat} {a b : AV}
variable {Γ : Cx} {x y : AO}
end
end Go.Proofs.YtoegmdfkcaojlaaGreat.Am
namespace Go.Proofs.YtoegmdfkcaojlaaGreat.Am
section
variable {tb : Tab} {Γ : Cx}
variable {ks : List Kf} {ρ : Type} {Q : Post ρ}
def ofU8 (n : Int) : UInt8 := UInt8.ofNat (n % 256).toNat
def ofU64 (n : Int) : UInt64 := UInt64.ofNat (n % 18446744073709551616).toNat
def cmpBy (a b : List UInt8) : Int := Extern.BytealgCompare.cmp ⟨a.toArray⟩ ⟨b.toArray⟩
theorem SlV.bytes {P : Nat → Prop} {H : Heap} {v : AV} {g : GS UInt8} (h : (T.sl T.u8).V P H v g) : bytesA H v = some g.l := by
  obtain ⟨els, e, h'⟩ := (T.sl_V.1 h).els
  have e' : els? H 1 v = some els := e
  have hs : ∀ l, v ≠ .s l := by rintro l rfl; simp [els?] at e'
  cases v <;> first
    | exact absurd rfl (hs _)
    | (simp only [bytesA, e', Option.bind_some]; exact bytes_all h')
theorem Spec.cmp {g : Nat} (hp : tb.prim g = some pCompare) : Spec tb g [T.sl T.u8, T.sl T.u8] [T.int .i64] fun a => some (cmpBy a.1.l a.2.l) := by
  rintro P h args ⟨x, y⟩ _ _ ⟨v, q, rfl, h1, w, rfl, h2⟩ r hr
  cases hr
  refine ⟨.i .i64 (cmpBy x.l y.l), none, ?_, rfl, [.i .i64 (cmpBy x.l y.l)], rfl, _, rfl, T.int_V.2 rfl⟩
  simp only [calling, hp, pCompare, SlV.bytes h1, SlV.bytes h2, Option.bind_some, Option.map_some]
  rfl
end
end Go.Proofs.YtoegmdfkcaojlaaGreat.Am
namespace Go.Proofs.YtoegmdfkcaojlaaGreat.Am
section
variable {tb : Tab} {Γ : Cx} {a b : AO}
theorem chunks_of {sz : Nat} : ∀ (k : Nat) (css : List (List AV)) (cs : List AV), css.length = k → (∀ e ∈ css, e.length = sz) → cs.take (k * sz) = css.flatten → chunks sz k cs = css
  | 0, css, cs, h, _, _ => by rw [List.eq_nil_of_length_eq_zero h]; rfl
  | k + 1, y :: css, cs, hk, hall, hc => by
    have hy := hall y (by simp)
    simp only [chunks]
    simp only [List.flatten_cons] at hc
    have hA : cs.take sz = y := by
      have := congrArg (List.take sz) hc
      rw [List.take_take, Nat.min_eq_left (by rw [Nat.succ_mul]; omega), List.take_left' hy] at this
      exact this
    have hB : (cs.drop sz).take (k * sz) = css.flatten := by
      have := congrArg (List.drop sz) hc
      rw [List.drop_left' hy, List.drop_take, Nat.succ_mul, Nat.add_sub_cancel] at this
      exact this
    rw [hA, chunks_of k css (cs.drop sz) (by simpa using hk) (fun e he => hall e (by simp [he])) hB]
theorem oc_els {t u : T} {x : t.α} {j o o' k m n N sz : Nat} {ps : List (Nat × Fact)} (F : Fld t (T.arr n u) o') (hsz : sz = u.sz) (ha : OpF tb Γ a (.oc j (o + k * sz) sz m)) (hj : findS Γ.ss j = some (.cells ps)) (hp : findP ps o = some (N, .val t x, o')) (hkm : k + m ≤ n)
    {E : Env} {rv : Nat → AV} {fp : Fp} {f : Fr} {H : Heap} (R : RelI E Γ rv fp f H) :
    ∃ id els, id < H.length ∧ fp j id ∧ eval tb f a = .ocel u.sz id (o + k * u.sz) m ∧ els? H u.sz (.ocel u.sz id (o + k * u.sz) m) = some els ∧ AllR u (Pf E Γ.ss fp H) H els (((F.get x).l.drop k).take m) := by
  subst hsz
  obtain ⟨l, id, e, hv⟩ := ha E rv fp f H R
  obtain ⟨cs, h0, h2, h3⟩ := cells_of R hj e
  obtain ⟨b', c, e0, e1, e2, e3, e4, e5, _⟩ := findP_spec h3 hp
  have hfp : fp j id := (h0 id).2 rfl
  have hlt := (R.fplt j id l hfp).1
  have hlen := t.len e4
  have hle := F.le
  have hszA : (T.arr n u).sz = n * u.sz := rfl
  rw [hszA] at hle
  have hmul : k * u.sz + m * u.sz ≤ n * u.sz := by rw [← Nat.add_mul]; exact Nat.mul_le_mul_right _ hkm
  obtain ⟨css, q1, q2⟩ := F.getR e4
  have hlc : css.length = n := by rw [q2.length]; exact (F.get x).len
  have hs1 := e5 o' (n * u.sz) (by omega)
  rw [← e1] at hs1
  have hch : chunks u.sz n (cs.drop o) = css := chunks_of n css (cs.drop o) hlc q2.lens (by rw [show (cs.drop o).take (n * u.sz) = sub cs o (n * u.sz) from rfl, hs1, ← q1]; rfl)
  have hsub := chunks_sub (sz := u.sz) (len := n) (c := k) (d := k + m) (l := cs.drop o) (by omega) hkm
  refine ⟨id, (css.take (k + m)).drop k, hlt, hfp, hv, ?_, ?_⟩
  · simp only [els?, h2, Option.bind_some]
    rw [if_pos ⟨trivial, by omega⟩]
    rw [← hch, hsub, List.drop_drop, Nat.add_sub_cancel_left]
  · have := (q2.take (n := k + m)).drop (n := k)
    simp only [List.drop_take, Nat.add_sub_cancel_left] at this ⊢
    exact this
theorem a_s {t u : T} {x : t.α} {j o o' k m n N sz : Nat} {ps : List (Nat × Fact)} (F : Fld t (T.arr n u) o') (hsz : sz = u.sz) (ha : OpF tb Γ a (.oc j (o + k * sz) sz m)) (hj : findS Γ.ss j = some (.cells ps)) (hp : findP ps o = some (N, .val t x, o')) (hkm : k + m ≤ n) :
    ArgP tb Γ a (T.sl u) (.mk (((F.get x).l.drop k).take m)) := by
  intro E rv fp f H R
  obtain ⟨id, els, h1, _, h3, h4, h5⟩ := oc_els F hsz ha hj hp hkm R
  rw [h3]
  exact T.sl_V.2 ⟨h1, els, h4, h5.mono fun i hi => ⟨Pf.lt R.le hi, rfl⟩⟩
theorem h_callRc {c : Prop} [Decidable c] {g : Nat} {As Rs : List T} {F : Res As → Option (Res Rs)} {l : List AO} {x : Res As} (sp : Spec tb g As Rs F) (fl : Flats Rs) (hx : c → ArgR tb Γ As l x) : OpH tb Γ (.call g l) (if c then F x else none) fun r => outF Rs r := by
  intro E rv fp f H R r hr
  split at hr
  · rename_i hc; exact h_callR sp fl (hx hc) E rv fp f H R r hr
  · cases hr
theorem h_callRc1 {c : Prop} [Decidable c] {g : Nat} {As : List T} {t : T} {F : Res As → Option (Res [t])} {l : List AO} {x : Res As} (sp : Spec tb g As [t] F) (fl : Flats [t]) (hx : c → ArgR tb Γ As l x) : OpH tb Γ (.call g l) (if c then F x else none) fun r : t.α => .val t r := h_callRc sp fl hx
theorem n_oc {t u : T} {x : t.α} {j o o' k m n N sz : Nat} {ps : List (Nat × Fact)} (F : Fld t (T.arr n u) o') (hsz : sz = u.sz) (ha : OpF tb Γ a (.oc j (o + k * sz) sz m)) (hj : findS Γ.ss j = some (.cells ps)) (hp : findP ps o = some (N, .val t x, o')) (hkm : k + m ≤ n) :
    NewL tb Γ a u (((F.get x).l.drop k).take m) := by
  intro E rv fp f H R
  obtain ⟨id, els, h1, _, h3, h4, h5⟩ := oc_els F hsz ha hj hp hkm R
  exact ⟨els, by rw [h3]; exact h4, h5⟩
theorem M_if {c : Prop} [Decidable c] {d : Option Nat} {o : AOp} {α : Type} {A : Option α} {G : α → Cx} (h : c → OpM tb Γ d o A G) : OpM tb Γ d o (if c then A else none) G := by
  intro E rv fp f H R r hr
  split at hr
  · rename_i hc; exact h hc E rv fp f H R r hr
  · cases hr
variable {ks : List Kf} {ρ : Type} {Q : Post ρ}
def Sim.mvT {q : Bool} {d n : Nat} {l : List AOper} {φ : Fact} (h : findT Γ.ts n = some φ) (k : Sim tb (Γ.push d φ) (rg q l) ks Q) : Sim tb Γ (rg q (⟨some d, none, .mv (.t n)⟩ :: l)) ks Q := Sim.op1 (h_mv (o_t h)) k
def Sim.dsI {q : Bool} {x y : AC} (s : Sim tb Γ x (.seq y :: ks) Q) : Sim tb Γ (rg q []) (.seq (.seq x y) :: ks) Q := Sim.doneS (Sim.seqI s)
theorem h_cmpI {op : BinOp} {a b : AO} {x y : Int} (h : isCmp op = true) (ha : OpF tb Γ a (.val (T.int .i64) x)) (hb : OpF tb Γ b (.val (T.int .i64) y)) : OpH tb Γ (.bin op a b) (some (cmpI op x y)) fun z => .val T.b z := h_cmp (I := IT.int .i64) h ha hb
abbrev oz (d : Nat) (x : AOp) : AOper := ⟨some d, none, x⟩
abbrev og (d g : Nat) (x : AOp) : AOper := ⟨some d, some (g, true), x⟩
abbrev oh (d g : Nat) (x : AOp) : AOper := ⟨some d, some (g, false), x⟩
instance instAO {n : Nat} : OfNat AO n := ⟨.t n⟩
abbrev kT : AO := .k (.b true)
abbrev kF : AO := .k (.b false)
abbrev mt (d n : Nat) : AOper := ⟨some d, none, .mv (.t n)⟩
abbrev sf (l : List AOper) (y : AC) : AC := .seq (rg false l) y
abbrev sr (l : List AOper) (y : AC) : AC := .seq (rg true l) y
abbrev ki (n : Int) : AO := .k (.i .i64 n)
abbrev on (x : AOp) : AOper := ⟨none, none, x⟩
end
theorem sB {p : Prop} (h : p := by repeat' constructor) : p := h
abbrev SimF (tb : Tab) (c : AFn) (As Rs : List T) (a : Res As) := Sim tb ⟨argsT As 0 a, []⟩ c.body [] (QRes Rs c.res)
end Go.Proofs.YtoegmdfkcaojlaaGreat.Am
namespace Go.Proofs.YtoegmdfkcaojlaaGreat.Am
end Go.Proofs.YtoegmdfkcaojlaaGreat.Am
namespace Go.Proofs.YtoegmdfkcaojlaaGreat.Am
end Go.Proofs.YtoegmdfkcaojlaaGreat.Am
namespace Go.Proofs.YtoegmdfkcaojlaaGreat.Am
def contig (P : Program) : Nat → List Field → Option Nat
  | pos, [] => some pos
  | pos, f :: fs => if Nat.beq f.offset pos then contig P (pos + P.cellsOf f.type) fs else none
def plainT (P : Program) : Nat → TypeId → Bool
  | 0, _ => false
  | n + 1, t =>
    match P.underlying t with
    | some .bool => Nat.beq (P.cellsOf t) 1
    | some (.int _) => Nat.beq (P.cellsOf t) 1
    | some .string => Nat.beq (P.cellsOf t) 1
    | some (.pointer e) => Nat.beq (P.cellsOf t) 1 && Nat.blt 0 (P.cellsOf e) && plainT P n e
    | some (.slice e) => Nat.beq (P.cellsOf t) 1 && Nat.blt 0 (P.cellsOf e) && plainT P n e
    | some (.struct fs) => decide (contig P 0 fs.toList = some (P.cellsOf t)) && fs.toList.all fun f => plainT P n f.type
    | some (.array m e) => Nat.beq (P.cellsOf t) (m * P.cellsOf e) && plainT P n e
    | _ => false
def TypedF (T : TypeId → List AV → Prop) : List Field → List AV → Prop
  | [], cs => cs = []
  | f :: fs, cs => ∃ a b, cs = a ++ b ∧ T f.type a ∧ TypedF T fs b
def Typed (P : Program) : Nat → TypeId → List AV → Prop
  | 0, _, _ => False
  | n + 1, t, cs =>
    match P.underlying t with
    | some .bool => ∃ b, cs = [.b b]
    | some (.int k) => ∃ x, cs = [.i k x] ∧ k.has x
    | some .string => ∃ l, cs = [.s l]
    | some (.pointer e) => cs = [.nilp] ∨ ∃ ds, cs = [.ip ds 0] ∧ Typed P n e ds
    | some (.slice e) => cs = [.nils] ∨ ∃ els : List (List AV), cs = [.sl (P.cellsOf e) els] ∧ ∀ x ∈ els, Typed P n e x
    | some (.struct fs) => TypedF (Typed P n) fs.toList cs
    | some (.array m e) => ∃ els : List (List AV), els.length = m ∧ cs = els.flatten ∧ ∀ x ∈ els, Typed P n e x
    | _ => False
section
variable {P : Program} {H : Type} {enc : TypeId × Value → H} {w : World} {spare : Nat → Bool} {held : Bool}
theorem cells?_spec {base : Nat} {a : Addr} {n : Nat} {cs : List Value} (h : w.cells? base a n = some cs) : cs.length = n ∧ ∀ (j : Nat) (v : Value), cs[j]? = some v → w.cell? (a.add j) = some v := by
  unfold World.cells? at h
  split at h
  · refine ⟨by rw [mapM_some_length h]; simp, fun j v hj => ?_⟩
    have hl : j < n := by have := lt_of_get hj; rw [mapM_some_length h] at this; simpa using this
    have := mapM_some_get h j j (by simp [hl])
    rw [this, hj]
  · cases h
theorem cell?_lt {a : Addr} {v : Value} (h : w.cell? a = some v) : a.spot = none ∧ a.block < w.heap.size := by
  unfold World.cell? at h
  split at h
  · rename_i c e fr hb
    refine ⟨?_, (Array.getElem?_eq_some_iff.1 hb).1⟩
    split at h
    · cases h
    · rename_i hs; simpa using hs
  · cases h
theorem cells?_holds {base : Nat} {a : Addr} {n : Nat} {cs : List Value} (h : w.cells? base a n = some cs) (hn : 0 < n) : ∃ b off, a = ⟨b, off, none⟩ ∧ b < w.heap.size ∧ Holds w b off cs ∧ cs.length = n := by
  obtain ⟨h1, h2⟩ := cells?_spec h
  obtain ⟨b, off, sp⟩ := a
  have h0 := h2 0 cs[0] (by simp)
  have := cell?_lt h0
  simp only [Addr.add, if_true] at this
  obtain ⟨rfl, hlt⟩ := this
  exact ⟨b, off, rfl, hlt, fun j v hj => by have := h2 j v hj; rwa [add_none] at this, h1⟩
theorem build2 {p : Nat → List AV → List Value → Prop} : ∀ (len : Nat), (∀ i, i < len → ∃ x y, p i x y) → ∃ (xs : List (List AV)) (ys : List (List Value)), xs.length = len ∧ ys.length = len ∧ ∀ (i : Nat) x y, xs[i]? = some x → ys[i]? = some y → p i x y
  | 0, _ => ⟨[], [], rfl, rfl, fun i x y h => by simp at h⟩
  | n + 1, h => by
    obtain ⟨xs, ys, h1, h2, h3⟩ := build2 n fun i hi => h i (by omega)
    obtain ⟨x, y, hp⟩ := h n (by omega)
    refine ⟨xs ++ [x], ys ++ [y], by simp [h1], by simp [h2], fun i u v hu hv => ?_⟩
    by_cases hi : i < n
    · rw [List.getElem?_append_left (by omega)] at hu hv
      exact h3 i u v hu hv
    · have hlt := lt_of_get hu
      simp only [List.length_append, List.length_cons, List.length_nil] at hlt
      obtain rfl : i = n := by omega
      rw [List.getElem?_append_right (by omega), h1] at hu
      rw [List.getElem?_append_right (by omega), h2] at hv
      simp only [Nat.sub_self, List.getElem?_cons_zero, Option.some.injEq] at hu hv
      subst hu; subst hv
      exact hp
theorem repLL_of {C : Ctx} : ∀ {xs : List (List AV)} {ys : List (List Value)}, xs.length = ys.length → (∀ (i : Nat) x y, xs[i]? = some x → ys[i]? = some y → RepL C x y) → RepLL C xs ys
  | [], [], _, _ => rfl
  | [], _ :: _, h, _ => by simp at h
  | _ :: _, [], h, _ => by simp at h
  | x :: xs, y :: ys, h, k => ⟨y, ys, rfl, k 0 x y rfl rfl, repLL_of (by simpa using h) fun i u v hu hv => k (i + 1) u v (by simpa using hu) (by simpa using hv)⟩
theorem flat_index {sz : Nat} : ∀ (l : List (List Value)), (∀ y ∈ l, y.length = sz) → ∀ (j : Nat) (v : Value), l.flatten[j]? = some v → ∃ (i r : Nat) (y : List Value), j = i * sz + r ∧ l[i]? = some y ∧ y[r]? = some v
  | [], _, j, v, h => by simp at h
  | y :: l, hy, j, v, h => by
    rw [List.flatten_cons] at h
    have hyl := hy y List.mem_cons_self
    rcases Nat.lt_or_ge j y.length with hlt | hge
    · rw [List.getElem?_append_left hlt] at h
      exact ⟨0, j, y, by simp, rfl, h⟩
    · rw [List.getElem?_append_right hge] at h
      obtain ⟨i, r, u, h1, h2, h3⟩ := flat_index l (fun z hz => hy z (List.mem_cons_of_mem _ hz)) _ _ h
      exact ⟨i + 1, r, u, by rw [Nat.succ_mul]; omega, by simpa using h2, h3⟩
theorem noOwn (φ : Nat → Place) (w : World) (b : Nat) : ¬ (⟨φ, [], w, []⟩ : Ctx).own b := by
  rintro (⟨id, h, _⟩ | h)
  · exact absurd h (Nat.not_lt_zero _)
  · cases h
def Reads (P : Program) (φ : Nat → Place) (w : World) (n : Nat) (t : TypeId) (cs : List Value) : Prop :=
  ∃ cs1 : List AV, Typed P n t cs1 ∧ RepL ⟨φ, [], w, []⟩ cs1 cs ∧ cs1.all scal = true ∧ cs.length = P.cellsOf t
theorem reads_fields (φ : Nat → Place) (n : Nat) (T : ∀ f : Field, plainT P n f.type = true → ∀ cs : List Value, (∃ fuel x, DataW.trod enc P w 0 spare held fuel f.type cs = some x) → Reads P φ w n f.type cs) :
    ∀ (fs : List Field) (pos tot : Nat) (cs : List Value), fs.all (fun f => plainT P n f.type) = true → contig P pos fs = some tot → cs.length = tot →
      (∀ f ∈ fs, ∃ fuel x, DataW.trod enc P w 0 spare held fuel f.type ((cs.drop f.offset).take (P.cellsOf f.type)) = some x) →
      ∃ cs1 : List AV, TypedF (Typed P n) fs cs1 ∧ RepL ⟨φ, [], w, []⟩ cs1 (cs.drop pos) ∧ cs1.all scal = true
  | [], pos, tot, cs, _, hc, hl, _ => by
    simp only [contig, Option.some.injEq] at hc
    subst hc
    exact ⟨[], rfl, by rw [List.drop_of_length_le (by omega)]; rfl, rfl⟩
  | f :: fs, pos, tot, cs, hp, hc, hl, hr => by
    simp only [List.all_cons, Bool.and_eq_true] at hp
    simp only [contig] at hc
    split at hc
    · rename_i ho
      rw [Nat.beq_eq] at ho
      obtain ⟨cs1, t1, r1, s1, l1⟩ := T f hp.1 _ (hr f List.mem_cons_self)
      obtain ⟨bs, t2, r2, s2⟩ := reads_fields φ n T fs _ tot cs hp.2 hc hl fun g hg => hr g (List.mem_cons_of_mem _ hg)
      refine ⟨cs1 ++ bs, ⟨cs1, bs, rfl, t1, t2⟩, ?_, by simp only [List.all_append, s1, s2, Bool.and_self]⟩
      rw [ho] at r1 l1
      have hsplit : cs.drop pos = (cs.drop pos).take (P.cellsOf f.type) ++ cs.drop (pos + P.cellsOf f.type) := by
        rw [← List.drop_drop, List.take_append_drop]
      rw [hsplit]
      exact RepL.app r1 r2
    · cases hc
theorem trod_rep (φ : Nat → Place) : ∀ (n : Nat) (t : TypeId), plainT P n t = true → ∀ (fuel : Nat) (cs : List Value) (x : DataW H × List MemPlace), DataW.trod enc P w 0 spare held fuel t cs = some x → Reads P φ w n t cs
  | 0, _, h => by simp [plainT] at h
  | n + 1, t, h => by
    intro fuel cs x hx
    simp only [plainT] at h
    cases hu : P.underlying t with
    | none => rw [hu] at h; simp at h
    | some d =>
      rw [hu] at h
      cases fuel with
      | zero => simp [DataW.trod] at hx
      | succ fuel =>
        cases d <;> simp only [Bool.false_eq_true] at h
        case bool =>
          rw [Nat.beq_eq] at h
          rcases cs with _ | ⟨v, _ | ⟨u, r⟩⟩
          · simp [DataW.trod, hu] at hx
          · cases v <;> simp [DataW.trod, hu] at hx
            rename_i b
            exact ⟨[.b b], by simp only [Typed, hu]; exact ⟨b, rfl⟩, ⟨_, _, rfl, rfl, rfl⟩, rfl, h.symm⟩
          · cases v <;> simp [DataW.trod, hu] at hx
        case int k =>
          rw [Nat.beq_eq] at h
          rcases cs with _ | ⟨v, _ | ⟨u, r⟩⟩
          · simp [DataW.trod, hu] at hx
          · cases v <;> simp [DataW.trod, hu] at hx
            rename_i k' z
            obtain ⟨⟨rfl, hwf⟩, _⟩ := hx
            refine ⟨[.i k' z], ?_, ⟨_, _, rfl, rfl, rfl⟩, rfl, h.symm⟩
            simp only [Typed, hu]
            simp only [Lit.wf, Bool.and_eq_true, decide_eq_true_eq] at hwf
            exact ⟨z, rfl, hwf⟩
          · cases v <;> simp [DataW.trod, hu] at hx
        case string =>
          rw [Nat.beq_eq] at h
          rcases cs with _ | ⟨v, _ | ⟨u, r⟩⟩
          · simp [DataW.trod, hu] at hx
          · cases v <;> simp [DataW.trod, hu] at hx
            rename_i b
            exact ⟨[.s b.data.toList], by simp only [Typed, hu]; exact ⟨_, rfl⟩, ⟨_, _, rfl, by simp [Rep], rfl⟩, rfl, h.symm⟩
          · cases v <;> simp [DataW.trod, hu] at hx
        case pointer e =>
          simp only [Bool.and_eq_true, Nat.beq_eq, Nat.blt_eq] at h
          obtain ⟨⟨h1, h2⟩, h3⟩ := h
          rcases cs with _ | ⟨v, _ | ⟨u, r⟩⟩
          · simp [DataW.trod, hu] at hx
          · cases v <;> try (simp [DataW.trod, hu] at hx; done)
            rename_i p
            cases p with
            | none => exact ⟨[.nilp], by simp only [Typed, hu]; left; trivial, ⟨_, _, rfl, rfl, rfl⟩, rfl, h1.symm⟩
            | some p =>
              simp only [DataW.trod, hu] at hx
              obtain ⟨y, hy, _⟩ := Option.map_eq_some_iff.1 hx
              obtain ⟨cs', hc, ht⟩ := Option.bind_eq_some_iff.1 hy
              obtain ⟨b, off, rfl, hlt, hh, hl⟩ := cells?_holds hc h2
              obtain ⟨cs1, t1, r1, s1, l1⟩ := trod_rep φ n e h3 fuel cs' y ht
              refine ⟨[.ip cs1 0], by simp only [Typed, hu]; exact .inr ⟨cs1, rfl, t1⟩, ⟨_, _, rfl, ⟨b, off, cs', rfl, hlt, noOwn φ w b, hh, s1, r1⟩, rfl⟩, rfl, h1.symm⟩
          · cases v <;> simp [DataW.trod, hu] at hx
        case slice e =>
          simp only [Bool.and_eq_true, Nat.beq_eq, Nat.blt_eq] at h
          obtain ⟨⟨h1, h2⟩, h3⟩ := h
          rcases Go.Deep.open_slice hu hx with ⟨rfl, _⟩ | ⟨a, len, cap, m, n', D, Pl, rfl, hb, hl, hm, hmm, rfl, hel⟩
          · exact ⟨[.nils], by simp only [Typed, hu]; left; trivial, ⟨_, _, rfl, rfl, rfl⟩, rfl, h1.symm⟩
          · have hlm : len ≤ m := by rw [hmm]; split <;> omega
            obtain ⟨xs, ys, x1, y1, hp⟩ := build2 (p := fun i x y => Typed P n e x ∧ RepL ⟨φ, [], w, []⟩ x y ∧ x.all scal = true ∧ y.length = P.cellsOf e ∧ w.cells? 0 (a.add (i * P.cellsOf e)) (P.cellsOf e) = some y) len fun i hi => by
              obtain ⟨cs', c1, c2⟩ := hel i (by omega)
              obtain ⟨cs1, t1, r1, s1, l1⟩ := trod_rep φ n e h3 n' cs' _ c2
              exact ⟨cs1, cs', t1, r1, s1, l1, c1⟩
            have getx : ∀ x ∈ xs, ∃ (i : Nat) (y : List Value), xs[i]? = some x ∧ ys[i]? = some y := by
              intro x hx
              obtain ⟨i, hi⟩ := List.mem_iff_getElem?.1 hx
              have := lt_of_get hi
              exact ⟨i, ys[i]'(by omega), hi, List.getElem?_eq_getElem (by omega)⟩
            have gety : ∀ y ∈ ys, y.length = P.cellsOf e := by
              intro y hy
              obtain ⟨i, hi⟩ := List.mem_iff_getElem?.1 hy
              have := lt_of_get hi
              exact (hp i (xs[i]'(by omega)) y (List.getElem?_eq_getElem (by omega)) hi).2.2.2.1
            refine ⟨[.sl (P.cellsOf e) xs], ?_, ⟨_, _, rfl, ?_, rfl⟩, rfl, h1.symm⟩
            · simp only [Typed, hu]
              refine .inr ⟨xs, rfl, fun x hx => ?_⟩
              obtain ⟨i, y, hi, hy⟩ := getx x hx
              exact (hp i x y hi hy).1
            · by_cases h0 : len = 0
              · subst h0
                exact .inr ⟨List.eq_nil_of_length_eq_zero x1, a, cap, rfl⟩
              · have hpos : 0 < len := by omega
                obtain ⟨y0, hy0⟩ : ∃ y, ys[0]? = some y := ⟨_, List.getElem?_eq_getElem (by omega)⟩
                obtain ⟨x0, hx0⟩ : ∃ y, xs[0]? = some y := ⟨_, List.getElem?_eq_getElem (by omega)⟩
                have hc0 := (hp 0 x0 y0 hx0 hy0).2.2.2.2
                simp only [Nat.zero_mul, Addr.add, if_true] at hc0
                obtain ⟨b, off, rfl, hlt, _, _⟩ := cells?_holds hc0 h2
                refine .inl ⟨b, off, cap, ys, by rw [x1], by rw [x1]; exact hl, hlt, noOwn φ w b, ?_, fun x hx => ?_, repLL_of (by rw [x1, y1]) fun i x y hi hy => (hp i x y hi hy).2.1⟩
                · intro j v hj
                  obtain ⟨i, r, y, rfl, hy, hr⟩ := flat_index ys gety j v hj
                  have hi := lt_of_get hy
                  have hc := (hp i (xs[i]'(by omega)) y (List.getElem?_eq_getElem (by omega)) hy).2.2.2.2
                  have := (cells?_spec hc).2 r v hr
                  rwa [add_none, add_none, Nat.add_assoc] at this
                · obtain ⟨i, y, hi, hy⟩ := getx x hx
                  have := hp i x y hi hy
                  exact ⟨by rw [← this.2.1.length]; exact this.2.2.2.1, this.2.2.1⟩
        case struct fs =>
          simp only [Bool.and_eq_true, decide_eq_true_eq] at h
          obtain ⟨h1, h2⟩ := h
          simp only [DataW.trod, hu] at hx
          split at hx
          · rename_i hl
            obtain ⟨xs, hxs, _⟩ := Option.map_eq_some_iff.1 hx
            obtain ⟨cs1, t1, r1, s1⟩ := reads_fields (enc := enc) (spare := spare) (held := held) φ n (fun f hf cs hh => by obtain ⟨fl, x, hh⟩ := hh; exact trod_rep φ n f.type hf fl cs x hh) fs.toList 0 _ cs h2 h1 hl fun f hf => by
              obtain ⟨i, hi⟩ := List.mem_iff_getElem?.1 hf
              have := mapM_some_get hxs i f hi
              have hlen := mapM_some_length hxs
              have hi' := lt_of_get hi
              rw [List.getElem?_eq_getElem (by omega)] at this
              exact ⟨fuel, _, this⟩
            exact ⟨cs1, by simp only [Typed, hu]; exact t1, by simpa using r1, s1, hl⟩
          · cases hx
        case array m e =>
          simp only [Bool.and_eq_true, Nat.beq_eq] at h
          obtain ⟨h1, h2⟩ := h
          simp only [DataW.trod, hu] at hx
          split at hx
          · rename_i hl
            obtain ⟨xs, hxs, _⟩ := Option.map_eq_some_iff.1 hx
            have hxl := mapM_some_length hxs
            simp only [List.length_range] at hxl
            obtain ⟨els, ys, x1, y1, hp⟩ := build2 (p := fun i x y => Typed P n e x ∧ RepL ⟨φ, [], w, []⟩ x y ∧ x.all scal = true ∧ y = (cs.drop (i * P.cellsOf e)).take (P.cellsOf e) ∧ y.length = P.cellsOf e) m fun i hi => by
              have := mapM_some_get hxs i i (by simp [hi])
              rw [List.getElem?_eq_getElem (by omega)] at this
              obtain ⟨cs1, t1, r1, s1, l1⟩ := trod_rep φ n e h2 fuel _ _ this
              exact ⟨cs1, _, t1, r1, s1, rfl, l1⟩
            have hys : ∀ k, k ≤ m → (ys.take k).flatten = cs.take (k * P.cellsOf e) := by
              intro k
              induction k with
              | zero => intro _; simp
              | succ k ih =>
                intro hk
                obtain ⟨y, hy⟩ : ∃ y, ys[k]? = some y := ⟨_, List.getElem?_eq_getElem (by omega)⟩
                have := hp k (els[k]'(by omega)) y (List.getElem?_eq_getElem (by omega)) hy
                rw [List.take_add_one, hy, List.flatten_append, ih (by omega)]
                simp only [Option.toList_some, List.flatten_cons, List.flatten_nil, List.append_nil]
                rw [this.2.2.2.1, Nat.succ_mul, List.take_add]
            have hfl : ys.flatten = cs := by
              have := hys m (Nat.le_refl _)
              rwa [List.take_of_length_le (by omega), List.take_of_length_le (by omega)] at this
            refine ⟨els.flatten, ?_, ?_, ?_, hl⟩
            · simp only [Typed, hu]
              refine ⟨els, x1, rfl, fun x hx => ?_⟩
              obtain ⟨i, hi⟩ := List.mem_iff_getElem?.1 hx
              have := lt_of_get hi
              exact (hp i x (ys[i]'(by omega)) hi (List.getElem?_eq_getElem (by omega))).1
            · have := RepLL.flat (repLL_of (C := ⟨φ, [], w, []⟩) (by rw [x1, y1]) fun i x y hi hy => (hp i x y hi hy).2.1)
              rwa [hfl] at this
            · refine flat_scal fun x hx => ?_
              obtain ⟨i, hi⟩ := List.mem_iff_getElem?.1 hx
              have := lt_of_get hi
              exact (hp i x (ys[i]'(by omega)) hi (List.getElem?_eq_getElem (by omega))).2.2.1
          · cases hx
end
end Go.Proofs.YtoegmdfkcaojlaaGreat.Am
namespace Go.Proofs.YtoegmdfkcaojlaaGreat.Am
section
variable {T : AOp → Oper → Bool} {P : Program} {tb : Tab}
def TypedV (P : Program) (n : Nat) (t : TypeId) (x : AV) : Prop := if aggT P t = true then ∃ cs, x = .agg cs ∧ Typed P n t cs else Typed P n t [x]
theorem below_of_ext {φ : Nat → Place} {w : World} {D : Ctx} (X : Ext ⟨φ, [], w, []⟩ D) : Go.RowKit.Below w.heap.size w D.w :=
  ⟨X.rest.1, X.rest.2.1, X.rest.2.2, X.size, fun k hk => (X.same k hk (noOwn φ w k)).1⟩
theorem inv_empty (φ : Nat → Place) (w : World) (hg : ∀ g cs, tb.gl g = some cs → g < w.heap.size ∧ cs.all scal = true ∧ ∃ vs, Holds w g 0 vs ∧ RepL ⟨φ, [], w, []⟩ cs vs) (hi : ∀ g ∈ tb.it, ∃ m : Int, w.cell? ⟨g, 0, none⟩ = some (.int .i64 m)) : Inv tb ⟨φ, [], w, []⟩ :=
  ⟨fun id o h => by simp at h, fun i j h => absurd h (Nat.not_lt_zero _), fun i h => absurd h (Nat.not_lt_zero _), fun g cs h => by
    obtain ⟨h1, h2, h3⟩ := hg g cs h
    exact ⟨h1, noOwn φ w g, h2, h3⟩, fun g h => ⟨noOwn φ w g, hi g h⟩, fun b h => by cases h⟩
theorem value_rep {H : Type} {enc : TypeId × Value → H} {W : World} {base : Nat} {spare : Nat → Bool} {held : Bool} {n : Nat} {t : TypeId} (hp : plainT P n t = true) {v : Value} {d : DataW H} {ps : List MemPlace} (hv : Value.okWide P W .any base t v)
    (h : DataW.Trod enc P W 0 spare held t v d ps) (φ : Nat → Place) : ∃ x : AV, TypedV P n t x ∧ Rep ⟨φ, [], W, []⟩ x v := by
  obtain ⟨fuel, h⟩ := h
  obtain ⟨cs1, t1, r1, s1, l1⟩ := trod_rep φ n t hp fuel _ _ h
  cases ha : aggT P t with
  | true =>
    have hc : ∃ cs, v = .agg cs := by
      unfold Value.okWide at hv
      simp only [aggT] at ha
      split at hv
      · obtain ⟨cs, e, _⟩ := hv; exact ⟨cs, e⟩
      · obtain ⟨cs, e, _⟩ := hv; exact ⟨cs, e⟩
      · rename_i h1 h2
        split at ha
        · rename_i fs hu; exact absurd hu (h1 fs)
        · rename_i m e hu; exact absurd hu (h2 m e)
        · cases ha
    obtain ⟨cs, rfl⟩ := hc
    exact ⟨.agg cs1, by simp only [TypedV, ha, if_true]; exact ⟨cs1, rfl, t1⟩, cs.toList, by simp, s1, by simpa [Value.cells] using r1⟩
  | false =>
    have hna : ∀ cs, v ≠ .agg cs := by
      rintro cs rfl
      simp only [aggT] at ha
      unfold Value.okWide at hv
      cases n with
      | zero => simp [plainT] at hp
      | succ n =>
        simp only [plainT] at hp
        split at hp <;> rename_i hu <;> simp only [hu] at hv ha <;> first
          | (simp only [Cell.okWide, Cell.ok, hu] at hv; done)
          | (cases ha; done)
          | (cases hp; done)
    have hc : v.cells.toList = [v] := by
      cases v <;> first
        | rfl
        | exact absurd rfl (hna _)
    rw [hc] at r1
    have hl := r1.length
    obtain ⟨x, rfl⟩ : ∃ x, cs1 = [x] := by
      match cs1, hl with
      | [x], _ => exact ⟨x, rfl⟩
    obtain ⟨u, q, e, h1, h2⟩ := r1
    simp only [List.cons.injEq] at e
    obtain ⟨rfl, _⟩ := e
    exact ⟨x, by simp only [TypedV, ha, Bool.false_eq_true, if_false]; exact t1, h1⟩
def TypedVs (P : Program) (n : Nat) : List TypeId → List AV → Prop
  | [], xs => xs = []
  | t :: ts, xs => ∃ x r, xs = x :: r ∧ TypedV P n t x ∧ TypedVs P n ts r
theorem values_rep {H : Type} {enc : TypeId × Value → H} {W : World} {base : Nat} {spare : Nat → Bool} {held : Bool} {n : Nat} (φ : Nat → Place) : ∀ {ts : List TypeId} {vs : List Value} {ds : List (DataW H)} {ps : List MemPlace}, ts.all (plainT P n) = true →
    (∀ (j : Nat) t v, ts[j]? = some t → vs[j]? = some v → Value.okWide P W .any base t v) → DataW.TrodAll enc P W 0 spare held ts vs ds ps → ∃ xs : List AV, TypedVs P n ts xs ∧ RepL ⟨φ, [], W, []⟩ xs vs ∧ ds.length = ts.length
  | [], [], [], _, _, _, _ => ⟨[], rfl, rfl, rfl⟩
  | [], [], _ :: _, _, _, _, h => h.elim
  | [], _ :: _, _, _, _, _, h => by cases ‹List (DataW H)› <;> exact h.elim
  | _ :: _, [], _, _, _, _, h => by cases ‹List (DataW H)› <;> exact h.elim
  | _ :: _, _ :: _, [], _, _, _, h => h.elim
  | t :: ts, v :: vs, d :: ds, ps, hp, hv, ⟨p, q, h1, h2, _⟩ => by
    simp only [List.all_cons, Bool.and_eq_true] at hp
    obtain ⟨x, t1, r1⟩ := value_rep hp.1 (hv 0 t v rfl rfl) h1 φ
    obtain ⟨xs, t2, r2, l2⟩ := values_rep φ hp.2 (fun j t v ht hv' => hv (j + 1) t v (by simpa using ht) (by simpa using hv')) h2
    exact ⟨x :: xs, ⟨x, xs, rfl, t1, t2⟩, ⟨v, vs, rfl, r1, r2⟩, by simp [l2]⟩
theorem trodAll_below {H : Type} {enc : TypeId × Value → H} (hl : laidOutB P = true) {W W' : World} (hb : Go.RowKit.Below W.heap.size W W') : ∀ {ts : List TypeId} {vs : List Value} {ds : List (DataW H)} {ps : List MemPlace},
    ts.all (fun t => P.readableRec t && decide (t < P.types.size)) = true → DataW.TrodAll enc P W 0 (fun _ => true) true ts vs ds ps → (∀ x ∈ ps, x.block < W.heap.size) → DataW.TrodAll enc P W' 0 (fun b => decide (b < W.heap.size)) true ts vs ds ps
  | [], [], [], _, _, h, _ => h
  | [], [], _ :: _, _, _, h, _ => h.elim
  | [], _ :: _, _, _, _, h, _ => by cases ‹List (DataW H)› <;> exact h.elim
  | _ :: _, [], _, _, _, h, _ => by cases ‹List (DataW H)› <;> exact h.elim
  | _ :: _, _ :: _, [], _, _, h, _ => h.elim
  | t :: ts, v :: vs, d :: ds, ps, hp, ⟨p, q, h1, h2, e⟩, hlt => by
    simp only [List.all_cons, Bool.and_eq_true, decide_eq_true_eq] at hp
    subst e
    exact ⟨p, q, Go.RowKit.Below.trod hl hp.1.1 hp.1.2 h1 hb fun x hx => hlt x (List.mem_append_left _ hx), trodAll_below hl hb hp.2 h2 fun x hx => hlt x (List.mem_append_right _ hx), rfl⟩
theorem contract (ft : Fits T P tb) {k : FuncId} {f : Func} {bt : TypeId} {n : Nat} (hl : laidOutB P = true) (hr : f.resultTypes = #[bt]) (hb : P.underlying bt = some .bool) (hp : f.params.toList.all (plainT P n) = true)
    (hrd : f.params.toList.all (fun t => P.readableRec t && decide (t < P.types.size)) = true) {H : Type} {enc : TypeId × Value → H} {s : ChangeSpec} (hs0 : s.vars = []) (hs : ∀ ds : List (DataW H), ds.length = f.params.size → s.fn H ds = { results := [.lit (.bool true)], args := ds })
    {W : World} {base : Nat} {args : Array Value} {ds gs : List (DataW H)} {before : List MemPlace} (hval : ∀ (j : Nat) t v, f.params[j]? = some t → args[j]? = some v → Value.okWide P W .any base t v)
    (hW : DataW.Whole enc P f.params.toList s.vars false W args.toList ds gs before)
    (hgl : ∀ g cs, tb.gl g = some cs → g < W.heap.size ∧ cs.all scal = true ∧ ∃ vs, Holds W g 0 vs ∧ RepL ⟨fun _ => ⟨0, 0, 0⟩, [], W, []⟩ cs vs)
    (hit : ∀ g ∈ tb.it, ∃ m : Int, W.cell? ⟨g, 0, none⟩ = some (.int .i64 m))
    (law : ∀ xs : List AV, TypedVs P n f.params.toList xs → RepL ⟨fun _ => ⟨0, 0, 0⟩, [], W, []⟩ xs args.toList → ∃ h, den tb k xs [] = some (.b true, h)) :
    Calls P k args W fun e W' => ∃ v, e = .returned v ∧ s.post enc P f false true false false W args v W' := by
  have hW' := hW
  obtain ⟨p, q, hA, hV, rfl, hfz, hnd⟩ := hW
  rw [hs0] at hV
  obtain ⟨rfl, rfl⟩ := Go.ChangeShapes.trodVars_none hV
  obtain ⟨xs, t1, r1, l1⟩ := values_rep (fun _ => ⟨0, 0, 0⟩) hp (fun j t v ht hv => hval j t v (by simpa using ht) (by simpa using hv)) hA
  obtain ⟨h, hd⟩ := law xs t1 r1
  have I : Inv tb ⟨fun _ => ⟨0, 0, 0⟩, [], W, []⟩ := inv_empty _ W hgl hit
  have hc := den_calls ft (C := ⟨fun _ => ⟨0, 0, 0⟩, [], W, []⟩) I r1 hd
  refine hc.mono fun e W' ⟨v, D, he, X, ID, hw, hH, hv⟩ => ?_
  subst he
  subst hw
  obtain rfl : v = .bool true := hv
  have hbl := below_of_ext X
  have hlt : ∀ x ∈ p, x.block < W.heap.size := fun x hx => hW'.lt x (by simpa using hx)
  have hfn := hs (ds ++ []) (by simpa using l1)
  refine ⟨_, rfl, ds, [], p ++ [], [], p, [], hW', ?_, ?_, ?_, hbl.frame _, fun e => by cases e⟩
  · rw [hfn, hr]
    refine ⟨[], [], ⟨1, ?_⟩, rfl, rfl⟩
    simp [DataW.trod, hb, Value.cells]
  · rw [hfn]
    simpa using trodAll_below hl hbl hrd hA hlt
  · rw [hs0, hfn]
    rfl
end
end Go.Proofs.YtoegmdfkcaojlaaGreat.Am
namespace Go.Proofs.YtoegmdfkcaojlaaGreat.Am
def TyOk (P : Program) (t : TypeId) (u : T) (I : u.α → Prop) : Prop := ∀ n cs, Typed P n t cs → ∃ x, u.R (fun _ => False) [] cs x ∧ I x
def TyF (P : Program) (fs : List Field) (u : T) (I : u.α → Prop) : Prop := ∀ n cs, TypedF (Typed P n) fs cs → ∃ x, u.R (fun _ => False) [] cs x ∧ I x
section
variable {P : Program} {t e : TypeId}
theorem TyOk.weak {u : T} {I J : u.α → Prop} (h : TyOk P t u I) (w : ∀ x, I x → J x) : TyOk P t u J := fun n cs k => by
  obtain ⟨x, r, i⟩ := h n cs k
  exact ⟨x, r, w x i⟩
theorem TyOk.int {k : IntKind} (hu : P.underlying t = some (.int k)) : TyOk P t (T.int k) fun x => k.has x := by
  intro n cs h
  cases n with
  | zero => exact h.elim
  | succ n =>
    simp only [Typed, hu] at h
    obtain ⟨x, rfl, hx⟩ := h
    exact ⟨x, rfl, hx⟩
theorem TyOk.nat {k : IntKind} {m : Nat} {α : Type} {c : α → Nat} {z : α} {hs hm} (ofN : ∀ i, i < m → ∃ x, c x = i) (hk : ∀ x, k.has x → 0 ≤ x ∧ x < m) (hu : P.underlying t = some (.int k)) : TyOk P t (T.sc α (fun x => .i k (c x)) z hs hm) fun _ => True := by
  intro n cs h
  cases n with
  | zero => exact h.elim
  | succ n =>
    simp only [Typed, hu] at h
    obtain ⟨x, rfl, hx⟩ := h
    have := hk x hx
    obtain ⟨y, hy⟩ := ofN x.toNat (by omega)
    refine ⟨y, ?_, trivial⟩
    show [AV.i k x] = [AV.i k (c y)]
    rw [hy]; congr 2; omega
theorem has_u {x : Int} : (IntKind.u8.has x → 0 ≤ x ∧ x < (256 : Nat)) ∧ (IntKind.u16.has x → 0 ≤ x ∧ x < (65536 : Nat)) ∧ (IntKind.u32.has x → 0 ≤ x ∧ x < (4294967296 : Nat)) ∧ (IntKind.u64.has x → 0 ≤ x ∧ x < (18446744073709551616 : Nat)) := by
  simp only [IntKind.has, IntKind.min, IntKind.max, IntKind.signed, IntKind.bits]
  refine ⟨fun h => ?_, fun h => ?_, fun h => ?_, fun h => ?_⟩ <;> simp at h <;> omega
theorem TyOk.u8 (hu : P.underlying t = some (.int .u8)) : TyOk P t T.u8 fun _ => True := TyOk.nat (c := UInt8.toNat) (m := 256) (fun i hi => ⟨UInt8.ofNat i, by rw [UInt8.toNat_ofNat']; exact Nat.mod_eq_of_lt hi⟩) (fun _ => has_u.1) hu
theorem TyOk.u32 (hu : P.underlying t = some (.int .u32)) : TyOk P t T.u32 fun _ => True := TyOk.nat (c := UInt32.toNat) (m := 4294967296) (fun i hi => ⟨UInt32.ofNat i, by rw [UInt32.toNat_ofNat']; exact Nat.mod_eq_of_lt hi⟩) (fun _ => has_u.2.2.1) hu
theorem TyOk.u64 (hu : P.underlying t = some (.int .u64)) : TyOk P t T.u64 fun _ => True := TyOk.nat (c := UInt64.toNat) (m := 18446744073709551616) (fun i hi => ⟨UInt64.ofNat i, by rw [UInt64.toNat_ofNat']; exact Nat.mod_eq_of_lt hi⟩) (fun _ => has_u.2.2.2) hu
theorem typed_all {u : T} {I : u.α → Prop} (h : TyOk P e u I) {n : Nat} : ∀ {els : List (List AV)}, (∀ x ∈ els, Typed P n e x) → ∃ xs : List u.α, AllR u (fun _ => False) [] els xs ∧ ∀ x ∈ xs, I x
  | [], _ => ⟨[], trivial, fun _ h => by cases h⟩
  | c :: els, hx => by
    obtain ⟨xs, h1, h2⟩ := typed_all h fun y hy => hx y (List.mem_cons_of_mem _ hy)
    obtain ⟨x, h3, h4⟩ := h n c (hx c List.mem_cons_self)
    exact ⟨x :: xs, ⟨h3, h1⟩, fun y hy => by
      rcases List.mem_cons.1 hy with rfl | hy
      · exact h4
      · exact h2 y hy⟩
theorem TyOk.sl {u : T} {I : u.α → Prop} (h : TyOk P e u I) (hu : P.underlying t = some (.slice e)) (hsz : P.cellsOf e = u.sz) : TyOk P t (T.sl u) fun g => ∀ x ∈ g.l, I x := by
  intro n cs k
  cases n with
  | zero => exact k.elim
  | succ n =>
    simp only [Typed, hu] at k
    rcases k with rfl | ⟨els, rfl, hels⟩
    · exact ⟨GS.nil, ⟨_, rfl, rfl⟩, fun x hx => by cases hx⟩
    · obtain ⟨xs, h1, h2⟩ := typed_all h hels
      exact ⟨GS.mk xs, ⟨_, rfl, trivial, els, by simp [els?, hsz], h1⟩, h2⟩
theorem TyOk.arr {m : Nat} {u : T} {I : u.α → Prop} (h : TyOk P e u I) (hu : P.underlying t = some (.array m e)) : TyOk P t (T.arr m u) fun g => ∀ x ∈ g.l, I x := by
  intro n cs k
  cases n with
  | zero => exact k.elim
  | succ n =>
    simp only [Typed, hu] at k
    obtain ⟨els, hl, rfl, hels⟩ := k
    obtain ⟨xs, h1, h2⟩ := typed_all h hels
    exact ⟨⟨xs, by rw [← h1.length, hl]⟩, ⟨els, rfl, h1⟩, h2⟩
theorem TyF.one {f : Field} {u : T} {I : u.α → Prop} (h : TyOk P f.type u I) : TyF P [f] u I := by
  rintro n cs ⟨a, b, rfl, h1, h2⟩
  obtain rfl : b = [] := h2
  rw [List.append_nil]
  exact h n a h1
theorem TyF.cons {f : Field} {fs : List Field} {u w : T} {I : u.α → Prop} {J : w.α → Prop} (h : TyOk P f.type u I) (g : TyF P fs w J) : TyF P (f :: fs) (T.prod u w) fun p => I p.1 ∧ J p.2 := by
  rintro n cs ⟨a, b, rfl, h1, h2⟩
  obtain ⟨x, r1, i1⟩ := h n a h1
  obtain ⟨y, r2, i2⟩ := g n b h2
  exact ⟨(x, y), ⟨a, b, rfl, r1, r2⟩, i1, i2⟩
theorem TyOk.st {fs : Array Field} {u : T} {I : u.α → Prop} {β : Type} {f : β → u.α} {g : u.α → β} {hfg : ∀ y, f (g y) = y} (h : TyF P fs.toList u I) (hu : P.underlying t = some (.struct fs)) : TyOk P t (T.iso u β f g hfg) fun (y : β) => I (f y) := by
  intro n cs k
  cases n with
  | zero => exact k.elim
  | succ n =>
    simp only [Typed, hu] at k
    obtain ⟨x, r, i⟩ := h n cs k
    refine ⟨g x, ?_, ?_⟩
    · show u.R _ _ _ (f (g x))
      rw [hfg]; exact r
    · show I (f (g x))
      rw [hfg]; exact i
end
theorem typed_V {P : Program} {n : Nat} {t : TypeId} {u : T} {I : u.α → Prop} {v : AV} (ha : aggT P t = u.agg) (h : TyOk P t u I) (k : TypedV P n t v) : ∃ x, u.V (fun _ => False) [] v x ∧ I x := by
  unfold TypedV at k
  cases hu : u.agg with
  | true =>
    rw [ha, hu, if_pos rfl] at k
    obtain ⟨cs, rfl, k⟩ := k
    obtain ⟨x, r, i⟩ := h n cs k
    exact ⟨x, .inl ⟨hu, cs, rfl, r⟩, i⟩
  | false =>
    rw [ha, hu, if_neg (by simp)] at k
    obtain ⟨x, r, i⟩ := h n [v] k
    exact ⟨x, .inr ⟨hu, r⟩, i⟩
def Tys (P : Program) : List TypeId → (us : List T) → (Res us → Prop) → Prop
  | [], [], _ => True
  | [t], [u], I => aggT P t = u.agg ∧ TyOk P t u I
  | t :: t' :: ts, u :: u' :: us, I => ∃ (J : u.α → Prop) (K : Res (u' :: us) → Prop), (aggT P t = u.agg ∧ TyOk P t u J) ∧ Tys P (t' :: ts) (u' :: us) K ∧ ∀ x y, J x → K y → I (x, y)
  | _, _, _ => False
theorem Tys.one {P : Program} {t : TypeId} {u : T} {I : u.α → Prop} (ha : aggT P t = u.agg) (h : TyOk P t u I) : Tys P [t] [u] I := ⟨ha, h⟩
theorem Tys.cons {P : Program} {t t' : TypeId} {ts : List TypeId} {u u' : T} {us : List T} {J : u.α → Prop} {K : Res (u' :: us) → Prop} (ha : aggT P t = u.agg) (h : TyOk P t u J) (r : Tys P (t' :: ts) (u' :: us) K) :
    Tys P (t :: t' :: ts) (u :: u' :: us) fun (p : u.α × Res (u' :: us)) => J p.1 ∧ K p.2 := ⟨J, K, ⟨ha, h⟩, r, fun _ _ h k => ⟨h, k⟩⟩
theorem typed_Vs {P : Program} {n : Nat} : ∀ {ts : List TypeId} {us : List T} {I : Res us → Prop} {xs : List AV}, (us = [] → ∀ x, I x) → Tys P ts us I → TypedVs P n ts xs → ∃ a : Res us, VsR (fun _ => False) [] us xs a ∧ I a
  | [], [], _, xs, h0, _, h => ⟨(), h, h0 rfl ()⟩
  | [t], [u], I, xs, _, hT, ⟨x, r, e, h, k⟩ => by
    obtain rfl : r = [] := k
    obtain ⟨a, h1, h2⟩ := typed_V hT.1 hT.2 h
    exact ⟨a, ⟨x, e, h1⟩, h2⟩
  | t :: t' :: ts, u :: u' :: us, I, xs, _, ⟨J, K, hT, hR, hI⟩, ⟨x, r, e, h, k⟩ => by
    obtain ⟨a, h1, h2⟩ := typed_V hT.1 hT.2 h
    obtain ⟨b, h3, h4⟩ := typed_Vs (fun e => by cases e) hR k
    exact ⟨(a, b), ⟨x, r, e, h1, h3⟩, hI a b h2 h4⟩
  | [], _ :: _, _, _, _, h, _ => h.elim
  | _ :: _, [], _, _, _, h, _ => by cases ‹List TypeId› <;> exact h.elim
  | [_], _ :: _ :: _, _, _, _, h, _ => h.elim
  | _ :: _ :: _, [_], _, _, _, h, _ => h.elim
theorem Spec.law {P : Program} {tb : Tab} {g n : Nat} {ts : List TypeId} {As : List T} {F : Res As → Option Bool} {I : Res As → Prop} (S : Spec tb g As [T.b] F) (hp : tb.prim g = none) (h0 : As = [] → ∀ x, I x) (hT : Tys P ts As I) (hF : ∀ a, I a → F a = some true)
    {xs : List AV} (h : TypedVs P n ts xs) : ∃ h, den tb g xs [] = some (.b true, h) := by
  obtain ⟨a, ha, hi⟩ := typed_Vs h0 hT h
  obtain ⟨v, u, hc, _, vs, hv, w, hw, hb⟩ := (S (fun _ => False) [] xs a (fun _ h => h.elim) (by simp [mentH]) ha true (hF a hi)).call
  simp only [calling, hp] at hc
  obtain rfl : w = .b true := T.b_V.1 hb
  subst hw
  exact ⟨u, by rw [hc, hv]; rfl⟩
end Go.Proofs.YtoegmdfkcaojlaaGreat.Am
namespace Go.Proofs.YtoegmdfkcaojlaaGreat.Am
section
variable {tb : Tab} {Γ : Cx}
end
section
variable {tb : Tab} {Γ : Cx} {a b : AO}
end
end Go.Proofs.YtoegmdfkcaojlaaGreat.Am
namespace Go.Proofs.YtoegmdfkcaojlaaGreat.Am
section
variable {tb : Tab}
end
end Go.Proofs.YtoegmdfkcaojlaaGreat.Am
