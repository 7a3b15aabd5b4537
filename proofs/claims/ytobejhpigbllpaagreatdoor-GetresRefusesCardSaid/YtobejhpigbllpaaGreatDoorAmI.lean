/-
  Regions: in the order of the text; in any order that the tape draws.
-/
import Derived.Test.YtobejhpigbllpaaGreatDoorAmH
import Derived.Still
import Derived.Tactics
namespace Go.Proofs.YtobejhpigbllpaaGreatDoor.Am

def okGuard (rs : Array Oper) : Option (Nat × Bool) → Option (Nat × Bool) → Bool
  | none, none => true
  | some (t, w), some (j, w') => w == w' && (rs[j]?).bind (·.dst) == some t
  | _, _ => false

/-- an operation, as it stands in a region; T says which operations of the machine are the model's -/
def okOper (T : AOp → Oper → Bool) (nt : Nat) (rs : Array Oper) (ao : AOper) (o : Oper) : Bool :=
  decide (ao.d = o.dst) && (match o.dst with | some t => decide (t < nt) | none => true) && okGuard rs ao.g o.guard && T ao.o o
def okOpers (T : AOp → Oper → Bool) (nt : Nat) (rs : Array Oper) : List AOper → List Oper → Bool
  | [], [] => true
  | x :: l, o :: r => okOper T nt rs x o && okOpers T nt rs l r
  | _, _ => false

section
variable {T : AOp → Oper → Bool} {P : Program} {tb : Tab} {cl : Nat → List AV → Heap → Out} {nt : Nat} {rs : Array Oper}

theorem wanted_rep {C : Ctx} {f : Fr} {a : Act} (F : FrRel C f a nt) {g : Option (Nat × Bool)} {o : Oper} (h : okGuard rs g o.guard = true) {b : Bool} (hw : wanted f g = some b) :
    Region.wanted o (yielded rs a.tmps) = b := by
  unfold okGuard at h
  split at h
  · rename_i hg
    simp only [wanted, Option.some.injEq] at hw
    subst hw
    simp [Region.wanted, hg]
  · rename_i t w j w' hg
    simp only [Bool.and_eq_true, beq_iff_eq] at h
    obtain ⟨rfl, hj⟩ := h
    simp only [wanted] at hw
    split at hw
    · rename_i x hx
      simp only [Option.some.injEq] at hw
      subst hw
      have r := F.rep t
      rw [hx] at r
      have r' : a.tmps.getD t undef = .bool x := r
      have hs : a.tmps[t]? = some (.bool x) := by
        rw [Array.getD_eq_getD_getElem?] at r'
        cases ht : a.tmps[t]? with
        | none => rw [ht] at r'; simp [undef] at r'
        | some v => rw [ht] at r'; simpa using r'
      simp only [Region.wanted, hg, yielded, hj, Option.bind_some, hs]
      cases x <;> cases w <;> rfl
    · rename_i hx
      simp only [Option.some.injEq] at hw
      subst hw
      have r := F.rep t
      rw [hx] at r
      obtain ⟨vs, r', hv⟩ := r
      have hv' : vs = [] := hv
      subst hv'
      rw [Array.getD_eq_getD_getElem?] at r'
      simp only [Region.wanted, hg, yielded, hj, Option.bind_some]
      cases ht : a.tmps[t]? with
      | none => rfl
      | some v =>
        rw [ht] at r'
        simp only [Option.getD_some] at r'
        subst r'
        rfl
    · cases hw
  · cases h

theorem okOper_spec {ao : AOper} {o : Oper} (h : okOper T nt rs ao o = true) : ao.d = o.dst ∧ (∀ t, o.dst = some t → t < nt) ∧ okGuard rs ao.g o.guard = true ∧ T ao.o o = true := by
  simp only [okOper, Bool.and_eq_true, decide_eq_true_eq] at h
  obtain ⟨⟨⟨h1, h2⟩, h3⟩, h4⟩ := h
  refine ⟨h1, fun t ht => ?_, h3, h4⟩
  rw [ht] at h2
  simpa using h2

theorem ops_sound (hT : ∀ ao o, T ao o = true → OpOk P tb ao o) (hcl : CallsOk P tb fun g args h => calling tb cl h g args) {Q : Exit → Act → World → Prop} :
    ∀ (l : List AOper) (os : List Oper), okOpers T nt rs l os = true → ∀ {C : Ctx} {f : Fr} {a : Act}, Inv tb C → FrRel C f a nt → ∀ {f' : Fr} {h' : Heap}, ops tb cl l f C.H = some (f', h') →
      (∀ (D : Ctx) (a' : Act), Ext C D → Inv tb D → D.H = h' → FrRel D f' a' nt → Q .normal a' D.w) → wpList P rs Q os a C.w := by
  intro l
  induction l with
  | nil =>
    intro os h C f a I F f' h' e k
    cases os with
    | cons o os => simp [okOpers] at h
    | nil =>
      simp only [ops, Option.some.injEq, Prod.mk.injEq] at e
      obtain ⟨rfl, rfl⟩ := e
      exact k C a (Ext.refl C) I rfl F
  | cons ao l ih =>
    intro os h C f a I F f' h' e k
    cases os with
    | nil => simp [okOpers] at h
    | cons o os =>
      simp only [okOpers, Bool.and_eq_true] at h
      obtain ⟨h1, h2⟩ := h
      obtain ⟨g1, g2, g3, g4⟩ := okOper_spec h1
      simp only [ops] at e
      obtain ⟨b, hb, e⟩ := Option.bind_eq_some_iff.1 e
      have hw := wanted_rep F g3 hb
      simp only [wpList, hw]
      cases b with
      | true =>
        simp only [if_true] at e ⊢
        obtain ⟨p, hp, e⟩ := Option.bind_eq_some_iff.1 e
        refine .inl (wp_of_lands (hT _ _ g4 hcl I F hp) fun v D X ID hH hr => ?_)
        rw [← g1]
        refine ih os h2 ID (F.put X (fun t ht => g2 t (g1 ▸ ht)) hr) (by rw [hH]; exact e) fun D' a' X' => k D' a' (X.trans X')
      | false =>
        simp only [Bool.false_eq_true, if_false] at e ⊢
        rw [← g1]
        exact ih os h2 I (F.put (Ext.refl C) (fun t ht => g2 t (g1 ▸ ht)) (x := .tup []) ⟨[], rfl, rfl⟩) e k

theorem reg_sound (hT : ∀ ao o, T ao o = true → OpOk P tb ao o) (hcl : CallsOk P tb fun g args h => calling tb cl h g args) {Q : Exit → Act → World → Prop} {l : List AOper} {id : Nat}
    (h : okOpers T nt rs l rs.toList = true) {C : Ctx} {f : Fr} {a : Act} (I : Inv tb C) (F : FrRel C f a nt) {f' : Fr} {h' : Heap} (e : ops tb cl l f C.H = some (f', h'))
    (k : ∀ (D : Ctx) (a' : Act), Ext C D → Inv tb D → D.H = h' → FrRel D f' a' nt → Q .normal a' D.w) : (Code.region id rs false).wp P Q a C.w :=
  wp_region_list (ops_sound hT hcl l _ h I F e k)

/-! A region whose order is drawn. -/
def aoT : AO → List Nat
  | .t n => [n]
  | _ => []
def ooT : Option AO → List Nat
  | some x => aoT x
  | none => []
def opT : AOp → List Nat
  | .mv x => aoT x
  | .pick c a b => aoT c ++ aoT a ++ aoT b
  | .alloc _ _ => []
  | .box _ _ x => aoT x
  | .bld _ ps => ps.flatMap fun p => aoT p.2.2
  | .bls _ _ _ ps => ps.flatMap fun p => aoT p.2
  | .bll _ _ ps => ps.flatMap fun p => aoT p.2
  | .ld _ _ a => aoT a
  | .st _ a x => aoT a ++ aoT x
  | .nilc x => aoT x
  | .bin _ x y => aoT x ++ aoT y
  | .eq _ _ x y => aoT x ++ aoT y
  | .un _ x => aoT x
  | .cvi _ x => aoT x
  | .cvid x => aoT x
  | .cvb _ x => aoT x
  | .cvr x => aoT x
  | .cvs x => aoT x
  | .cvc x => aoT x
  | .mkf _ a b => a.flatMap aoT ++ b.flatMap aoT
  | .mkm => []
  | .mks _ _ _ _ l c => aoT l ++ aoT c
  | .sls x lo hi => aoT x ++ ooT lo ++ ooT hi
  | .sll _ x lo hi => aoT x ++ ooT lo ++ ooT hi
  | .sla _ _ x lo hi => aoT x ++ ooT lo ++ ooT hi
  | .fa _ x => aoT x
  | .fld _ _ _ x => aoT x
  | .ias _ x i => aoT x ++ aoT i
  | .iaa _ _ x i => aoT x ++ aoT i
  | .ixa _ _ _ x i => aoT x ++ aoT i
  | .ixs x i => aoT x ++ aoT i
  | .lkp _ _ _ m k => aoT m ++ aoT k
  | .mup _ m k v => aoT m ++ aoT k ++ aoT v
  | .rng x => aoT x
  | .nxt x => aoT x
  | .ext x _ => aoT x
  | .s2a _ _ x => aoT x
  | .mkif _ x => aoT x
  | .call _ xs => xs.flatMap aoT
  | .callv x xs => aoT x ++ xs.flatMap aoT
  | .len x => aoT x
  | .lens x => aoT x
  | .app _ _ _ s x => aoT s ++ aoT x
  | .cpy _ d s => aoT d ++ aoT s
  | .mnx _ x y => aoT x ++ aoT y
  | .clr _ x => aoT x
  | .del _ m k => aoT m ++ aoT k
  | .lenm m => aoT m
  | .cvp x => aoT x
  | .cvu _ _ x => aoT x
  | .eqp _ x y => aoT x ++ aoT y
  | .isni _ x => aoT x
  | .usd x => aoT x
  | .ust _ x n => aoT x ++ aoT n
  | .die => []

def Alike (_ : Tab) (f f' : Fr) (ts : List Nat) : Prop := ∀ t ∈ ts, get f t = get f' t
theorem Alike.l {tb : Tab} {f f' : Fr} {x y : List Nat} (h : Alike tb f f' (x ++ y)) : Alike tb f f' x := fun t ht => h t (List.mem_append_left _ ht)
theorem Alike.r {tb : Tab} {f f' : Fr} {x y : List Nat} (h : Alike tb f f' (x ++ y)) : Alike tb f f' y := fun t ht => h t (List.mem_append_right _ ht)
theorem Alike.e {f f' : Fr} {x : AO} (h : Alike tb f f' (aoT x)) : eval tb f x = eval tb f' x := by
  cases x with
  | t n => exact h n (by simp [aoT])
  | _ => rfl
theorem Alike.es {f f' : Fr} : ∀ {xs : List AO}, Alike tb f f' (xs.flatMap aoT) → xs.map (eval tb f) = xs.map (eval tb f')
  | [], _ => rfl
  | x :: xs, h => by
    rw [List.flatMap_cons] at h
    rw [List.map_cons, List.map_cons, h.l.e, Alike.es h.r]
theorem Alike.b {f f' : Fr} {lo hi : Option AO} {n : Nat} (h : Alike tb f f' (ooT lo)) (h' : Alike tb f f' (ooT hi)) : bounds (eval tb f) n lo hi = bounds (eval tb f') n lo hi := by
  cases lo <;> cases hi
  · rfl
  · have e' := Alike.e h'
    simp only [bounds, e']
  · have e := Alike.e h
    simp only [bounds, e]
  · have e := Alike.e h
    have e' := Alike.e h'
    simp only [bounds, e, e']
theorem Alike.fl {f f' : Fr} : ∀ {ps : List (Nat × Nat × AO)} {z : List AV}, Alike tb f f' (ps.flatMap fun p => aoT p.2.2) → fillL z (eval tb f) ps = fillL z (eval tb f') ps
  | [], _, _ => rfl
  | (off, n, x) :: ps, z, h => by
    rw [List.flatMap_cons] at h
    simp only [fillL]
    rw [h.l.e]
    split
    · exact Alike.fl h.r
    · rfl
theorem Alike.fe {f f' : Fr} {sz : Nat} : ∀ {ps : List (Nat × AO)} {z : List (List AV)}, Alike tb f f' (ps.flatMap fun p => aoT p.2) → fillE z sz (eval tb f) ps = fillE z sz (eval tb f') ps
  | [], _, _ => rfl
  | (i, x) :: ps, z, h => by
    rw [List.flatMap_cons] at h
    simp only [fillE]
    rw [h.l.e]
    split
    · exact Alike.fe h.r
    · rfl

theorem aop_alike {f f' : Fr} {h : Heap} : ∀ {o : AOp}, Alike tb f f' (opT o) → aop tb cl (eval tb f) h o = aop tb cl (eval tb f') h o := by
  intro o a
  cases o <;> simp only [opT] at a <;> simp only [aop]
  case bld => rw [a.fl]
  case bls => rw [a.fe]
  case bll => rw [a.fe]
  case mkf => rw [a.l.es, a.r.es]
  case sls => rw [a.l.l.e]; split <;> first | rfl | rw [Alike.b a.l.r a.r]
  case sll => rw [a.l.l.e]; congr; funext n; rw [Alike.b a.l.r a.r]
  case sla => rw [a.l.l.e, Alike.b a.l.r a.r]
  case call => rw [a.es]
  case callv => rw [a.l.e, a.r.es]
  case pick => rw [a.l.l.e, a.l.r.e, a.r.e]
  case mup => rw [a.l.l.e, a.l.r.e, a.r.e]
  all_goals first
    | rw [a.l.e, a.r.e]
    | rw [a.e]

def gT : Option (Nat × Bool) → List Nat
  | some (t, _) => [t]
  | none => []
theorem wanted_alike {f f' : Fr} {g : Option (Nat × Bool)} (a : Alike tb f f' (gT g)) : wanted f g = wanted f' g := by
  cases g with
  | none => rfl
  | some p =>
    obtain ⟨t, w⟩ := p
    simp only [wanted]
    rw [a t (by simp [gT])]

/-- how many change the memory, of the first i -/
def rank : List (Option (Nat × Nat)) → Nat → Nat
  | _, 0 => 0
  | [], _ + 1 => 0
  | none :: w, i + 1 => rank w i + 1
  | some _ :: w, i + 1 => rank w i

/-- what the walk in the order of the text says of one operation -/
def Stepped (tb : Tab) (cl : Nat → List AV → Heap → Out) (hs : List Heap) (k : Nat) (ao : AOper) (w : Option (Nat × Nat)) (f : Fr) (v : AV) : Prop :=
  ∃ t, wanted f ao.g = some t ∧ (t = false → v = .tup [] ∧ (w = none → hs[k]? = hs[k + 1]?)) ∧
    (t = true → (w = none → ∃ h u, hs[k]? = some h ∧ aop tb cl (eval tb f) h ao.o = some (v, u) ∧ hs[k + 1]? = some (u.getD h)) ∧
      ∀ lo hi, w = some (lo, hi) → ∀ j, lo ≤ j → j ≤ hi → ∃ h u, hs[j]? = some h ∧ aop tb cl (eval tb f) h ao.o = some (v, u) ∧ u.getD h = h)

theorem opsD_spec {hs : List Heap} : ∀ (l : List AOper) (ws : List (Option (Nat × Nat))) (k : Nat) (f f' : Fr), opsD tb cl hs l ws k f = some f' →
    ∃ (fr : Nat → Fr) (vl : Nat → AV), fr 0 = f ∧ fr l.length = f' ∧ k + rank ws l.length + 1 = hs.length ∧
      ∀ i ao, l[i]? = some ao → fr (i + 1) = put (fr i) ao.d (vl i) ∧ ∃ w, ws[i]? = some w ∧ Stepped tb cl hs (k + rank ws i) ao w (fr i) (vl i) := by
  intro l
  induction l with
  | nil =>
    intro ws k f f' e
    simp only [opsD] at e
    split at e
    · rename_i hk
      obtain rfl := Option.some.inj e
      exact ⟨fun _ => f, fun _ => .junk, rfl, rfl, by simpa [rank] using hk, fun i ao h => (by simp at h)⟩
    · cases e
  | cons ao l ih =>
    intro ws k f f' e
    simp only [opsD] at e
    obtain ⟨t, ht, e⟩ := Option.bind_eq_some_iff.1 e
    -- one step, and the rest
    have glue : ∀ (w : Option (Nat × Nat)) (ws' : List (Option (Nat × Nat))) (v : AV) (k' : Nat), ws = w :: ws' → k' = k + (match w with | none => 1 | some _ => 0) → Stepped tb cl hs k ao w f v →
        opsD tb cl hs l ws' k' (put f ao.d v) = some f' → ∃ (fr : Nat → Fr) (vl : Nat → AV), fr 0 = f ∧ fr (ao :: l).length = f' ∧ k + rank ws (ao :: l).length + 1 = hs.length ∧
          ∀ i x, (ao :: l)[i]? = some x → fr (i + 1) = put (fr i) x.d (vl i) ∧ ∃ w, ws[i]? = some w ∧ Stepped tb cl hs (k + rank ws i) x w (fr i) (vl i) := by
      intro w ws' v k' hws hk hst h
      subst hws
      obtain ⟨fr, vl, h0, h1, h2, h3⟩ := ih ws' k' _ f' h
      have hrank : ∀ i, k + rank (w :: ws') (i + 1) = k' + rank ws' i := by
        intro i
        subst hk
        cases w <;> simp only [rank] <;> omega
      refine ⟨fun i => match i with | 0 => f | i + 1 => fr i, fun i => match i with | 0 => v | i + 1 => vl i, rfl, h1, by rw [List.length_cons, hrank]; exact h2, ?_⟩
      intro i x hx
      cases i with
      | zero =>
        simp only [List.getElem?_cons_zero, Option.some.injEq] at hx
        subst hx
        exact ⟨h0, w, rfl, hst⟩
      | succ i =>
        obtain ⟨g1, w', g2, g3⟩ := h3 i x (by simpa using hx)
        exact ⟨g1, w', by simpa using g2, by rw [hrank]; exact g3⟩
    cases t with
    | true =>
      simp only [if_true] at e
      obtain ⟨h, hh, e⟩ := Option.bind_eq_some_iff.1 e
      obtain ⟨p, hp, e⟩ := Option.bind_eq_some_iff.1 e
      cases ws with
      | nil => simp at e
      | cons w0 w =>
        cases w0 with
        | none =>
          simp only [] at e
          split at e
          · rename_i hn
            exact glue none w p.1 (k + 1) rfl rfl ⟨true, ht, fun e => (by cases e), fun _ => ⟨fun _ => ⟨h, p.2, hh, hp, hn.symm⟩, fun lo hi e => (by cases e)⟩⟩ e
          · cases e
        | some q =>
          obtain ⟨lo, hi⟩ := q
          simp only [] at e
          split at e
          · rename_i hn
            refine glue (some (lo, hi)) w p.1 k rfl rfl ⟨true, ht, fun e => (by cases e), fun _ => ⟨fun e => (by cases e), ?_⟩⟩ e
            intro lo' hi' e' j hj hj'
            simp only [Option.some.injEq, Prod.mk.injEq] at e'
            obtain ⟨rfl, rfl⟩ := e'
            rw [List.all_eq_true] at hn
            have := hn j (List.mem_range'_1.2 ⟨hj, by omega⟩)
            simp only [decide_eq_true_eq] at this
            obtain ⟨u, hu, hu'⟩ := this
            obtain ⟨h', hh', hu⟩ := Option.bind_eq_some_iff.1 hu
            refine ⟨h', u, hh', hu, ?_⟩
            rw [hh'] at hu'
            simpa using hu'
          · cases e
    | false =>
      simp only [Bool.false_eq_true, if_false] at e
      cases ws with
      | nil => simp at e
      | cons w0 w =>
        cases w0 with
        | none =>
          simp only [] at e
          split at e
          · rename_i hn
            exact glue none w (.tup []) (k + 1) rfl rfl ⟨false, ht, fun _ => ⟨rfl, fun _ => hn⟩, fun e => (by cases e)⟩ e
          · cases e
        | some q =>
          exact glue (some q) w (.tup []) k rfl rfl ⟨false, ht, fun _ => ⟨rfl, fun e => (by cases e)⟩, fun e => (by cases e)⟩ e

end
end Go.Proofs.YtobejhpigbllpaaGreatDoor.Am
