/-
  Tests that wait for others, by cases; slices of arrays; literals of arrays; tables.
-/
import Derived.Test.YtobejhpigbllpaaGreatDoorSmV
namespace Go.Proofs.YtobejhpigbllpaaGreatDoor.Am

theorem run_gd_app {tb : Tab} {q : Bool} {g : Nat} {w : Bool} {R : List AOper} : ∀ {l : List AOper} {f : Fr} {H : Heap}, get f g = .b w → g ∉ dsts l → exec tb (den tb) (rg q (l.map (gd g w) ++ R)) f H = exec tb (den tb) (rg q (l ++ R)) f H
  | [], _, _, _, _ => rfl
  | o :: l, f, H, h, hn => by
    have hd : o.d ≠ some g := fun e => hn (by simp [dsts, e])
    have hn' : g ∉ dsts l := fun e => hn (by
      simp only [dsts, List.filterMap_cons] at e ⊢
      cases o.d <;> simp [e])
    have hwt : wanted f (gd g w o).g = wanted f o.g := by
      cases ho : o.g with
      | none => simp [gd, ho, wanted, h]
      | some p => simp [gd, ho]
    have hoo : (gd g w o).o = o.o := by cases ho : o.g <;> simp [gd, ho]
    have hod : (gd g w o).d = o.d := by cases ho : o.g <;> simp [gd, ho]
    have ih : ∀ v H', exec tb (den tb) (rg q (l.map (gd g w) ++ R)) (put f o.d v) H' = exec tb (den tb) (rg q (l ++ R)) (put f o.d v) H' := fun v H' => run_gd_app (by rw [wanted_put (w := w) hd]; exact h) hn'
    cases q with
    | true =>
      have ih' : ∀ v H', opsQ tb (den tb) H' (l.map (gd g w) ++ R) (put f o.d v) = opsQ tb (den tb) H' (l ++ R) (put f o.d v) := fun v H' => by
        have := ih v H'
        simp only [rg, if_true, exec] at this
        cases h1 : opsQ tb (den tb) H' (l.map (gd g w) ++ R) (put f o.d v) <;> cases h2 : opsQ tb (den tb) H' (l ++ R) (put f o.d v) <;> simp_all
      simp only [rg, if_true, exec, List.map_cons, List.cons_append, opsQ, hwt, hoo, hod, ih']
    | false =>
      have ih' : ∀ v H', ops tb (den tb) (l.map (gd g w) ++ R) (put f o.d v) H' = ops tb (den tb) (l ++ R) (put f o.d v) H' := fun v H' => by
        have := ih v H'
        simp only [rg, Bool.false_eq_true, if_false, exec] at this
        cases h1 : ops tb (den tb) (l.map (gd g w) ++ R) (put f o.d v) H' <;> cases h2 : ops tb (den tb) (l ++ R) (put f o.d v) H' <;> simp_all [Prod.ext_iff]
      simp only [rg, Bool.false_eq_true, if_false, exec, List.map_cons, List.cons_append, ops, hwt, hoo, hod, ih']

section
variable {tb : Tab} {Γ : Cx} {a b : AO} {ks : List Kf} {ρ : Type} {Q : Post ρ}
/-- both of two tests: the second one walked where the first one holds -/
def Sim.andI {q : Bool} {L l rest : List AOper} {g t d : Nat} {b : Bool} (Γk : Cx) (n : Nat) (og : findT Γ.ts g = some (.val T.b b)) (h : splitG g true n L = some (l, ⟨some d, none, .pick (.t g) (.t t) (.k (.b false))⟩ :: rest)) (hc : chkG g l Γ.ts = true) (hs : ∀ z, Sub (Γk.push d (.val T.b z)) (Γ.push d (.val T.b z)))
    (k : (z : Bool) → Sim tb (Γk.push d (.val T.b z)) (rg q rest) ks Q)
    (main : ((z : Bool) → Sim tb (Γk.push d (.val T.b z)) (rg q rest) ks Q) → Sim tb (Γ.push g (.val T.b true)) (rg q (l ++ ⟨some d, none, .pick (.t g) (.t t) (.k (.b false))⟩ :: rest)) ks Q) : Sim tb Γ (rg q L) ks Q :=
  ⟨if b = true then (main k).m else (k false).m, fun E f H ⟨rv, fp, I⟩ r hr => by
    have hL := splitG_spec h
    simp only [chkG, Bool.and_eq_true, Bool.not_eq_true'] at hc
    obtain ⟨hc1, hc2, hc3⟩ := hc
    have hg := T.b_V.1 (I.temps g _ og)
    have hng := memN_spec hc2
    cases b with
    | true =>
      obtain ⟨e, f', H', h4, h5⟩ := (main k).ok E f H ⟨rv, fp, I.le, I.base, I.wf, I.fplt, I.rvlt, I.scal, I.inj, I.slots, fun u φ e => by
        simp only [Cx.push, findT] at e
        split at e
        · rename_i hu; cases e; subst hu; exact T.b_V.2 hg
        · exact I.temps u φ e, I.gh⟩ r (by simpa using hr)
      exact ⟨e, f', H', by rw [hL, run_gd_app hg hng]; exact h4, h5⟩
    | false =>
      obtain ⟨f', h1, h2⟩ := skip_gd (tb := tb) (q := q) (w := true) (H := H) hg hng hc1 (by simp)
      have hp : aop tb (den tb) (eval tb f') H (.pick (.t g) (.t t) (.k (.b false))) = some (.b false, none) := by
        simp only [aop, eval, h2 g hng, hg]; rfl
      have I' : RelI E Γ rv fp f' H := I.fr fun u φ e => h2 u (apart_find hc3 e)
      obtain ⟨e, f2, H2, h4, h5⟩ := (k false).ok E _ H ⟨rv, fp, (put_b I').sub (hs _)⟩ r (by simpa using hr)
      exact ⟨e, f2, H2, by rw [hL, exec_rg_app h1, exec_rg_cons hp rfl]; exact h4, h5⟩⟩
/-- one of two tests: the second one walked where the first one fails -/
def Sim.orI {q : Bool} {L l rest : List AOper} {g t d : Nat} {b : Bool} (Γk : Cx) (n : Nat) (og : findT Γ.ts g = some (.val T.b b)) (h : splitG g false n L = some (l, ⟨some d, none, .pick (.t g) (.k (.b true)) (.t t)⟩ :: rest)) (hc : chkG g l Γ.ts = true) (hs : ∀ z, Sub (Γk.push d (.val T.b z)) (Γ.push d (.val T.b z)))
    (k : (z : Bool) → Sim tb (Γk.push d (.val T.b z)) (rg q rest) ks Q)
    (main : ((z : Bool) → Sim tb (Γk.push d (.val T.b z)) (rg q rest) ks Q) → Sim tb (Γ.push g (.val T.b false)) (rg q (l ++ ⟨some d, none, .pick (.t g) (.k (.b true)) (.t t)⟩ :: rest)) ks Q) : Sim tb Γ (rg q L) ks Q :=
  ⟨if b = true then (k true).m else (main k).m, fun E f H ⟨rv, fp, I⟩ r hr => by
    have hL := splitG_spec h
    simp only [chkG, Bool.and_eq_true, Bool.not_eq_true'] at hc
    obtain ⟨hc1, hc2, hc3⟩ := hc
    have hg := T.b_V.1 (I.temps g _ og)
    have hng := memN_spec hc2
    cases b with
    | false =>
      obtain ⟨e, f', H', h4, h5⟩ := (main k).ok E f H ⟨rv, fp, I.le, I.base, I.wf, I.fplt, I.rvlt, I.scal, I.inj, I.slots, fun u φ e => by
        simp only [Cx.push, findT] at e
        split at e
        · rename_i hu; cases e; subst hu; exact T.b_V.2 hg
        · exact I.temps u φ e, I.gh⟩ r (by simpa using hr)
      exact ⟨e, f', H', by rw [hL, run_gd_app hg hng]; exact h4, h5⟩
    | true =>
      obtain ⟨f', h1, h2⟩ := skip_gd (tb := tb) (q := q) (w := false) (H := H) hg hng hc1 (by simp)
      have hp : aop tb (den tb) (eval tb f') H (.pick (.t g) (.k (.b true)) (.t t)) = some (.b true, none) := by
        simp only [aop, eval, h2 g hng, hg]; rfl
      have I' : RelI E Γ rv fp f' H := I.fr fun u φ e => h2 u (apart_find hc3 e)
      obtain ⟨e, f2, H2, h4, h5⟩ := (k true).ok E _ H ⟨rv, fp, (put_b I').sub (hs _)⟩ r (by simpa using hr)
      exact ⟨e, f2, H2, by rw [hL, exec_rg_app h1, exec_rg_cons hp rfl]; exact h4, h5⟩⟩
/-- where the two roads meet -/
def Sim.pickI {Γ0 : Cx} {q : Bool} {rest : List AOper} {g d : Nat} {x w : Bool} {y z : AO} (og : findT Γ.ts g = some (.val T.b w)) (ht : OpF tb Γ (bif w then y else z) (.val T.b x)) (hs : Sub (Γ0.push d (.val T.b x)) (Γ.push d (.val T.b x)))
    (k : (z : Bool) → Sim tb (Γ0.push d (.val T.b z)) (rg q rest) ks Q) : Sim tb Γ (rg q (⟨some d, none, .pick (.t g) y z⟩ :: rest)) ks Q :=
  ⟨(k x).m, fun E f H ⟨rv, fp, I⟩ r hr => by
    have hg := T.b_V.1 (I.temps g _ og)
    have hp : aop tb (den tb) (eval tb f) H (.pick (.t g) y z) = some (.b x, none) := by
      have hv := T.b_V.1 (ht E rv fp f H I)
      simp only [aop, eval, hg]
      cases w <;> exact congrArg (fun v => some (v, none)) hv
    obtain ⟨e, f2, H2, h4, h5⟩ := (k x).ok E _ H ⟨rv, fp, (put_b I).sub hs⟩ r hr
    exact ⟨e, f2, H2, by rw [exec_rg_cons hp rfl]; exact h4, h5⟩⟩

/-- what leaves the memory alone, but changes what is known -/
def OpQ (tb : Tab) (Γ : Cx) (d : Option Nat) (o : AOp) {β : Type} (a : Option β) (Γ' : β → Cx) : Prop :=
  ∀ E rv fp f H, RelI E Γ rv fp f H → ∀ b, a = some b → ∃ v u, aop tb (den tb) (eval tb f) H o = some (v, u) ∧ u.getD H = H ∧ ∃ rv' fp', RelI E (Γ' b) rv' fp' (put f d v) H
def Sim.opQ {q : Bool} {d : Option Nat} {o : AOp} {l : List AOper} {β : Type} {a : Option β} {Γ' : β → Cx} (h : OpQ tb Γ d o a Γ') (k : (b : β) → Sim tb (Γ' b) (rg q l) ks Q) : Sim tb Γ (rg q (⟨d, none, o⟩ :: l)) ks Q :=
  ⟨a.bind fun b => (k b).m, fun E f H ⟨rv, fp, I⟩ r hr => by
    obtain ⟨b, hb, hr⟩ := Option.bind_eq_some_iff.1 hr
    obtain ⟨v, u, h1, h2, rv', fp', h3⟩ := h E rv fp f H I b hb
    obtain ⟨e, f', H', h4, h5⟩ := (k b).ok E _ _ ⟨rv', fp', h3⟩ r hr
    exact ⟨e, f', H', by rw [exec_rg_cons h1 h2]; exact h4, h5⟩⟩
def SimD.opQ {d : Option Nat} {o : AOp} {l : List AOper} {w : List (Option (Nat × Nat))} {y : Nat × Nat} {N k : Nat} {B : List Ob} {C : List Cb} {β : Type} {a : Option β} {Γ' : β → Cx} (hq : chkD N k B C y d o = true) (h : OpQ tb Γ d o a Γ') (s : (b : β) → SimD tb (Γ' b) N k B C l w ks Q) : SimD tb Γ N k B C (⟨d, none, o⟩ :: l) (some y :: w) ks Q :=
  ⟨a.bind fun b => (s b).m, fun E f H ⟨rv, fp, I⟩ ms hms es hes r hr => by
    obtain ⟨b, hb, hr⟩ := Option.bind_eq_some_iff.1 hr
    obtain ⟨v, u, h1, h2, rv', fp', h3⟩ := h E rv fp f H I b hb
    obtain ⟨p, e, f', H', g, g'⟩ := (s b).ok E _ _ ⟨rv', fp', h3⟩ ms (hms.put (chkD_fresh hq).1) es (hes.put (chkD_fresh hq).2) r hr
    exact ⟨p, e, f', H', stepD hq hms h1 h2 g, g'⟩⟩

/-- a literal of an array -/
theorem h_bldA {n : Nat} {t : T} {zero : List AV} {ps : List (Nat × Nat × AO)} (z : Ar t.α n) (hz : zero = (T.arr n t).zc) (h : BldL tb Γ (T.arr n t) ps (T.arr n t).z z) : OpH tb Γ (.bld zero ps) (some ()) fun _ => .val (T.arr n t) z := by
  rintro E rv fp f H R _ ⟨⟩
  exact h_bld hz rfl h E rv fp f H R z rfl

theorem flat_take {sz : Nat} : ∀ {l : List (List AV)} {i : Nat}, (∀ e ∈ l, e.length = sz) → i ≤ l.length → l.flatten.take (i * sz) = (l.take i).flatten ∧ l.flatten.drop (i * sz) = (l.drop i).flatten
  | l, 0, _, _ => by simp
  | [], i + 1, _, h => by simp at h
  | d :: l, i + 1, hl, h => by
    have h1 := hl d List.mem_cons_self
    obtain ⟨a, b⟩ := flat_take (l := l) (i := i) (fun e he => hl e (List.mem_cons_of_mem _ he)) (by simpa using h)
    have hs : (i + 1) * sz = d.length + i * sz := by rw [Nat.succ_mul]; omega
    constructor
    · rw [List.flatten_cons, hs, List.take_append, List.take_of_length_le (by omega), Nat.add_sub_cancel_left, a]; simp
    · rw [List.flatten_cons, hs, ← List.drop_drop, List.drop_left' rfl, b]; simp
theorem flat_piece {sz k m : Nat} {l : List (List AV)} (hl : ∀ e ∈ l, e.length = sz) (h : k + m ≤ l.length) : sub l.flatten (k * sz) (m * sz) = ((l.drop k).take m).flatten := by
  simp only [sub]
  rw [(flat_take hl (i := k) (by omega)).2, (flat_take (fun e he => hl e (List.mem_of_mem_drop he)) (i := m) (by rw [List.length_drop]; omega)).1]
theorem flat_len {sz : Nat} {l : List (List AV)} (hl : ∀ e ∈ l, e.length = sz) : l.flatten.length = l.length * sz := by
  induction l with
  | nil => simp
  | cons d l ih =>
    have := ih fun e he => hl e (List.mem_cons_of_mem _ he)
    have := hl d List.mem_cons_self
    simp only [List.flatten_cons, List.length_append, List.length_cons, Nat.succ_mul]; omega
theorem flat_splices {sz i : Nat} {l dss : List (List AV)} (hl : ∀ e ∈ l, e.length = sz) (hd : ∀ e ∈ dss, e.length = sz) (h : i + dss.length ≤ l.length) : splice l.flatten (i * sz) dss.flatten = (l.take i ++ dss ++ l.drop (i + dss.length)).flatten := by
  simp only [splice, List.flatten_append]
  rw [(flat_take hl (i := i) (by omega)).1, flat_len hd, ← Nat.add_mul, (flat_take hl (i := i + dss.length) h).2]
/-- a piece of an array, as a field -/
def Fld.piece (n : Nat) (t : T) (k m : Nat) (hkm : k + m ≤ n) : Fld (T.arr n t) (T.arr m t) (k * t.sz) where
  get := fun x => ⟨(x.l.drop k).take m, by rw [List.length_take, List.length_drop, x.len]; omega⟩
  put := fun x y => ⟨x.l.take k ++ y.l ++ x.l.drop (k + m), by rw [List.length_append, List.length_append, List.length_take, List.length_drop, x.len, y.len]; omega⟩
  le := by
    show k * t.sz + m * t.sz ≤ n * t.sz
    rw [← Nat.add_mul]; exact Nat.mul_le_mul_right _ hkm
  getR := fun {P H cs x} ⟨css, e, h⟩ => by
    refine ⟨(css.drop k).take m, ?_, h.drop.take⟩
    have hlen := h.length
    have hx := x.len
    rw [e]
    exact flat_piece h.lens (by omega)
  putR := fun {P H cs x c y} ⟨css, e, h⟩ ⟨dss, e', h'⟩ => by
    refine ⟨css.take k ++ dss ++ css.drop (k + m), ?_, (h.take.app h').app h.drop⟩
    have hlen := h.length
    have hx := x.len
    have hlen' := h'.length
    have hy := y.len
    rw [e, e']
    have := flat_splices (dss := dss) h.lens h'.lens (i := k) (by omega)
    rw [this, show dss.length = m by omega]

/-! slices of one's own cells -/
theorem h_slaC {j off n sz : Nat} {ps : List (Nat × Fact)} {lo hi : Option AO} {l h : Option Int} (hj : findS Γ.ss j = some (.cells ps)) (hle : Nat.ble (off + n * sz) (sizes ps) = true) (ha : OpF tb Γ a (.cp j off)) (hl : OpO tb Γ lo l) (hh : OpO tb Γ hi h) :
    OpH tb Γ (.sla n sz a lo hi) (bnd n l h) fun p => .oc j (off + p.1 * sz) sz (p.2 - p.1) := by
  intro E rv fp f H I p hp
  obtain ⟨lv, id, e, hv⟩ := ha E rv fp f H I
  obtain ⟨cs, h0, h2, h3⟩ := cells_of I hj e
  have hs := PR.length h3
  have hle := Nat.le_of_ble_eq_true hle
  refine ⟨.ocel sz id (off + p.1 * sz) (p.2 - p.1), none, ?_, rfl, lv, id, e, rfl⟩
  simp only [aop, hv]
  rw [bounds_of hl hh I, hp]
  simp only [Option.bind_some, arrsl, h2]
  rw [if_pos (by omega)]
  rfl
/-- .. with bounds that are known -/
theorem h_slaL {j off n sz k m o' c : Nat} {ps : List (Nat × Fact)} {lo hi : Option AO} {l h : Option Int} (hj : findS Γ.ss j = some (.cells ps)) (hle : Nat.ble (off + n * sz) (sizes ps) = true) (ha : OpF tb Γ a (.cp j off)) (hl : OpO tb Γ lo l) (hh : OpO tb Γ hi h)
    (hb : bnd n l h = some (k, m)) (ho : off + k * sz = o') (hc : m - k = c) : OpH tb Γ (.sla n sz a lo hi) (some ()) fun _ => .oc j o' sz c := by
  rintro E rv fp f H I _ ⟨⟩
  subst ho hc
  exact h_slaC hj hle ha hl hh E rv fp f H I (k, m) hb
theorem h_sllC {j off len sz : Nat} {lo hi : Option AO} {l h : Option Int} (ha : OpF tb Γ a (.oc j off sz len)) (hl : OpO tb Γ lo l) (hh : OpO tb Γ hi h) :
    OpH tb Γ (.sll sz a lo hi) (bnd len l h) fun p => .oc j (off + p.1 * sz) sz (p.2 - p.1) := by
  intro E rv fp f H I p hp
  obtain ⟨lv, id, e, hv⟩ := ha E rv fp f H I
  refine ⟨.ocel sz id (off + p.1 * sz) (p.2 - p.1), none, ?_, rfl, lv, id, e, rfl⟩
  simp only [aop, hv, len?, Option.bind_some]
  rw [bounds_of hl hh I, hp]
  simp [Am.resl, val]
/-- .. from the start -/
theorem bnd_start {n : Nat} {h : Option Int} {p : Nat × Nat} (e : bnd n none h = some p) : p.1 = 0 ∧ p.2 ≤ n := by
  have h2 := (bnd_le e).2
  unfold bnd at e
  obtain ⟨u, hu, e⟩ := Option.bind_eq_some_iff.1 e
  obtain ⟨l, hl, e⟩ := Option.bind_eq_some_iff.1 e
  cases hl
  cases e
  exact ⟨rfl, h2⟩
theorem h_slaS {j off n sz : Nat} {ps : List (Nat × Fact)} {hi : Option AO} {h : Option Int} (hj : findS Γ.ss j = some (.cells ps)) (hle : Nat.ble (off + n * sz) (sizes ps) = true) (ha : OpF tb Γ a (.cp j off)) (hh : OpO tb Γ hi h) :
    OpH tb Γ (.sla n sz a none hi) ((bnd n none h).map fun p => p.2) fun m => .oc j off sz m := by
  intro E rv fp f H I m hm
  obtain ⟨p, hp, rfl⟩ := Option.map_eq_some_iff.1 hm
  have := h_slaC hj hle ha .none hh E rv fp f H I p hp
  simp only [(bnd_start hp).1, Nat.zero_mul, Nat.add_zero, Nat.sub_zero] at this
  exact this
theorem h_sllS {j off len sz : Nat} {hi : Option AO} {h : Option Int} (ha : OpF tb Γ a (.oc j off sz len)) (hh : OpO tb Γ hi h) :
    OpH tb Γ (.sll sz a none hi) ((bnd len none h).map fun p => p.2) fun m => .oc j off sz m := by
  intro E rv fp f H I m hm
  obtain ⟨p, hp, rfl⟩ := Option.map_eq_some_iff.1 hm
  have := h_sllC ha .none hh E rv fp f H I p hp
  simp only [(bnd_start hp).1, Nat.zero_mul, Nat.add_zero, Nat.sub_zero] at this
  exact this
theorem h_s2aC {j off len sz n : Nat} (ha : OpF tb Γ a (.oc j off sz len)) (hn : Nat.ble n len = true) : OpH tb Γ (.s2a n sz a) (some ()) fun _ => .cp j off := by
  rintro E rv fp f H I _ ⟨⟩
  obtain ⟨lv, id, e, hv⟩ := ha E rv fp f H I
  have hn := Nat.le_of_ble_eq_true hn
  exact ⟨.ptr id off, none, by simp only [aop, hv, arrOf]; rw [if_pos ⟨trivial, hn⟩]; rfl, rfl, lv, id, e, rfl⟩
theorem h_lenC {j off len sz : Nat} (ha : OpF tb Γ a (.oc j off sz len)) : OpH tb Γ (.len a) (some (len : Int)) fun n => .val (T.int .i64) n := by
  rintro E rv fp f H I _ ⟨⟩
  obtain ⟨lv, id, e, hv⟩ := ha E rv fp f H I
  exact ⟨.i .i64 len, none, by simp only [aop, hv, len?, Option.map_some], rfl, T.int_V.2 rfl⟩
theorem h_iasC {j off len sz : Nat} {k : IntKind} {i : Int} {ps : List (Nat × Fact)} (hj : findS Γ.ss j = some (.cells ps)) (hle : off + len * sz ≤ sizes ps) (ha : OpF tb Γ a (.oc j off sz len)) (hb : OpF tb Γ b (.val (T.int k) i)) :
    OpH tb Γ (.ias sz a b) (idxN len i) fun m => .cp j (off + m * sz) := by
  intro E rv fp f H I m hm
  obtain ⟨h0, rfl, h1⟩ := idxN_spec hm
  obtain ⟨lv, id, e, hv⟩ := ha E rv fp f H I
  obtain ⟨cs, g0, g2, g3⟩ := cells_of I hj e
  have hs := PR.length g3
  have hcl : ∀ (n : Nat) (l : List AV), (chunks sz n l).length = n := by
    intro n
    induction n with
    | zero => intro l; rfl
    | succ n ih => intro l; simp [chunks, ih]
  refine ⟨.ptr id (off + i.toNat * sz), none, ?_, rfl, lv, id, e, rfl⟩
  simp only [aop, hv, T.int_V.1 (hb E rv fp f H I), int?, Option.bind_some, if_pos h0, iaddr, els?, g2]
  rw [if_pos ⟨trivial, by omega⟩]
  simp only [Option.bind_some, hcl]
  rw [if_pos (by omega)]
  rfl

theorem h_iasD {j off len sz : Nat} {k : IntKind} {i : Int} {ps : List (Nat × Fact)} (N : Nat) (hj : findS Γ.ss j = some (.cells ps)) (hN : N = sizes ps) (ha : OpF tb Γ a (.oc j off sz len)) (hb : OpF tb Γ b (.val (T.int k) i)) :
    OpH tb Γ (.ias sz a b) (if off + len * sz ≤ N then idxN len i else none) fun m => .cp j (off + m * sz) := by
  intro E rv fp f H I m hm
  split at hm
  · rename_i hle
    exact h_iasC hj (hN ▸ hle) ha hb E rv fp f H I m hm
  · cases hm

theorem RelI.learn {E : Env} {rv : Nat → AV} {fp : Fp} {f : Fr} {H : Heap} (I : RelI E Γ rv fp f H) {d : Nat} {φ : Fact} (h : FR rv Γ.ss (Pf E Γ.ss fp H) H φ (get f d)) : RelI E (Γ.push d φ) rv fp f H :=
  ⟨I.le, I.base, I.wf, I.fplt, I.rvlt, I.scal, I.inj, I.slots, fun t ψ e => by
    simp only [Cx.push, findT] at e
    split at e
    · rename_i hd; cases e; subst hd; exact h
    · exact I.temps t ψ e, I.gh⟩
/-- what a slice of one's own cells holds -/
def frzO {α : Type} (l : List α) (k m n : Nat) : Option (GS α) := if k + m ≤ n then some (.mk ((l.drop k).take m)) else none
theorem RelI.frzSl {E : Env} {rv : Nat → AV} {fp : Fp} {f : Fr} {H : Heap} (I : RelI E Γ rv fp f H) {j N o k m n sz d : Nat} {t u : T} {x : t.α} {g : GS u.α} (F : Fld t (T.arr n u) o) (hsz : sz = u.sz) (hj : findS Γ.ss j = some (.cells [(N, .val t x)])) (hn : Nat.blt j parj = true)
    (hd : findT Γ.ts d = some (.oc j (o + k * sz) sz m)) (hg : frzO (F.get x).l k m n = some g) : RelI E ((Γ.turn j (celF t x)).push d (.val (T.sl u) g)) rv fp f H := by
  have hlj : live Γ.ss j := live_of hj rfl
  have hs := I.slots j _ hj
  obtain ⟨_, id, e, hv⟩ := I.temps d _ hd
  obtain ⟨id', cs, h3, h0, h4, c, e', h5, h6, h7, h8⟩ := hs
  rw [e] at h3
  cases h3
  have h8' : e' = [] := h8
  subst h8'
  simp only [List.append_nil] at h5
  subst h5
  simp only [frzO] at hg
  split at hg
  · rename_i hkm
    cases hg
    have hlen := t.len h7
    have hle := F.le
    have J := I.frzCell hj hn
    have hlv : ∀ k, live (Γ.turn j (celF t x)).ss k ↔ k ≠ j ∧ live Γ.ss k := gone_live
    subst hsz
    have hk := (h0 id).2 rfl
    have hPid : Pf E (Γ.turn j (celF t x)).ss fp H id := Pf.gone I hlj hk (fun k lk => (hlv k).1 lk) (I.new hlj hn id hk)
    have hr := t.mono (G := H) (fun i hi => ⟨Pf.same (ss' := (Γ.turn j (celF t x)).ss) (fun k l => ((hlv k).1 l).2) hi, rfl⟩) h7
    obtain ⟨css, e1, e2⟩ := F.getR hr
    have hszA : (T.arr n u).sz = n * u.sz := rfl
    have hwhole : SlV u (Pf E (Γ.turn j (celF t x)).ss fp H) H (.ocel u.sz id o n) (.mk (F.get x).l) := by
      refine ⟨hPid, css, ?_, e2⟩
      simp only [els?, h4, Option.bind_some]
      rw [if_pos ⟨trivial, by omega⟩]
      congr 1
      have key : ∀ (k : Nat) (css : List (List AV)) (cs : List AV), css.length = k → (∀ e ∈ css, e.length = u.sz) → cs.take (k * u.sz) = css.flatten → chunks u.sz k cs = css := by
        intro k
        induction k with
        | zero => intro css cs h _ _; rw [List.eq_nil_of_length_eq_zero h]; rfl
        | succ k ih =>
          intro css cs hk hall hc
          match css, hk with
          | y :: css, hk =>
            have hy := hall y (by simp)
            simp only [chunks]
            simp only [List.flatten_cons] at hc
            have hA : cs.take u.sz = y := by
              have := congrArg (List.take u.sz) hc
              rw [List.take_take, Nat.min_eq_left (by rw [Nat.succ_mul]; omega), List.take_left' hy] at this
              exact this
            have hB : (cs.drop u.sz).take (k * u.sz) = css.flatten := by
              have := congrArg (List.drop u.sz) hc
              rw [List.drop_left' hy, List.drop_take, Nat.succ_mul, Nat.add_sub_cancel] at this
              exact this
            rw [hA, ih css (cs.drop u.sz) (by simpa using hk) (fun e he => hall e (by simp [he])) hB]
      exact key n css (cs.drop o) (by rw [e2.length]; exact (F.get x).len) e2.lens (by rw [← e1]; rfl)
    have hlenx : (F.get x).l.length = n := (F.get x).len
    obtain ⟨w, h9, h10⟩ := hwhole.resl (c := k) (d := k + m) (by omega) (by simp only [GS.l]; omega)
    have hw : Am.resl H u.sz (.ocel u.sz id o n) k (k + m) = some (.ocel u.sz id (o + k * u.sz) m) := by simp [Am.resl]
    rw [hw] at h9
    cases h9
    refine J.learn ?_
    rw [hv]
    have : pieceG (GS.mk (F.get x).l) k (k + m) = .mk (((F.get x).l.drop k).take m) := by simp [pieceG, List.drop_take]
    rw [this] at h10
    exact T.sl_V.2 h10
  · cases hg
def Sim.frzSl {c : AC} {j N o k m n sz : Nat} (d : Nat) {t u : T} {x : t.α} (F : Fld t (T.arr n u) o) (hsz : sz = u.sz) (hj : findS Γ.ss j = some (.cells [(N, .val t x)])) (hn : Nat.blt j parj = true)
    (hd : findT Γ.ts d = some (.oc j (o + k * sz) sz m)) (s : (g : GS u.α) → Sim tb ((Γ.turn j (celF t x)).push d (.val (T.sl u) g)) c ks Q) : Sim tb Γ c ks Q :=
  ⟨(frzO (F.get x).l k m n).bind fun g => (s g).m, fun E f H ⟨rv, fp, I⟩ r hr => by
    obtain ⟨g, hg, hr⟩ := Option.bind_eq_some_iff.1 hr
    exact (s g).ok E f H ⟨rv, fp, I.frzSl F hsz hj hn hd hg⟩ r hr⟩
def SimD.frzSl {l : List AOper} {w : List (Option (Nat × Nat))} {N0 k0 : Nat} {B : List Ob} {C : List Cb} {j N o k m n sz : Nat} (d : Nat) {t u : T} {x : t.α} (F : Fld t (T.arr n u) o) (hsz : sz = u.sz) (hj : findS Γ.ss j = some (.cells [(N, .val t x)])) (hn : Nat.blt j parj = true)
    (hd : findT Γ.ts d = some (.oc j (o + k * sz) sz m)) (s : (g : GS u.α) → SimD tb ((Γ.turn j (celF t x)).push d (.val (T.sl u) g)) N0 k0 B C l w ks Q) : SimD tb Γ N0 k0 B C l w ks Q :=
  ⟨(frzO (F.get x).l k m n).bind fun g => (s g).m, fun E f H ⟨rv, fp, I⟩ ms hms es hes r hr => by
    obtain ⟨g, hg, hr⟩ := Option.bind_eq_some_iff.1 hr
    exact (s g).ok E f H ⟨rv, fp, I.frzSl F hsz hj hn hd hg⟩ ms hms es hes r hr⟩
/-- some of an array's elements are written over -/
def cpyA {α : Type} {n : Nat} (x : Ar α n) (k m : Nat) (ys : List α) : Option (Ar α n) :=
  if h : k + m ≤ n then some ⟨x.l.take k ++ ys.take m ++ x.l.drop (k + min ys.length m), by
    rw [List.length_append, List.length_append, List.length_take, List.length_take, List.length_drop, x.len]; omega⟩ else none
theorem RelI.cpy {E : Env} {rv : Nat → AV} {fp : Fp} {f : Fr} {H : Heap} (I : RelI E Γ rv fp f H) {s t : T} {x : s.α} {n j o o' k sz m N : Nat} {ps : List (Nat × Fact)} {ys : List t.α} {z : Ar t.α n} (F : Fld s (T.arr n t) o') (hk : sz = t.sz)
    (ha : OpF tb Γ a (.oc j (o + k * sz) sz m)) (hb : NewL tb Γ b t ys) (hj : findS Γ.ss j = some (.cells ps)) (hp : findP ps o = some (N, .val s x, o')) (hz : cpyA (F.get x) k m ys = some z) :
    ∃ v H', aop tb (den tb) (eval tb f) H (.cpy sz a b) = some (v, some H') ∧ v = .i .i64 ((min ys.length m : Nat) : Int) ∧ ∃ rv' fp', RelI E (Γ.setS j (.cells (putP ps o (.val s (F.put x z))))) rv' fp' f H' := by
  subst hk
  simp only [cpyA] at hz
  split at hz
  · rename_i hkm
    cases hz
    obtain ⟨l, id, e, hv⟩ := ha E rv fp f H I
    obtain ⟨cs, h0, h2, h3⟩ := cells_of I hj e
    obtain ⟨b', c, e0, e1, e2, e3, e4, e5, e6⟩ := findP_spec h3 hp
    obtain ⟨els, g1, g2⟩ := hb E rv fp f H I
    have hel := g2.length
    have hlens := (g2.take (n := m)).lens
    have htl : (els.take m).length = min ys.length m := by rw [List.length_take, hel, Nat.min_comm]
    have hfl := flat_len hlens
    rw [htl] at hfl
    let G := Fld.comp F (Fld.piece n t k (min ys.length m) (by omega))
    have hle := G.le
    have hszA : (T.arr (min ys.length m) t).sz = min ys.length m * t.sz := rfl
    have hl := s.len e4
    have hy : (T.arr (min ys.length m) t).R (Pf E Γ.ss fp H) H (els.take m).flatten ⟨ys.take m, by rw [List.length_take, Nat.min_comm]⟩ := ⟨els.take m, rfl, g2.take⟩
    have hput := G.putR e4 hy
    have hpr := e6 (o' + k * t.sz) (els.take m).flatten (.val s (G.put x ⟨ys.take m, by rw [List.length_take, Nat.min_comm]⟩)) (by rw [hfl]; omega) hput
    rw [show b' + (o' + k * t.sz) = o + k * t.sz by omega] at hpr
    have hmen := PR.men I.ltP I.rvlt h3
    have hym := (T.arr (min ys.length m) t).men hy I.ltP
    have hlt' := (I.fplt j id l ((h0 id).2 rfl)).1
    have hx : G.put x ⟨ys.take m, by rw [List.length_take, Nat.min_comm]⟩ = F.put x ⟨(F.get x).l.take k ++ ys.take m ++ (F.get x).l.drop (k + min ys.length m), by
        rw [List.length_append, List.length_append, List.length_take, List.length_take, List.length_drop, (F.get x).len]; omega⟩ := rfl
    rw [hx] at hpr
    obtain ⟨rv', fp', _, _, R'⟩ := I.set (j := j) (S := .cells (putP ps o (.val s (F.put x ⟨(F.get x).l.take k ++ ys.take m ++ (F.get x).l.drop (k + min ys.length m), by
        rw [List.length_append, List.length_append, List.length_take, List.length_take, List.length_drop, (F.get x).len]; omega⟩)))) (v := rv j) (o := .cells (labAt H id) (splice cs (o + k * t.sz) (els.take m).flatten)) (by rw [hj]; rfl) l h0 (by simp only [mentO]; exact mentL_splice hmen hym) rfl (I.rvlt j l) (.inl rfl) (I.scal j l) fun rv' fp' e1 e2 hP hs =>
      ⟨id, _, by rw [e1, e], e2, by simp [cellsAt, hlt'], PR.mono hP (by simp) (fun p _ => hs p.2 (.inl rfl)) hpr⟩
    refine ⟨_, H.set id (AObj.cells (labAt H id) (splice cs (o + k * t.sz) (els.take m).flatten)), ?_, rfl, rv', fp', R'⟩
    have hmn : min els.length m = min ys.length m := by rw [hel]
    have hbnd : o + k * t.sz + m * t.sz ≤ cs.length := by
      have hF := F.le
      have hszF : (T.arr n t).sz = n * t.sz := rfl
      have : (k + m) * t.sz ≤ n * t.sz := Nat.mul_le_mul_right _ hkm
      rw [Nat.add_mul] at this
      omega
    simp only [aop, g1, Option.bind_some, hv, copyTo, h2]
    rw [if_pos ⟨trivial, hbnd⟩, hmn]
    have hte : els.take (min ys.length m) = els.take m := by
      rw [← hmn]
      rcases Nat.le_total els.length m with h | h
      · rw [Nat.min_eq_left h, List.take_of_length_le (Nat.le_refl _), List.take_of_length_le h]
      · rw [Nat.min_eq_right h]
    rw [hte, splice, hfl]
  · cases hz
theorem M_cpyC {s t : T} {x : s.α} {n j o o' k sz m N : Nat} {ps : List (Nat × Fact)} {ys : List t.α} (F : Fld s (T.arr n t) o') (hk : sz = t.sz)
    (ha : OpF tb Γ a (.oc j (o + k * sz) sz m)) (hb : NewL tb Γ b t ys) (hj : findS Γ.ss j = some (.cells ps)) (hp : findP ps o = some (N, .val s x, o')) :
    OpM tb Γ none (.cpy sz a b) (cpyA (F.get x) k m ys) fun z => Γ.setS j (.cells (putP ps o (.val s (F.put x z)))) := fun E rv fp f H I z hz => by
  obtain ⟨v, H', h1, _, rv', fp', h2⟩ := I.cpy F hk ha hb hj hp hz
  exact ⟨v, some H', h1, rv', fp', h2⟩
theorem M_cpyD {s t : T} {x : s.α} {n j o o' k sz m N d : Nat} {ps : List (Nat × Fact)} {ys : List t.α} (F : Fld s (T.arr n t) o') (hk : sz = t.sz)
    (ha : OpF tb Γ a (.oc j (o + k * sz) sz m)) (hb : NewL tb Γ b t ys) (hj : findS Γ.ss j = some (.cells ps)) (hp : findP ps o = some (N, .val s x, o')) :
    OpM tb Γ (some d) (.cpy sz a b) (cpyA (F.get x) k m ys) fun z => (Γ.setS j (.cells (putP ps o (.val s (F.put x z))))).push d (.val (T.int .i64) ((min ys.length m : Nat) : Int)) := fun E rv fp f H I z hz => by
  obtain ⟨v, H', h1, rfl, rv', fp', h2⟩ := I.cpy F hk ha hb hj hp hz
  exact ⟨_, some H', h1, rv', fp', h2.push (T.int_V.2 rfl)⟩

/-! variables that hold what is no value -/
def oneF : Fact → Bool
  | .own _ => true
  | .rp _ _ => true
  | .cp _ _ => true
  | .ep _ _ _ => true
  | .con _ => true
  | .fnv _ _ _ => true
  | _ => false
theorem oneF_spec {φ : Fact} (h : oneF φ = true) {E : Env} {rv : Nat → AV} {fp : Fp} {f : Fr} {H : Heap} (R : RelI E Γ rv fp f H) (hs : szF Γ.ss φ = some 1) {v : AV} (r : FR rv Γ.ss (Pf E Γ.ss fp H) H φ v) :
    cellsOf v = [v] ∧ ment v ≤ H.length ∧ ∀ rv ss P H, FC rv ss P H φ [v] ↔ FR rv ss P H φ v := by
  obtain ⟨g1, g2⟩ := szF_spec R hs r
  have ha : aggF φ = false := by cases φ <;> first | rfl | (simp only [oneF, Bool.false_eq_true] at h)
  rw [ha] at g2
  refine ⟨?_, FR.men R.ltP R.rvlt (by rintro rfl; cases h) r, fun rv ss P H => ?_⟩
  · match hc : cellsOf v, g1 with
    | [w], _ =>
      rw [hc] at g2
      simp only [asVal, Option.some.injEq] at g2
      rw [g2]
  · cases φ <;> first
      | (simp only [oneF, Bool.false_eq_true] at h; done)
      | exact ⟨fun ⟨w, e, r⟩ => by cases e; exact r, fun r => ⟨v, rfl, r⟩⟩
theorem M_stR {φ ψ : Fact} {j o : Nat} {ps : List (Nat × Fact)} (hs : szF Γ.ss ψ = some 1) (hr : oneF ψ = true) (ha : OpF tb Γ a (.cp j o)) (hb : OpF tb Γ b ψ) (hj : findS Γ.ss j = some (.cells ps)) (hp : findP ps o = some (1, φ, 0)) :
    OpM tb Γ none (.st 1 a b) (some ()) fun _ => Γ.setS j (.cells (putP ps o ψ)) :=
  M_st ha hj hp fun E rv fp f H R c hc hN _ => by
    obtain ⟨g1, g2, g3⟩ := oneF_spec hr R hs (hb E rv fp f H R)
    rw [g1]
    refine ⟨rfl, by omega, by simpa [mentL] using g2, ?_⟩
    match c, hN with
    | [w], _ => exact (g3 _ _ _ _).2 (hb E rv fp f H R)
theorem M_boxR {φ : Fact} {d t0 : Nat} (j : Nat) (hs : szF Γ.ss φ = some 1) (hr : oneF φ = true) (hj : findS Γ.ss j = none) (ha : OpF tb Γ a φ) : OpM tb Γ (some d) (.box t0 1 a) (some ()) fun _ => ⟨(d, .cp j 0) :: Γ.ts, (j, .cells [(1, φ)]) :: Γ.ss⟩ := by
  rintro E rv fp f H R _ ⟨⟩
  obtain ⟨g1, g2, g3⟩ := oneF_spec hr R hs (ha E rv fp f H R)
  obtain ⟨rv', fp', h1, h2, h3⟩ := R.more (j := j) (S := .cells [(1, φ)]) (v := .ptr H.length 0) (o := .cells (some t0) [eval tb f a]) (live_none hj) (by simp only [mentO, mentL]; omega) rfl (by simp [ment]) rfl fun rv' fp' e1 e2 hP hs' =>
    ⟨_, [eval tb f a], e1, e2, by simp [cellsAt], [eval tb f a], [], rfl, rfl, (g3 _ _ _ _).2 ((ha E rv fp f H R).mono hP (hs' φ)), rfl⟩
  exact ⟨.ptr H.length 0, some (H ++ [AObj.cells (some t0) [eval tb f a]]), by simp only [aop, g1]; rfl, rv', fp', h3.push (φ := .cp j 0) ⟨h2, _, h1, rfl⟩⟩
theorem M_allocP {d t0 : Nat} {z : List AV} (j : Nat) (ps : List (Nat × Fact)) (hz : ∀ rv ss P H, PR rv ss P H ps z) (hm : mentL z = 0) (hj : findS Γ.ss j = none) : OpM tb Γ (some d) (.alloc t0 z) (some ()) fun _ => ⟨(d, .cp j 0) :: Γ.ts, (j, .cells ps) :: Γ.ss⟩ := by
  intro E rv fp f H R _ hz0
  obtain ⟨rv', fp', h1, h2, h3⟩ := R.more (j := j) (S := .cells ps) (v := .ptr H.length 0) (o := .cells (some t0) z) (live_none hj) (by simp only [mentO]; omega) rfl (by simp [ment]) rfl fun rv' fp' e1 e2 hP hs =>
    ⟨_, z, e1, e2, by simp [cellsAt], hz _ _ _ _⟩
  exact ⟨_, _, rfl, rv', fp', h3.push (φ := .cp j 0) ⟨h2, _, h1, rfl⟩⟩
theorem h_cvcI {I : IT} {x : I.t.α} (ha : OpF tb Γ a (.val I.t x)) : OpH tb Γ (.cvc a) (some (Utf8.encode (I.toI x)).data.toList) fun z => .val T.str z := by
  rintro E rv fp f H R z ⟨⟩
  exact ⟨_, none, by simp only [aop, I.V.1 (ha E rv fp f H R)], rfl, T.str_V.2 rfl⟩
end
section
variable {tb : Tab} {Γ : Cx} {a b : AO}
/-- kept values of one cell each -/
def oneKs (ss : Ss) : List Nat → Bool
  | [] => true
  | j :: r => (match findS ss j with
    | some (.keep φ) => oneF φ && (match szF ss φ with | some 1 => true | _ => false)
    | _ => false) && oneKs ss r
theorem oneKs_spec {E : Env} {rv : Nat → AV} {fp : Fp} {f : Fr} {H : Heap} (R : RelI E Γ rv fp f H) : ∀ {js : List Nat}, oneKs Γ.ss js = true → (js.flatMap fun j => cellsOf (rv j)) = js.map rv ∧ keeps Γ.ss js ∧ ∀ j ∈ js, ment (rv j) ≤ H.length
  | [], _ => ⟨rfl, fun _ hj => absurd hj (by simp), fun _ hj => absurd hj (by simp)⟩
  | j :: r, h => by
    simp only [oneKs, Bool.and_eq_true] at h
    obtain ⟨h1, h2⟩ := h
    obtain ⟨g1, g2, g3⟩ := oneKs_spec R h2
    split at h1
    · rename_i φ e
      simp only [Bool.and_eq_true] at h1
      have hs : szF Γ.ss φ = some 1 := by
        have := h1.2
        split at this
        · assumption
        · cases this
      obtain ⟨k1, k2, _⟩ := oneF_spec h1.1 R hs (R.slots j _ e).1
      refine ⟨by simp only [List.flatMap_cons, List.map_cons, k1, g1]; rfl, fun k hk => ?_, fun k hk => ?_⟩
      · rcases List.mem_cons.1 hk with rfl | hk
        · rw [e]; rfl
        · exact g2 k hk
      · rcases List.mem_cons.1 hk with rfl | hk
        · exact k2
        · exact g3 k hk
    · cases h1
def kvs (js : List Nat) : List (Nat × Fact) := js.map fun k => (1, .kv k)
theorem kvs_PR {rv : Nat → AV} {ss : Ss} {P : Nat → Prop} {H : Heap} : ∀ {js : List Nat}, keeps ss js → PR rv ss P H (kvs js) (js.map rv)
  | [], _ => rfl
  | j :: r, h => ⟨[rv j], r.map rv, rfl, rfl, ⟨rv j, rfl, fun k hk => by rw [List.mem_singleton.1 hk]; exact h j (by simp), rfl⟩, kvs_PR fun k hk => h k (by simp [hk])⟩
theorem PR_kvs {rv : Nat → AV} {ss : Ss} {P : Nat → Prop} {H : Heap} : ∀ {js : List Nat} {cs : List AV}, PR rv ss P H (kvs js) cs → cs = js.map rv
  | [], cs, h => h
  | j :: r, cs, ⟨c, d, e, _, ⟨v, hc, _, hv⟩, g⟩ => by rw [e, hc, PR_kvs g, hv]; rfl
theorem M_stK {js : List Nat} {j n : Nat} {ps : List (Nat × Fact)} (ha : OpF tb Γ a (.cp j 0)) (hb : OpF tb Γ b (.aggk js)) (ho : oneKs Γ.ss js = true) (hj : findS Γ.ss j = some (.cells ps)) (hn : n = js.length) (hs : n = sizes ps) :
    OpM tb Γ none (.st n a b) (some ()) fun _ => Γ.setS j (.cells (kvs js)) := by
  rintro E rv fp f H R z ⟨⟩
  obtain ⟨l, id, e, hv⟩ := ha E rv fp f H R
  obtain ⟨cs, h0, h2, h3⟩ := cells_of R hj e
  obtain ⟨g1, g2, g3⟩ := oneKs_spec R ho
  have hbv := (hb E rv fp f H R).2
  rw [g1] at hbv
  have hlen := PR.length h3
  have hlt := (R.fplt j id l ((h0 id).2 rfl)).1
  have hm : mentL (js.map rv) ≤ H.length := by
    have key : ∀ l : List Nat, (∀ j ∈ l, ment (rv j) ≤ H.length) → mentL (l.map rv) ≤ H.length := by
      intro l
      induction l with
      | nil => intro _; simp [mentL]
      | cons x l ih => intro h; simp only [List.map_cons, mentL]; have := h x (by simp); have := ih fun j hj => h j (by simp [hj]); omega
    exact key js g3
  obtain ⟨rv', fp', _, _, R'⟩ := R.set (j := j) (S := .cells (kvs js)) (v := rv j) (o := .cells (labAt H id) (js.map rv)) (by rw [hj]; rfl) l h0 (by simp only [mentO]; exact hm) rfl (R.rvlt j l) (.inl rfl) (R.scal j l) fun rv' fp' e1 e2 hP hs =>
    ⟨id, _, by rw [e1, e], e2, by simp [cellsAt, hlt], PR.mono hP (by simp) (fun p _ => hs p.2 (.inl rfl)) (kvs_PR (rv := rv) g2)⟩
  have hsp : splice cs 0 (js.map rv) = js.map rv := by
    simp only [splice, List.take_zero, List.nil_append, Nat.zero_add]
    rw [List.drop_eq_nil_of_le (by rw [List.length_map]; omega), List.append_nil]
  refine ⟨.junk, some (H.set id (AObj.cells (labAt H id) (js.map rv))), ?_, rv', fp', R'⟩
  simp only [aop, hv, store, h2, Option.bind_some, hbv, cellsOf]
  rw [if_pos ⟨by rw [List.length_map, hn], by omega⟩, hsp]
  rfl
theorem h_ldKs {js : List Nat} {j n : Nat} (ha : OpF tb Γ a (.cp j 0)) (ho : oneKs Γ.ss js = true) (hj : findS Γ.ss j = some (.cells (kvs js))) (hn : n = js.length) : OpH tb Γ (.ld true n a) (some ()) fun _ => .aggk js := by
  rintro E rv fp f H R z ⟨⟩
  obtain ⟨l, id, e, hv⟩ := ha E rv fp f H R
  obtain ⟨cs, h0, h2, h3⟩ := cells_of R hj e
  obtain ⟨g1, g2, g3⟩ := oneKs_spec R ho
  have hcs := PR_kvs h3
  subst hcs
  have hsub : sub (js.map rv) 0 n = js.map rv := by
    simp only [sub, List.drop_zero]; exact List.take_of_length_le (by rw [List.length_map]; omega)
  refine ⟨.agg (js.map rv), none, ?_, rfl, g2, by rw [g1]⟩
  simp only [aop, hv, Am.load, place, h2, Option.map_some, Option.bind_some]
  rw [if_pos (by rw [List.length_map]; omega), hsub]
  rfl
theorem rg_cK {js : List Nat} {j n m : Nat} (h : findT Γ.ts n = some (.cp j 0)) (ho : oneKs Γ.ss js = true) (hj : findS Γ.ss j = some (.cells (kvs js))) (hm : m = js.length) : ResG Γ (.cell true m n) (.aggk js) := by
  intro E rv fp f H R r vs hr
  obtain ⟨v, u, h1, _, h3⟩ := h_ldKs (tb := ⟨fun _ => none, fun _ => none, fun _ => none⟩) (o_t h) ho hj hm E rv fp f H R () rfl
  simp only [aop, eval, val] at h1
  obtain ⟨w, hw, e⟩ := Option.map_eq_some_iff.1 h1
  cases e
  exact ⟨v, by simp only [results, hw, Option.bind_some, hr, Option.map_some], h3⟩
end
/-- two values compared -/
def cmpB {t : T} {l : List CK} (p : CmpC t l) (x y : t.α) : Bool := @decide (x = y) (p.d x y)
theorem cmpB_yes {t : T} {l : List CK} {p : CmpC t l} {x y : t.α} (h : x = y) : cmpB p x y = true := @decide_eq_true _ (p.d x y) h
theorem cmpB_no {t : T} {l : List CK} {p : CmpC t l} {x y : t.α} (h : ¬ x = y) : cmpB p x y = false := @decide_eq_false _ (p.d x y) h

/-! functions that call themselves -/
open Classical in
noncomputable def fuelO {β : Type} (g : Nat → Option β) : Option β := if h : ∃ n, (g n).isSome = true then g (Classical.choose h) else none
theorem fuelO_eq {β : Type} {g : Nat → Option β} {b : β} (h : ∀ n, g n = none ∨ g n = some b) {m : Nat} (hm : g m = some b) : fuelO g = some b := by
  have hx : ∃ n, (g n).isSome = true := ⟨m, by rw [hm]; rfl⟩
  unfold fuelO
  rw [dif_pos hx]
  rcases h (Classical.choose hx) with e | e
  · have := Classical.choose_spec hx
    rw [e] at this; cases this
  · exact e
theorem Spec.none' {tb : Tab} {g : Nat} {As Rs : List T} : Spec tb g As Rs fun _ => none := fun _ _ _ _ _ _ _ _ h => by cases h
theorem Spec.fuel {tb : Tab} {g : Nat} {As Rs : List T} {G : Nat → Res As → Option (Res Rs)} (h : ∀ n, Spec tb g As Rs (G n)) : Spec tb g As Rs fun a => fuelO fun n => G n a := by
  intro P hp args xs h1 h2 h3 r hr
  simp only [fuelO] at hr
  by_cases e : ∃ n, (G n xs).isSome = true
  · rw [dif_pos e] at hr
    exact h _ P hp args xs h1 h2 h3 r hr
  · rw [dif_neg e] at hr
    cases hr
end Go.Proofs.YtobejhpigbllpaaGreatDoor.Am
