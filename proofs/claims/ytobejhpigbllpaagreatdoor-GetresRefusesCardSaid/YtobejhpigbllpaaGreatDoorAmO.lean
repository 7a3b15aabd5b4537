/-
  A law's row, out of what the machine comes to.
-/
import Derived.Test.YtobejhpigbllpaaGreatDoorAmN
import Derived.Carry
namespace Go.Proofs.YtobejhpigbllpaaGreatDoor.Am

section
variable {T : AOp → Oper → Bool} {P : Program} {tb : Tab}

/-- a value of a type, as the machine's -/
def TypedV (P : Program) (n : Nat) (t : TypeId) (x : AV) : Prop := if aggT P t = true then ∃ cs, x = .agg cs ∧ Typed P n t cs else Typed P n t [x]

theorem below_of_ext {φ : Nat → Place} {w : World} {D : Ctx} (X : Ext ⟨φ, [], w⟩ D) : Go.RowKit.Below w.heap.size w D.w :=
  ⟨X.rest.1, X.rest.2.1, X.rest.2.2, X.size, fun k hk => (X.same k hk (noOwn φ w k)).1⟩

theorem inv_empty (φ : Nat → Place) (w : World) (hg : ∀ g cs, tb.gl g = some cs → g < w.heap.size ∧ cs.all scal = true ∧ ∃ vs, Holds w g 0 vs ∧ RepL ⟨φ, [], w⟩ cs vs) : Inv tb ⟨φ, [], w⟩ :=
  ⟨fun id o h => by simp at h, fun i j h => absurd h (Nat.not_lt_zero _), fun i h => absurd h (Nat.not_lt_zero _), fun g cs h => by
    obtain ⟨h1, h2, h3⟩ := hg g cs h
    exact ⟨h1, noOwn φ w g, h2, h3⟩⟩

theorem value_rep {H : Type} {enc : TypeId × Value → H} {W : World} {base : Nat} {spare : Nat → Bool} {held : Bool} {n : Nat} {t : TypeId} (hp : plainT P n t = true) {v : Value} {d : DataW H} {ps : List MemPlace} (hv : Value.okWide P W .any base t v)
    (h : DataW.Trod enc P W 0 spare held t v d ps) (φ : Nat → Place) : ∃ x : AV, TypedV P n t x ∧ Rep ⟨φ, [], W⟩ x v := by
  obtain ⟨fuel, h⟩ := h
  obtain ⟨as, t1, r1, s1, l1⟩ := trod_rep φ n t hp fuel _ _ h
  cases ha : aggT P t with
  | true =>
    have hc : ∃ cs, v = .agg cs := by
      unfold Value.okWide at hv
      simp only [aggT] at ha
      split at hv
      · obtain ⟨cs, e, _⟩ := hv; exact ⟨cs, e⟩
      · obtain ⟨cs, e, _⟩ := hv; exact ⟨cs, e⟩
      · rename_i h1 h2
        split at ha
        · rename_i fs hu; exact absurd hu (h1 fs)
        · rename_i m e hu; exact absurd hu (h2 m e)
        · cases ha
    obtain ⟨cs, rfl⟩ := hc
    exact ⟨.agg as, by simp only [TypedV, ha, if_true]; exact ⟨as, rfl, t1⟩, cs.toList, by simp, s1, by simpa [Value.cells] using r1⟩
  | false =>
    have hna : ∀ cs, v ≠ .agg cs := by
      rintro cs rfl
      simp only [aggT] at ha
      unfold Value.okWide at hv
      cases n with
      | zero => simp [plainT] at hp
      | succ n =>
        simp only [plainT] at hp
        split at hp <;> rename_i hu <;> simp only [hu] at hv ha <;> first
          | (simp only [Cell.okWide, Cell.ok, hu] at hv; done)
          | (cases ha; done)
          | (cases hp; done)
    have hc : v.cells.toList = [v] := by
      cases v <;> first
        | rfl
        | exact absurd rfl (hna _)
    rw [hc] at r1
    have hl := r1.length
    obtain ⟨x, rfl⟩ : ∃ x, as = [x] := by
      match as, hl with
      | [x], _ => exact ⟨x, rfl⟩
    obtain ⟨u, q, e, h1, h2⟩ := r1
    simp only [List.cons.injEq] at e
    obtain ⟨rfl, _⟩ := e
    exact ⟨x, by simp only [TypedV, ha, Bool.false_eq_true, if_false]; exact t1, h1⟩

def TypedVs (P : Program) (n : Nat) : List TypeId → List AV → Prop
  | [], xs => xs = []
  | t :: ts, xs => ∃ x r, xs = x :: r ∧ TypedV P n t x ∧ TypedVs P n ts r

theorem values_rep {H : Type} {enc : TypeId × Value → H} {W : World} {base : Nat} {spare : Nat → Bool} {held : Bool} {n : Nat} (φ : Nat → Place) : ∀ {ts : List TypeId} {vs : List Value} {ds : List (DataW H)} {ps : List MemPlace}, ts.all (plainT P n) = true →
    (∀ (j : Nat) t v, ts[j]? = some t → vs[j]? = some v → Value.okWide P W .any base t v) → DataW.TrodAll enc P W 0 spare held ts vs ds ps → ∃ xs : List AV, TypedVs P n ts xs ∧ RepL ⟨φ, [], W⟩ xs vs ∧ ds.length = ts.length
  | [], [], [], _, _, _, _ => ⟨[], rfl, rfl, rfl⟩
  | [], [], _ :: _, _, _, _, h => h.elim
  | [], _ :: _, _, _, _, _, h => by cases ‹List (DataW H)› <;> exact h.elim
  | _ :: _, [], _, _, _, _, h => by cases ‹List (DataW H)› <;> exact h.elim
  | _ :: _, _ :: _, [], _, _, _, h => h.elim
  | t :: ts, v :: vs, d :: ds, ps, hp, hv, ⟨p, q, h1, h2, _⟩ => by
    simp only [List.all_cons, Bool.and_eq_true] at hp
    obtain ⟨x, t1, r1⟩ := value_rep hp.1 (hv 0 t v rfl rfl) h1 φ
    obtain ⟨xs, t2, r2, l2⟩ := values_rep φ hp.2 (fun j t v ht hv' => hv (j + 1) t v (by simpa using ht) (by simpa using hv')) h2
    exact ⟨x :: xs, ⟨x, xs, rfl, t1, t2⟩, ⟨v, vs, rfl, r1, r2⟩, by simp [l2]⟩

theorem trodAll_below {H : Type} {enc : TypeId × Value → H} (hl : laidOutB P = true) {W W' : World} (hb : Go.RowKit.Below W.heap.size W W') : ∀ {ts : List TypeId} {vs : List Value} {ds : List (DataW H)} {ps : List MemPlace},
    ts.all (fun t => P.readableRec t && decide (t < P.types.size)) = true → DataW.TrodAll enc P W 0 (fun _ => true) true ts vs ds ps → (∀ x ∈ ps, x.block < W.heap.size) → DataW.TrodAll enc P W' 0 (fun b => decide (b < W.heap.size)) true ts vs ds ps
  | [], [], [], _, _, h, _ => h
  | [], [], _ :: _, _, _, h, _ => h.elim
  | [], _ :: _, _, _, _, h, _ => by cases ‹List (DataW H)› <;> exact h.elim
  | _ :: _, [], _, _, _, h, _ => by cases ‹List (DataW H)› <;> exact h.elim
  | _ :: _, _ :: _, [], _, _, h, _ => h.elim
  | t :: ts, v :: vs, d :: ds, ps, hp, ⟨p, q, h1, h2, e⟩, hlt => by
    simp only [List.all_cons, Bool.and_eq_true, decide_eq_true_eq] at hp
    subst e
    exact ⟨p, q, Go.RowKit.Below.trod hl hp.1.1 hp.1.2 h1 hb fun x hx => hlt x (List.mem_append_left _ hx), trodAll_below hl hb hp.2 h2 fun x hx => hlt x (List.mem_append_right _ hx), rfl⟩

/-- A law that answers true at every value of its arguments' types: its contract. -/
theorem contract (ft : Fits T P tb) {k : FuncId} {f : Func} {bt : TypeId} {n : Nat} (hl : laidOutB P = true) (hr : f.resultTypes = #[bt]) (hb : P.underlying bt = some .bool) (hp : f.params.toList.all (plainT P n) = true)
    (hrd : f.params.toList.all (fun t => P.readableRec t && decide (t < P.types.size)) = true) {H : Type} {enc : TypeId × Value → H} {s : ChangeSpec} (hs0 : s.vars = []) (hs : ∀ ds : List (DataW H), ds.length = f.params.size → s.fn H ds = { results := [.lit (.bool true)], args := ds })
    {W : World} {base : Nat} {args : Array Value} {ds gs : List (DataW H)} {before : List MemPlace} (hval : ∀ (j : Nat) t v, f.params[j]? = some t → args[j]? = some v → Value.okWide P W .any base t v)
    (hW : DataW.Whole enc P f.params.toList s.vars false W args.toList ds gs before)
    (hgl : ∀ g cs, tb.gl g = some cs → g < W.heap.size ∧ cs.all scal = true ∧ ∃ vs, Holds W g 0 vs ∧ RepL ⟨fun _ => ⟨0, 0, 0⟩, [], W⟩ cs vs)
    (law : ∀ xs : List AV, TypedVs P n f.params.toList xs → RepL ⟨fun _ => ⟨0, 0, 0⟩, [], W⟩ xs args.toList → ∃ h, den tb k xs [] = some (.b true, h)) :
    Calls P k args W fun e W' => ∃ v, e = .returned v ∧ s.post enc P f false true false false W args v W' := by
  have hW' := hW
  obtain ⟨p, q, hA, hV, rfl, hfz, hnd⟩ := hW
  rw [hs0] at hV
  obtain ⟨rfl, rfl⟩ := Go.ChangeShapes.trodVars_none hV
  obtain ⟨xs, t1, r1, l1⟩ := values_rep (fun _ => ⟨0, 0, 0⟩) hp (fun j t v ht hv => hval j t v (by simpa using ht) (by simpa using hv)) hA
  obtain ⟨h, hd⟩ := law xs t1 r1
  have I : Inv tb ⟨fun _ => ⟨0, 0, 0⟩, [], W⟩ := inv_empty _ W hgl
  have hc := den_calls ft (C := ⟨fun _ => ⟨0, 0, 0⟩, [], W⟩) I r1 hd
  refine hc.mono fun e W' ⟨v, D, he, X, ID, hw, hH, hv⟩ => ?_
  subst he
  subst hw
  obtain rfl : v = .bool true := hv
  have hbl := below_of_ext X
  have hlt : ∀ x ∈ p, x.block < W.heap.size := fun x hx => hW'.lt x (by simpa using hx)
  have hfn := hs (ds ++ []) (by simpa using l1)
  refine ⟨_, rfl, ds, [], p ++ [], [], p, [], hW', ?_, ?_, ?_, hbl.frame _, fun e => by cases e⟩
  · rw [hfn, hr]
    refine ⟨[], [], ⟨1, ?_⟩, rfl, rfl⟩
    simp [DataW.trod, hb, Value.cells]
  · rw [hfn]
    simpa using trodAll_below hl hbl hrd hA hlt
  · rw [hs0, hfn]
    rfl

/-! what a listed table holds -/
def litAV {H : Type} : DataW H → Option AV
  | .lit (.int k n) => some (.i k n)
  | .lit (.string l) => some (.s l)
  | .lit (.bool b) => some (.b b)
  | .iface _ _ => some (.ifc 0 .junk)
  | _ => none
def mapO {α β : Type} (F : α → Option β) : List α → Option (List β)
  | [] => some []
  | x :: r => (F x).bind fun x => (mapO F r).map (x :: ·)
theorem mapO_get {α β : Type} {F : α → Option β} : ∀ {l : List α} {r : List β}, mapO F l = some r → l.length = r.length ∧ ∀ (i : Nat) x, l[i]? = some x → ∃ y, r[i]? = some y ∧ F x = some y
  | [], _, h => by simp only [mapO, Option.some.injEq] at h; subst h; simp
  | x :: l, _, h => by
    simp only [mapO] at h
    obtain ⟨y, hy, h⟩ := Option.bind_eq_some_iff.1 h
    obtain ⟨r, hr, rfl⟩ := Option.map_eq_some_iff.1 h
    obtain ⟨h1, h2⟩ := mapO_get hr
    refine ⟨by simp [h1], fun i z hz => ?_⟩
    cases i with
    | zero => simp only [List.getElem?_cons_zero, Option.some.injEq] at hz ⊢; subst hz; exact ⟨y, rfl, hy⟩
    | succ i => simp only [List.getElem?_cons_succ] at hz ⊢; exact h2 i z hz
theorem repL_of {C : Ctx} : ∀ {xs : List AV} {ys : List Value}, xs.length = ys.length → (∀ (i : Nat) x y, xs[i]? = some x → ys[i]? = some y → Rep C x y) → RepL C xs ys
  | [], [], _, _ => rfl
  | [], _ :: _, h, _ => by simp at h
  | _ :: _, [], h, _ => by simp at h
  | x :: xs, y :: ys, h, g => ⟨y, ys, rfl, g 0 x y rfl rfl, repL_of (by simpa using h) fun i x y hx hy => g (i + 1) x y (by simpa using hx) (by simpa using hy)⟩
theorem trod_lit {H : Type} {enc : TypeId × Value → H} {W : World} {spare : Nat → Bool} {held : Bool} {C : Ctx} {fuel : Nat} {t : TypeId} {v : Value} {x : DataW H} {p : List MemPlace} {a : AV} (h : DataW.trod enc P W 0 spare held fuel t [v] = some (x, p)) (ha : litAV x = some a) : Rep C a v ∧ scal a = true := by
  cases fuel with
  | zero => simp [DataW.trod] at h
  | succ fuel =>
    cases hu : P.underlying t with
    | none => simp [DataW.trod, hu] at h
    | some d =>
      have hx : (∃ k n, x = .lit (.int k n) ∧ a = .i k n) ∨ (∃ l, x = .lit (.string l) ∧ a = .s l) ∨ (∃ b, x = .lit (.bool b) ∧ a = .b b) ∨ ∃ n d, x = .iface n d ∧ a = .ifc 0 .junk := by
        unfold litAV at ha
        split at ha <;> simp only [Option.some.injEq, reduceCtorEq] at ha <;> subst ha <;> simp
      unfold DataW.trod at h
      rw [hu] at h
      rcases hx with ⟨k, n, rfl, rfl⟩ | ⟨l, rfl, rfl⟩ | ⟨b, rfl, rfl⟩ | ⟨n, y, rfl, rfl⟩
      all_goals (split at h <;> (try split at h) <;> (try split at h) <;> simp_all [Rep, scal, Option.map_eq_some_iff, Option.bind_eq_some_iff])
      obtain ⟨rfl, _⟩ := h
      simp
theorem tab_rep {H : Type} {enc : TypeId × Value → H} {W : World} {spare : Nat → Bool} {held : Bool} {C : Ctx} {fuel : Nat} {t e : TypeId} {m : Nat} {cs : List Value} {ds : List (DataW H)} {p : List MemPlace} {as : List AV}
    (hu : P.underlying t = some (.array m e)) (hc : P.cellsOf e = 1) (hct : P.cellsOf t = m) (h : DataW.trod enc P W 0 spare held fuel t cs = some (.agg ds, p)) (ha : mapO litAV ds = some as) : RepL C as cs ∧ as.all scal = true := by
  cases fuel with
  | zero => simp [DataW.trod] at h
  | succ fuel =>
    simp only [DataW.trod, hu, hc, hct] at h
    split at h
    · rename_i hl
      obtain ⟨xs, hxs, h⟩ := Option.map_eq_some_iff.1 h
      simp only [Prod.mk.injEq, DataW.agg.injEq] at h
      obtain ⟨rfl, _⟩ := h
      have hxl := mapM_some_length hxs
      simp only [List.length_range] at hxl
      obtain ⟨g1, g2⟩ := mapO_get ha
      simp only [List.length_map] at g1
      have key : ∀ (i : Nat) a, as[i]? = some a → ∃ v, cs[i]? = some v ∧ Rep C a v ∧ scal a = true := fun i a hi => by
        have hi' := lt_of_get hi
        have := mapM_some_get hxs i i (by rw [List.getElem?_range (by omega)])
        have hd : (cs.drop (i * 1)).take 1 = [cs[i]'(by omega)] := by
          rw [Nat.mul_one, List.drop_eq_getElem_cons (by omega)]; rfl
        rw [hd, List.getElem?_eq_getElem (by omega)] at this
        obtain ⟨y, hy, hf⟩ := g2 i (xs[i]'(by omega)).1 (by rw [List.getElem?_map, List.getElem?_eq_getElem (by omega)]; rfl)
        rw [hi] at hy
        cases hy
        exact ⟨_, List.getElem?_eq_getElem (by omega), trod_lit this hf⟩
      refine ⟨repL_of (by omega) fun i x y hx hy => ?_, ?_⟩
      · obtain ⟨v, h1, h2, _⟩ := key i x hx
        rw [hy] at h1; cases h1; exact h2
      · rw [List.all_eq_true]
        intro x hx
        obtain ⟨i, hi⟩ := List.mem_iff_getElem?.1 hx
        obtain ⟨v, _, _, h⟩ := key i x hi
        exact h
    · cases h
theorem laid_var {W : World} {n : String} {d : DataW Unit} : ∀ {l : List (String × DataW Unit)} {ps : List MemPlace}, DataW.LaidVars P W l ps → (n, d) ∈ l → ∃ g t cs fuel p, P.globalNamed n = some g ∧ (P.globals[g]?).map (·.type) = some t ∧ W.var? P n = some cs ∧
    DataW.trod (fun _ => ()) P W 0 (fun _ => true) false fuel t cs.toList = some (d, p)
  | [], _, _, hm => by cases hm
  | (n', d') :: r, ps, ⟨g, t, cs, fuel, p, q, h1, h2, h3, h4, h5, _⟩, hm => by
    rcases List.mem_cons.1 hm with e | hm
    · simp only [Prod.mk.injEq] at e
      obtain ⟨rfl, rfl⟩ := e
      exact ⟨g, t, cs, fuel, p, h1, h2, h3, h4⟩
    · exact laid_var h5 hm
theorem gl_of_laid1 {W : World} {l : List (String × DataW Unit)} (hL : laidMet P l W) {n : String} {d : DataW Unit} {a : AV} {g : Nat} {t : TypeId} (hm : (n, d) ∈ l) (hg : P.globalNamed n = some g) (ht : (P.globals[g]?).map (·.type) = some t)
    (hu : ∃ m, P.underlying t = some (.interface m)) (ha : litAV d = some a) :
    g < W.heap.size ∧ [a].all scal = true ∧ ∃ vs, Holds W g 0 vs ∧ RepL ⟨fun _ => ⟨0, 0, 0⟩, [], W⟩ [a] vs := by
  obtain ⟨ps, hv, _, _⟩ := hL
  obtain ⟨g', t', cs, fuel, p, h1, h2, h3, h4⟩ := laid_var hv hm
  rw [hg] at h1; cases h1
  rw [ht] at h2; cases h2
  obtain ⟨m, hu⟩ := hu
  have hc : ∃ v, cs.toList = [v] := by
    cases fuel with
    | zero => simp [DataW.trod] at h4
    | succ fuel =>
      unfold DataW.trod at h4
      rw [hu] at h4
      split at h4 <;> first
        | (rename_i e; exact ⟨_, e⟩)
        | (rename_i e _; exact ⟨_, e⟩)
        | (cases h4; done)
        | simp_all
  obtain ⟨v, hc⟩ := hc
  rw [hc] at h4
  obtain ⟨r1, r2⟩ := trod_lit (C := ⟨fun _ => ⟨0, 0, 0⟩, [], W⟩) h4 ha
  simp only [World.var?, hg, Option.bind_some] at h3
  have hlt : g < W.heap.size := by
    rcases Nat.lt_or_ge g W.heap.size with h | h
    · exact h
    · rw [Array.getElem?_eq_none h] at h3; cases h3
  refine ⟨hlt, by simp [r2], cs.toList, fun j v hj => ?_, by rw [hc]; exact ⟨v, [], rfl, r1, rfl⟩⟩
  split at h3
  · rename_i cs' ty fr hh
    cases h3
    simp only [World.cell?, hh, Nat.zero_add]
    simpa using hj
  · cases h3
theorem gl_of_laid {W : World} {l : List (String × DataW Unit)} (hL : laidMet P l W) {n : String} {d : DataW Unit} {ds : List (DataW Unit)} {as : List AV} {g : Nat} {t e : TypeId} {m : Nat} (hm : (n, d) ∈ l) (hg : P.globalNamed n = some g) (ht : (P.globals[g]?).map (·.type) = some t)
    (hu : P.underlying t = some (.array m e)) (hc : P.cellsOf e = 1) (hct : P.cellsOf t = m) (hd : d = .agg ds) (ha : mapO litAV ds = some as) :
    g < W.heap.size ∧ as.all scal = true ∧ ∃ vs, Holds W g 0 vs ∧ RepL ⟨fun _ => ⟨0, 0, 0⟩, [], W⟩ as vs := by
  obtain ⟨ps, hv, _, _⟩ := hL
  obtain ⟨g', t', cs, fuel, p, h1, h2, h3, h4⟩ := laid_var hv hm
  rw [hg] at h1; cases h1
  rw [ht] at h2; cases h2
  subst hd
  obtain ⟨r1, r2⟩ := tab_rep (C := ⟨fun _ => ⟨0, 0, 0⟩, [], W⟩) hu hc hct h4 ha
  simp only [World.var?, hg, Option.bind_some] at h3
  have hlt : g < W.heap.size := by
    rcases Nat.lt_or_ge g W.heap.size with h | h
    · exact h
    · rw [Array.getElem?_eq_none h] at h3; cases h3
  refine ⟨hlt, r2, cs.toList, fun j v hj => ?_, r1⟩
  split at h3
  · rename_i cs' ty fr hh
    cases h3
    simp only [World.cell?, hh, Nat.zero_add]
    simpa using hj
  · cases h3
end
end Go.Proofs.YtobejhpigbllpaaGreatDoor.Am
