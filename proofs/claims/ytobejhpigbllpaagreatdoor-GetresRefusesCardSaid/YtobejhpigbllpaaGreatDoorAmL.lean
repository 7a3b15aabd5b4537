/-
  What a call comes to in the machine, it comes to in the model.
-/
import Derived.Test.YtobejhpigbllpaaGreatDoorAmK
import Derived.Laws.Sem
namespace Go.Proofs.YtobejhpigbllpaaGreatDoor.Am

def okRes (P : Program) : ARes → ResultVar → Bool
  | .tmp t, .tmp u => t == u
  | .cell ag n a, .cell b t => a == b && ag == aggT P t && n == P.cellsOf t && (P.underlying t).isSome
  | _, _ => false
def okRess (P : Program) : List ARes → List ResultVar → Bool
  | [], [] => true
  | x :: r, y :: q => okRes P x y && okRess P r q
  | _, _ => false

def okFn (T : AOp → Oper → Bool) (P : Program) (fn : AFn) (g : Nat) : Bool :=
  match P.funcs[g]? with
  | some F => (match F.body with
    | some c => okC T fn.nt fn.body c
    | none => false) && !(F.name == "runtime.NumGoroutine") && fn.nt == F.ntmps && decide (fn.np ≤ fn.nt) && okRess P fn.res F.results.toList
  | none => false

section
variable {T : AOp → Oper → Bool} {P : Program} {tb : Tab} {cl : Nat → List AV → Heap → Out} {nt : Nat}

/-- cells that are loaded -/
theorem run_load_place {C : Ctx} (I : Inv tb C) {t : TypeId} (hu : (P.underlying t).isSome = true) {x : AV} {y : Value} (hr : Rep C x y) {v : AV} (h : load C.H (aggT P t) (P.cellsOf t) x = some v) :
    ∃ (p : Addr) (z : Value), y = .pointer (some p) ∧ (loadVar t p).run P C.w = .ok z C.w ∧ Rep C v z := by
  simp only [load] at h
  cases hp : place C.H x with
  | none => rw [hp] at h; simp at h
  | some q =>
    obtain ⟨cs, off⟩ := q
    rw [hp] at h
    simp only [Option.bind_some] at h
    split at h
    · rename_i hle
      obtain ⟨b, base, vs, e, hh, hl, hs⟩ := place_rep I hr hp
      have hsub := hh.sub off (P.cellsOf t)
      have hrl : RepL C (sub cs off (P.cellsOf t)) ((vs.drop off).take (P.cellsOf t)) := hl.drop.take
      have hlen : ((vs.drop off).take (P.cellsOf t)).length = P.cellsOf t := by
        rw [hrl.length]; simp only [sub, List.length_take, List.length_drop]; omega
      obtain ⟨q1, q2⟩ := asVal_rep h (all_scal_sub hs off _) hrl
      have hinfo : (P.info? t).isSome = true := by
        obtain ⟨d, hd⟩ := Option.isSome_iff_exists.1 hu
        exact info_of_underlying hd
      have hlc := run_loadCells' (P := P) hsub
      rw [hlen] at hlc
      cases hag : aggT P t with
      | true =>
        refine ⟨_, .agg ((vs.drop off).take (P.cellsOf t)).toArray, e, ?_, q1 hag⟩
        simp only [loadVar, Sem.run_bind, Sem.run_pure, Result.andThen_ok, run_isAgg' t C.w hu, hag, if_true, run_sizeOf' hinfo, hlc]
      | false =>
        obtain ⟨z, hz, rz⟩ := q2 hag
        have hc : C.w.cell? ⟨b, base + off, none⟩ = some z := by
          have := hsub 0 z (by rw [hz]; rfl)
          simpa using this
        refine ⟨_, z, e, ?_, rz⟩
        simp only [loadVar, Sem.run_bind, Result.andThen_ok, run_isAgg' t C.w hu, hag, Bool.false_eq_true, if_false, run_load, hc]
    · cases h

theorem results_rep {C : Ctx} (I : Inv tb C) {f : Fr} {a : Act} (F : FrRel C f a nt) : ∀ (l : List ARes) (rs : List ResultVar), okRess P l rs = true → ∀ {vs : List AV}, results f C.H l = some vs →
    ∃ xs : List Value, (rs.mapM (m := Sem) fun
      | .tmp t => pure (a.tmps.getD t undef)
      | .cell b t => do loadVar t (← asAddr (a.tmps.getD b undef))).run P C.w = .ok xs C.w ∧ RepL C vs xs := by
  intro l
  induction l with
  | nil =>
    intro rs h vs e
    cases rs with
    | cons r rs => simp [okRess] at h
    | nil =>
      simp only [results, Option.some.injEq] at e
      subst e
      exact ⟨[], by simp, rfl⟩
  | cons x l ih =>
    intro rs h vs e
    cases rs with
    | nil => simp [okRess] at h
    | cons r rs =>
      simp only [okRess, Bool.and_eq_true] at h
      obtain ⟨h1, h2⟩ := h
      cases x with
      | tmp t =>
        cases r with
        | cell b t => simp [okRes] at h1
        | tmp u =>
          simp only [okRes, beq_iff_eq] at h1
          subst h1
          simp only [results] at e
          obtain ⟨vs', hv, rfl⟩ := Option.map_eq_some_iff.1 e
          obtain ⟨xs, q1, q2⟩ := ih rs h2 hv
          refine ⟨a.tmps.getD t undef :: xs, ?_, ⟨_, _, rfl, F.rep t, q2⟩⟩
          simp only [List.mapM_cons, Sem.run_bind, Sem.run_pure, Result.andThen_ok, q1]
      | cell ag n t =>
        cases r with
        | tmp u => simp [okRes] at h1
        | cell b ty =>
          simp only [okRes, Bool.and_eq_true, beq_iff_eq] at h1
          obtain ⟨⟨⟨rfl, rfl⟩, rfl⟩, hu⟩ := h1
          simp only [results] at e
          obtain ⟨v, hv, e⟩ := Option.bind_eq_some_iff.1 e
          obtain ⟨vs', hv', rfl⟩ := Option.map_eq_some_iff.1 e
          obtain ⟨xs, q1, q2⟩ := ih rs h2 hv'
          obtain ⟨p, z, hp, hz, rz⟩ := run_load_place I hu (F.rep t) hv
          refine ⟨z :: xs, ?_, ⟨_, _, rfl, rz, q2⟩⟩
          have ha : (asAddr (a.tmps.getD t undef)).run P C.w = .ok p C.w := by rw [hp]; rfl
          simp only [List.mapM_cons, Sem.run_bind, Sem.run_pure, Result.andThen_ok, ha, hz, q1]

def packV : List Value → Value
  | [x] => x
  | xs => .tuple xs.toArray

theorem packed_rep {C : Ctx} : ∀ {vs : List AV} {xs : List Value}, RepL C vs xs → Rep C (packed vs) (packV xs)
  | [], xs, h => by rw [show xs = [] from h]; exact ⟨[], rfl, rfl⟩
  | [v], xs, ⟨x, q, e, h1, h2⟩ => by rw [e, show q = [] from h2]; exact h1
  | v :: u :: vs, xs, ⟨x, q, e, h1, ⟨y, q', e', h2, h3⟩⟩ => by
    rw [e, e']
    exact ⟨x :: y :: q', rfl, x, _, rfl, h1, y, _, rfl, h2, h3⟩

theorem run_results {fn : Func} {C : Ctx} (I : Inv tb C) {f : Fr} {a : Act} (F : FrRel C f a nt) {l : List ARes} (h : okRess P l fn.results.toList = true) {vs : List AV} (e : results f C.H l = some vs) :
    ∃ xs, (Go.results fn a.tmps).run P C.w = .ok (packV xs) C.w ∧ RepL C vs xs := by
  obtain ⟨xs, h1, h2⟩ := results_rep I F l _ h e
  refine ⟨xs, ?_, h2⟩
  have hrun : (Go.results fn a.tmps).run P C.w = .ok (if h : xs.toArray.size = 1 then xs.toArray[0] else .tuple xs.toArray) C.w := by
    unfold Go.results
    rw [Array.mapM_eq_mapM_toList, Sem.run_bind, Sem.run_map]
    exact congrArg (fun r => (Result.andThen (Result.andThen r fun a w' => .ok a.toArray w') fun a w' => Sem.run P (pure (if h : a.size = 1 then a[0] else Value.tuple a)) w')) h1
  rw [hrun]
  match xs with
  | [] => rfl
  | [x] => rfl
  | x :: y :: xs => simp [packV]

end
end Go.Proofs.YtobejhpigbllpaaGreatDoor.Am
