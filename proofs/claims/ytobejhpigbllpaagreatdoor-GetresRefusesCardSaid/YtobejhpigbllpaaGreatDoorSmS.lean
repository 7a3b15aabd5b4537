/-
  Values that are kept: functions, structures with functions; calls whose code is walked in place.
-/
import Derived.Test.YtobejhpigbllpaaGreatDoorSmR
namespace Go.Proofs.YtobejhpigbllpaaGreatDoor.Am

section
variable {tb : Tab} {Γ : Cx} {a b : AO} {E : Env} {rv : Nat → AV} {fp : Fp} {f : Fr} {H : Heap}

theorem o_kv {n j : Nat} {φ : Fact} (h : findT Γ.ts n = some (.kv j)) (hj : findS Γ.ss j = some (.keep φ)) : OpF tb Γ (.t n) φ := by
  intro E rv fp f H I
  have h1 := (I.temps n _ h).2
  have h2 := (I.slots j _ hj).1
  show FR rv Γ.ss (Pf E Γ.ss fp H) H φ (get f n)
  rw [h1]; exact h2
theorem o_fn {g : Nat} : OpF tb Γ (.f g) (.fnv (.func g) [] []) := fun _ _ _ _ _ _ => ⟨fun j hj => (by cases hj), rfl⟩
theorem o_con {v : AV} (h : ment v = 0) (hs : scal v = true) : OpF tb Γ (.k v) (.con v) := fun _ _ _ _ _ _ => ⟨rfl, h, hs⟩

/-- a value more that is kept -/
theorem RelI.keepNew (I : RelI E Γ rv fp f H) {j : Nat} {φ : Fact} {v : AV} (hj : findS Γ.ss j = none) (h : FR rv Γ.ss (Pf E Γ.ss fp H) H φ v) (hv : ment v ≤ H.length) :
    ∃ rv' fp', rv' j = v ∧ (∀ k, k ≠ j → rv' k = rv k) ∧ RelI E ⟨Γ.ts, (j, .keep φ) :: Γ.ss⟩ rv' fp' f H ∧ ∀ ψ w, FR rv Γ.ss (Pf E Γ.ss fp H) H ψ w → FR rv' ((j, .keep φ) :: Γ.ss) (Pf E ((j, .keep φ) :: Γ.ss) fp' H) H ψ w := by
  have hnl := live_none hj
  let rv' : Nat → AV := fun k => if k = j then v else rv k
  let fp' : Fp := fun k => if k = j then fun _ => False else fp k
  have hrj : rv' j = v := if_pos rfl
  have hfj : ∀ i, ¬ fp' j i := fun i h => by simp only [fp', if_true] at h
  have hr : ∀ k, k ≠ j → rv' k = rv k := fun k hk => if_neg hk
  have hf : ∀ k, k ≠ j → fp' k = fp k := fun k hk => if_neg hk
  have hlv : ∀ k, k ≠ j → (live ((j, .keep φ) :: Γ.ss) k ↔ live Γ.ss k) := fun k hk => live_cons hk
  have hne : ∀ k, live Γ.ss k → k ≠ j := fun k l e => hnl (e ▸ l)
  have hfind : ∀ k, k ≠ j → findS ((j, .keep φ) :: Γ.ss) k = findS Γ.ss k := fun k hk => by simp only [findS, if_neg (Ne.symm hk)]
  have hP : ∀ i, Pf E Γ.ss fp H i → Pf E ((j, .keep φ) :: Γ.ss) fp' H i := by
    rintro i (h | ⟨h1, h2, h3⟩)
    · exact .inl h
    · refine .inr ⟨h1, h2, fun k l e => ?_⟩
      by_cases hk : k = j
      · subst hk; exact hfj i e
      · rw [hf k hk] at e; exact h3 k ((hlv k hk).1 l) e
  have hsame : ∀ ψ, Same rv rv' Γ.ss ((j, .keep φ) :: Γ.ss) ψ := fun ψ k _ l => ⟨⟨(hlv k (hne k l)).2 l, fun e => by rw [hfind k (hne k l)]; exact e⟩, hr k (hne k l)⟩
  have hFR : ∀ ψ w, FR rv Γ.ss (Pf E Γ.ss fp H) H ψ w → FR rv' ((j, .keep φ) :: Γ.ss) (Pf E ((j, .keep φ) :: Γ.ss) fp' H) H ψ w := fun ψ w k => k.mono (fun i hi => ⟨hP i hi, rfl⟩) (hsame ψ)
  refine ⟨rv', fp', hrj, hr, ⟨I.le, I.base, I.wf, ?_, ?_, ?_, ?_, ?_, fun t ψ e => hFR ψ _ (I.temps t ψ e), ?_⟩, hFR⟩
  · intro k i l e
    by_cases hk : k = j
    · subst hk; exact absurd e (hfj i)
    · rw [hf k hk] at e; exact I.fplt k i ((hlv k hk).1 l) e
  · intro k l
    by_cases hk : k = j
    · subst hk; rw [hrj]; exact hv
    · rw [hr k hk]; exact I.rvlt k ((hlv k hk).1 l)
  · intro k l
    by_cases hk : k = j
    · subst hk; exact .inl (by simp only [findS, if_true]; rfl)
    · rw [hr k hk, hfind k hk]; exact I.scal k ((hlv k hk).1 l)
  · intro k k' i l l' e e'
    by_cases hk : k = j
    · subst hk; exact absurd e (hfj i)
    · by_cases hk' : k' = j
      · subst hk'; exact absurd e' (hfj i)
      · rw [hf k hk] at e
        rw [hf k' hk'] at e'
        exact I.inj k k' i ((hlv k hk).1 l) ((hlv k' hk').1 l') e e'
  · intro k S e
    by_cases hk : k = j
    · subst hk
      simp only [findS, if_true, Option.some.injEq] at e
      subst e
      exact ⟨by rw [hrj]; exact hFR φ v h, hfj⟩
    · rw [hfind k hk] at e
      exact (I.slots k S e).keep (hr k hk) (hf k hk) (fun i hi => ⟨hP i hi, rfl⟩) (Nat.le_refl _) (fun _ _ => rfl) (fun ps _ p _ => hsame p.2) (fun ψ _ => hsame ψ) fun _ _ _ => hsame _
  · intro k ψ e
    by_cases hk : k = j
    · subst hk; simp only [findS, if_true] at e; cases e
    · rw [hfind k hk] at e; exact hFR ψ _ (I.gh k ψ e)

/-- several -/
def addK : Nat → List Fact → Ss → Ss
  | _, [], ss => ss
  | j, φ :: l, ss => addK (j + 1) l ((j, .keep φ) :: ss)
def freshK (ss : Ss) : Nat → List Fact → Prop
  | _, [] => True
  | j, _ :: l => findS ss j = none ∧ freshK ss (j + 1) l
def FRs (rv : Nat → AV) (ss : Ss) (P : Nat → Prop) (H : Heap) : List Fact → List AV → Prop
  | [], [] => True
  | φ :: l, v :: r => FR rv ss P H φ v ∧ FRs rv ss P H l r
  | _, _ => False
theorem freshK_cons {ss : Ss} {S : Slot} {k : Nat} : ∀ {l : List Fact} {j : Nat}, k < j → freshK ss j l → freshK ((k, S) :: ss) j l
  | [], _, _, _ => trivial
  | _ :: _, j, hk, h => ⟨by simp only [findS, if_neg (show ¬ k = j by omega)]; exact h.1, freshK_cons (by omega) h.2⟩
theorem addK_old {k : Nat} : ∀ {l : List Fact} {j : Nat} {ss : Ss}, k < j → findS (addK j l ss) k = findS ss k
  | [], _, _, _ => rfl
  | φ :: l, j, ss, hk => by
    rw [addK, addK_old (by omega)]
    simp only [findS, if_neg (show ¬ j = k by omega)]
theorem RelI.keepL : ∀ {l : List Fact} {vs : List AV} {Γ : Cx} {rv : Nat → AV} {fp : Fp} {j : Nat}, RelI E Γ rv fp f H → freshK Γ.ss j l → FRs rv Γ.ss (Pf E Γ.ss fp H) H l vs → (∀ v ∈ vs, ment v ≤ H.length) →
    ∃ rv' fp', (List.range' j l.length).map rv' = vs ∧ keeps (addK j l Γ.ss) (List.range' j l.length) ∧ (∀ k, k < j → rv' k = rv k) ∧ RelI E ⟨Γ.ts, addK j l Γ.ss⟩ rv' fp' f H
  | [], [], Γ, rv, fp, j, I, _, _, _ => ⟨rv, fp, rfl, fun _ h => (by cases h), fun _ _ => rfl, I⟩
  | φ :: l, v :: vs, Γ, rv, fp, j, I, hf, hv, hm => by
    obtain ⟨rv1, fp1, h1, h2, h3, h4⟩ := I.keepNew hf.1 hv.1 (hm v List.mem_cons_self)
    have key : ∀ {l : List Fact} {vs : List AV}, FRs rv Γ.ss (Pf E Γ.ss fp H) H l vs → FRs rv1 ((j, .keep φ) :: Γ.ss) (Pf E ((j, .keep φ) :: Γ.ss) fp1 H) H l vs := by
      intro l
      induction l with
      | nil => intro vs h; cases vs <;> exact h
      | cons ψ l ih =>
        intro vs h
        cases vs with
        | nil => exact h
        | cons w vs => exact ⟨h4 ψ w h.1, ih h.2⟩
    obtain ⟨rv2, fp2, g1, g2, g3, g4⟩ := RelI.keepL (l := l) (vs := vs) (j := j + 1) h3 (freshK_cons (by omega) hf.2) (key hv.2) (fun w hw => hm w (List.mem_cons_of_mem _ hw))
    refine ⟨rv2, fp2, ?_, fun k hk => ?_, fun k hk => by rw [g3 k (by omega), h2 k (by omega)], g4⟩
    · rw [List.length_cons, List.range'_succ, List.map_cons, g1, g3 j (by omega), h1]
    · rw [List.length_cons, List.range'_succ] at hk
      rcases List.mem_cons.1 hk with rfl | hk
      · rw [addK, addK_old (by omega)]; simp only [findS, if_true]; rfl
      · exact g2 k hk

inductive OpFs (tb : Tab) (Γ : Cx) : List AO → List Fact → Prop where
  | nil : OpFs tb Γ [] []
  | cons {a : AO} {φ : Fact} {l : List AO} {r : List Fact} : OpF tb Γ a φ → OpFs tb Γ l r → OpFs tb Γ (a :: l) (φ :: r)
theorem OpFs.spec (I : RelI E Γ rv fp f H) : ∀ {l : List AO} {r : List Fact}, OpFs tb Γ l r → FRs rv Γ.ss (Pf E Γ.ss fp H) H r (l.map (eval tb f))
  | _, _, .nil => trivial
  | _, _, .cons h k => ⟨h E rv fp f H I, k.spec I⟩
theorem OpFs.length : ∀ {l : List AO} {r : List Fact}, OpFs tb Γ l r → r.length = l.length
  | _, _, .nil => rfl
  | _, _, .cons _ k => by simp [k.length]
theorem OpFs.app : ∀ {l m : List AO} {r q : List Fact}, OpFs tb Γ l r → OpFs tb Γ m q → OpFs tb Γ (l ++ m) (r ++ q)
  | _, _, _, _, .nil, k => k
  | _, _, _, _, .cons h k, g => .cons h (k.app g)
def notJunk : Fact → Bool
  | .junk => false
  | _ => true
theorem FRs.men (hp : ∀ i, Pf E Γ.ss fp H i → i < H.length) (hi : ∀ j, live Γ.ss j → ment (rv j) ≤ H.length) : ∀ {l : List Fact} {vs : List AV}, l.all notJunk = true → FRs rv Γ.ss (Pf E Γ.ss fp H) H l vs → ∀ v ∈ vs, ment v ≤ H.length
  | [], [], _, _, v, hv => by cases hv
  | φ :: l, w :: vs, hj, h, v, hv => by
    simp only [List.all_cons, Bool.and_eq_true] at hj
    rcases List.mem_cons.1 hv with rfl | hv
    · exact FR.men hp hi (by rintro rfl; simp [notJunk] at hj) h.1
    · exact FRs.men hp hi hj.2 h.2 v hv

/-- an operation that leaves the memory alone, by which more is known of slots -/
def OpN (tb : Tab) (Γ : Cx) (d : Option Nat) (o : AOp) (Γ' : Cx) : Prop :=
  ∀ E rv fp f H, RelI E Γ rv fp f H → ∃ v u, aop tb (den tb) (eval tb f) H o = some (v, u) ∧ u.getD H = H ∧ ∃ rv' fp', RelI E Γ' rv' fp' (put f d v) H
/-- a function with what it has taken -/
theorem M_mkf {d : Nat} {fn : Fn} {xs ys : List AO} {φs ψs : List Fact} (j : Nat) (hx : OpFs tb Γ xs φs) (hy : OpFs tb Γ ys ψs) (hn : (φs ++ ψs).all notJunk = true) (hf : freshK Γ.ss j (φs ++ ψs)) {js ks : List Nat} (hjs : js = List.range' j φs.length) (hks : ks = List.range' (j + φs.length) ψs.length) :
    OpN tb Γ (some d) (.mkf fn xs ys) ⟨(d, .fnv fn js ks) :: Γ.ts, addK j (φs ++ ψs) Γ.ss⟩ := by
  intro E rv fp f H R
  subst hjs hks
  have hv := (hx.app hy).spec R
  obtain ⟨rv', fp', h1, h2, _, h4⟩ := R.keepL (j := j) hf hv (FRs.men R.ltP R.rvlt hn hv)
  rw [List.length_append, ← List.range'_append_1] at h1 h2
  rw [List.map_append, List.map_append] at h1
  obtain ⟨e1, e2⟩ := List.append_inj h1 (by simp [hx.length])
  refine ⟨_, none, rfl, rfl, rv', fp', h4.push (d := d) (φ := .fnv fn _ _) ⟨h2, ?_⟩⟩
  rw [e1, e2]

/-! structures of parts -/
def oneS : Option Slot → Bool
  | some (.row _ _) => true
  | some (.rowk _ _) => true
  | some (.cells _) => true
  | some (.dom _ _) => true
  | _ => false
def szF (ss : Ss) : Fact → Option Nat
  | .own j => if oneS (findS ss j) then some 1 else none
  | .val t _ => some t.sz
  | .rp _ _ => some 1
  | .cp _ _ => some 1
  | .ep _ _ _ => some 1
  | .con _ => some 1
  | .fnv _ _ _ => some 1
  | _ => none
def aggF : Fact → Bool
  | .val t _ => t.agg
  | _ => false
theorem ptrP_cells {P : Nat → Prop} {v : AV} (h : ptrP P v) : cellsOf v = [v] := by
  cases v <;> simp only [ptrP] at h <;> rfl
theorem szF_spec (I : RelI E Γ rv fp f H) {φ : Fact} {v : AV} {n : Nat} (hs : szF Γ.ss φ = some n) (h : FR rv Γ.ss (Pf E Γ.ss fp H) H φ v) : (cellsOf v).length = n ∧ asVal (aggF φ) (cellsOf v) = some v := by
  cases φ <;> simp only [szF, Option.some.injEq, reduceCtorEq] at hs
  case own j =>
    split at hs
    · rename_i ho
      cases hs
      obtain ⟨l, rfl⟩ := h
      have hsc := (I.scal j l).resolve_left (by
        intro hk
        cases e : findS Γ.ss j with
        | none => rw [e] at ho; cases ho
        | some S => rw [e] at ho hk; cases S <;> simp only [oneS, keepO, Bool.false_eq_true] at ho hk)
      rw [cellsOf_scal hsc]; exact ⟨rfl, rfl⟩
    · cases hs
  · subst hs
    rename_i t x
    have hc := T.V.cells h
    refine ⟨t.len hc, ?_⟩
    rcases h with ⟨ha, cs, rfl, _⟩ | ⟨ha, hr⟩
    · simp only [aggF, ha]; rfl
    · have := t.sca hr
      simp only [List.all_cons, List.all_nil, Bool.and_true] at this
      rw [cellsOf_scal this]
      simp only [aggF, ha]; rfl
  · subst hs; rw [ptrP_cells h.1]; exact ⟨rfl, rfl⟩
  · subst hs; obtain ⟨_, id, _, rfl⟩ := h; exact ⟨rfl, rfl⟩
  · subst hs; obtain ⟨_, id, m, _, _, rfl⟩ := h; exact ⟨rfl, rfl⟩
  · subst hs; obtain ⟨rfl, _, hsc⟩ := h; rw [cellsOf_scal hsc]; exact ⟨rfl, rfl⟩
  · subst hs; obtain ⟨_, rfl⟩ := h; exact ⟨rfl, rfl⟩

/-- parts, one behind another one -/
def runP (ss : Ss) : Nat → List (Nat × Nat × AO) → List Fact → Option Nat
  | o, [], [] => some o
  | o, (o', n, _) :: r, φ :: l => if o' = o ∧ szF ss φ = some n then runP ss (o + n) r l else none
  | _, _, _ => none
theorem fill_run (I : RelI E Γ rv fp f H) {rho : AO → AV} : ∀ {ps : List (Nat × Nat × AO)} {l : List Fact} {o e : Nat} {cs : List AV}, runP Γ.ss o ps l = some e → e = cs.length → FRs rv Γ.ss (Pf E Γ.ss fp H) H l (ps.map fun p => rho p.2.2) →
    fillL cs rho ps = some (cs.take o ++ (ps.map fun p => rho p.2.2).flatMap cellsOf)
  | [], [], o, e, cs, h, he, _ => by
    simp only [runP, Option.some.injEq] at h
    simp only [fillL, List.map_nil, List.flatMap_nil, List.append_nil]
    rw [List.take_of_length_le (by omega)]
  | (o', n, a) :: ps, φ :: l, o, e, cs, h, he, hv => by
    simp only [runP] at h
    split at h
    · rename_i hc
      obtain ⟨rfl, hs⟩ := hc
      obtain ⟨h1, _⟩ := szF_spec I hs hv.1
      have hle : ∀ {ps : List (Nat × Nat × AO)} {l : List Fact} {o e : Nat}, runP Γ.ss o ps l = some e → o ≤ e := by
        intro ps
        induction ps with
        | nil => intro l o e h; cases l <;> simp only [runP, Option.some.injEq, reduceCtorEq] at h; omega
        | cons q ps ih =>
          intro l o e h
          obtain ⟨q1, q2, q3⟩ := q
          cases l with
          | nil => simp [runP] at h
          | cons φ l =>
            simp only [runP] at h
            split at h
            · have := ih h; omega
            · cases h
      have hb := hle h
      simp only at h1
      simp only [fillL, h1]
      rw [if_pos ⟨trivial, by omega⟩]
      have hlen : (splice cs o' (cellsOf (rho a))).length = cs.length := splice_len (by omega)
      rw [fill_run I h (by rw [hlen]; exact he) hv.2]
      simp only [List.map_cons, List.flatMap_cons]
      have ht : (splice cs o' (cellsOf (rho a))).take (o' + n) = cs.take o' ++ cellsOf (rho a) := by
        simp only [splice]
        rw [List.take_left' (by simp only [List.length_append, List.length_take, h1]; omega)]
      rw [ht, List.append_assoc]
    · cases h
  | [], _ :: _, _, _, _, h, _, _ => by simp [runP] at h
  | (_, _, _) :: _, [], _, _, _, h, _, _ => by simp [runP] at h

/-- a structure, built of all its parts -/
theorem M_bldk {d : Nat} {zero : List AV} {ps : List (Nat × Nat × AO)} {φs : List Fact} (j : Nat) (hx : OpFs tb Γ (ps.map fun p => p.2.2) φs) (hr : runP Γ.ss 0 ps φs = some zero.length) (hn : φs.all notJunk = true) (hf : freshK Γ.ss j φs) {js : List Nat} (hjs : js = List.range' j φs.length) :
    OpN tb Γ (some d) (.bld zero ps) ⟨(d, .aggk js) :: Γ.ts, addK j φs Γ.ss⟩ := by
  intro E rv fp f H R
  subst hjs
  have hv := hx.spec R
  rw [List.map_map] at hv
  have hfill := fill_run R (rho := eval tb f) hr rfl hv
  obtain ⟨rv', fp', h1, h2, _, h4⟩ := R.keepL (j := j) hf hv (FRs.men R.ltP R.rvlt hn hv)
  refine ⟨.agg (zero.take 0 ++ (ps.map fun p => eval tb f p.2.2).flatMap cellsOf), none, by simp only [aop, hfill, val, Option.map_some], rfl, rv', fp', h4.push (d := d) (φ := .aggk _) ⟨h2, ?_⟩⟩
  have e : ((List.range' j φs.length).flatMap fun j => cellsOf (rv' j)) = ((List.range' j φs.length).map rv').flatMap cellsOf := by rw [List.flatMap_map]
  rw [e, h1, List.take_zero, List.nil_append]
  rfl

/-- where a part of a structure begins -/
def offK (ss : Ss) : List Nat → Option Nat
  | [] => some 0
  | j :: r => match findS ss j with
    | some (.keep φ) => (szF ss φ).bind fun n => (offK ss r).map (n + ·)
    | _ => none
theorem offK_spec (I : RelI E Γ rv fp f H) : ∀ {l : List Nat} {o : Nat}, offK Γ.ss l = some o → (l.flatMap fun j => cellsOf (rv j)).length = o
  | [], o, h => by simp only [offK, Option.some.injEq] at h; subst h; rfl
  | j :: l, o, h => by
    simp only [offK] at h
    split at h
    · rename_i φ e
      obtain ⟨n, hn, h⟩ := Option.bind_eq_some_iff.1 h
      obtain ⟨m, hm, rfl⟩ := Option.map_eq_some_iff.1 h
      rw [List.flatMap_cons, List.length_append, offK_spec I hm, (szF_spec I hn (I.slots j _ e).1).1]
    · cases h
/-- a part of a structure -/
theorem h_fldk {l r : List Nat} {j off n : Nat} {ag : Bool} {φ : Fact} (ha : OpF tb Γ a (.aggk (l ++ j :: r))) (hl : offK Γ.ss l = some off) (hj : findS Γ.ss j = some (.keep φ)) (hn : szF Γ.ss φ = some n) (hag : ag = aggF φ) : OpH tb Γ (.fld ag off n a) (some ()) fun _ => .kv j := by
  rintro E rv fp f H R _ ⟨⟩
  obtain ⟨hk, hv⟩ := ha E rv fp f H R
  have h1 := offK_spec R hl
  obtain ⟨h2, h3⟩ := szF_spec R hn (R.slots j _ hj).1
  rw [List.flatMap_append, List.flatMap_cons] at hv
  subst hag
  have hsub : sub ((l.flatMap fun j => cellsOf (rv j)) ++ (cellsOf (rv j) ++ r.flatMap fun j => cellsOf (rv j))) off n = cellsOf (rv j) := by
    simp only [sub]
    rw [List.drop_left' h1, List.take_left' h2]
  refine ⟨rv j, none, ?_, rfl, fun k hk' => by rw [List.mem_singleton.1 hk', hj]; rfl, rfl⟩
  simp only [aop, hv, hsub, h3, val, Option.map_some]
  rw [if_pos (by simp only [List.length_append, h1, h2]; omega)]

/-- one of several values -/
theorem h_extk {js : List Nat} {i j : Nat} (ha : OpF tb Γ a (.tupk js)) (hi : js[i]? = some j) : OpH tb Γ (.ext a i) (some ()) fun _ => .kv j := by
  rintro E rv fp f H R _ ⟨⟩
  obtain ⟨hk, hv⟩ := ha E rv fp f H R
  have hm := List.mem_of_getElem? hi
  refine ⟨rv j, none, by simp only [aop, hv, List.getElem?_map, hi, Option.map_some, val], rfl, fun k hk' => by rw [List.mem_singleton.1 hk']; exact hk j hm, rfl⟩

/-- a temporary's value is kept -/
theorem RelI.keepTemp (I : RelI E Γ rv fp f H) {j n : Nat} {φ : Fact} (hj : findS Γ.ss j = none) (hn : findT Γ.ts n = some φ) (hφ : notJunk φ = true) : ∃ rv' fp', RelI E ⟨(n, .kv j) :: Γ.ts, (j, .keep φ) :: Γ.ss⟩ rv' fp' f H := by
  have h := I.temps n φ hn
  obtain ⟨rv', fp', h1, _, h3, _⟩ := I.keepNew hj h (FR.men I.ltP I.rvlt (by rintro rfl; simp [notJunk] at hφ) h)
  refine ⟨rv', fp', h3.le, h3.base, h3.wf, h3.fplt, h3.rvlt, h3.scal, h3.inj, h3.slots, fun t ψ e => ?_, h3.gh⟩
  simp only [findT] at e
  split at e
  · rename_i ht
    cases e
    subst ht
    exact ⟨fun k hk => by rw [List.mem_singleton.1 hk]; simp only [findS, if_true]; rfl, h1.symm⟩
  · exact h3.temps t ψ e
variable {ks : List Kf} {ρ : Type} {Q : Post ρ}
def Sim.keepT {c : AC} (j n : Nat) {φ : Fact} (hj : findS Γ.ss j = none) (hn : findT Γ.ts n = some φ) (hφ : notJunk φ = true) (s : Sim tb ⟨(n, .kv j) :: Γ.ts, (j, .keep φ) :: Γ.ss⟩ c ks Q) : Sim tb Γ c ks Q :=
  s.turn fun _ _ _ ⟨_, _, I⟩ => I.keepTemp hj hn hφ
def Sim.opN {q : Bool} {d : Option Nat} {o : AOp} {l : List AOper} {Γ' : Cx} (h : OpN tb Γ d o Γ') (k : Sim tb Γ' (rg q l) ks Q) : Sim tb Γ (rg q (⟨d, none, o⟩ :: l)) ks Q :=
  ⟨k.m, fun E f H ⟨rv, fp, I⟩ r hr => by
    obtain ⟨v, u, h1, h2, rv', fp', h3⟩ := h E rv fp f H I
    obtain ⟨e, f', H', h4, h5⟩ := k.ok E _ _ ⟨rv', fp', h3⟩ r hr
    exact ⟨e, f', H', by rw [exec_rg_cons h1 h2]; exact h4, h5⟩⟩
def SimD.opN {d : Option Nat} {o : AOp} {l : List AOper} {w : List (Option (Nat × Nat))} {y : Nat × Nat} {N k : Nat} {B : List Ob} {C : List Cb} {Γ' : Cx} (hq : chkD N k B C y d o = true) (h : OpN tb Γ d o Γ') (s : SimD tb Γ' N k B C l w ks Q) : SimD tb Γ N k B C (⟨d, none, o⟩ :: l) (some y :: w) ks Q :=
  ⟨s.m, fun E f H ⟨rv, fp, I⟩ ms hms es hes r hr => by
    obtain ⟨v, u, h1, h2, rv', fp', h3⟩ := h E rv fp f H I
    obtain ⟨p, e, f', H', g, g'⟩ := s.ok E _ _ ⟨rv', fp', h3⟩ ms (hms.put (chkD_fresh hq).1) es (hes.put (chkD_fresh hq).2) r hr
    exact ⟨p, e, f', H', stepD hq hms h1 h2 g, g'⟩⟩
def SimD.keepT {l : List AOper} {w : List (Option (Nat × Nat))} {N k : Nat} {B : List Ob} {C : List Cb} (j n : Nat) {φ : Fact} (hj : findS Γ.ss j = none) (hn : findT Γ.ts n = some φ) (hφ : notJunk φ = true) (s : SimD tb ⟨(n, .kv j) :: Γ.ts, (j, .keep φ) :: Γ.ss⟩ N k B C l w ks Q) : SimD tb Γ N k B C l w ks Q :=
  s.turn fun _ _ _ ⟨_, _, I⟩ => I.keepTemp hj hn hφ
end
end Go.Proofs.YtobejhpigbllpaaGreatDoor.Am
