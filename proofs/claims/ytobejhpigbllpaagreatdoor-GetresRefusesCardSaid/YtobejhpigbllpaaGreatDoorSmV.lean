/-
  What operations come to, on kept values: rows of them, variables with parts, loops that are unrolled.
-/
import Derived.Test.YtobejhpigbllpaaGreatDoorSmU
namespace Go.Proofs.YtobejhpigbllpaaGreatDoor.Am

section
variable {tb : Tab} {Γ : Cx} {a b : AO} {E : Env} {rv : Nat → AV} {fp : Fp} {f : Fr} {H : Heap} {ks : List Kf} {ρ : Type} {Q : Post ρ}

theorem keepL_idem {lv : List Nat} {f : Fr} : keepL lv (keepL lv f) = keepL lv f := by
  simp only [keepL]
  apply List.map_congr_left
  intro t ht
  rw [show (lv.map fun t => (t, get f t)) = keepL lv f from rfl, keepL_find ht]
theorem exec_loop_keep {lv : List Nat} {x : AC} : exec tb (den tb) (.loop lv x) (keepL lv f) H = exec tb (den tb) (.loop lv x) f H := by
  rw [exec_unroll, exec_unroll, keepL_idem]
/-- a loop's first round is walked by itself -/
def Sim.unroll {lv : List Nat} {x : AC} {Γ' : Cx} (hs : Sub Γ' Γ) (hl : liveT lv Γ'.ts = true) (s : Sim tb Γ' x (.seq (.loop lv x) :: ks) Q) : Sim tb Γ (.loop lv x) ks Q :=
  ⟨s.m, fun E f H ⟨rv, fp, I⟩ r hr => by
    obtain ⟨e, f', H', h1, h2⟩ := s.ok E (keepL lv f) H (Rel.keep hl ⟨rv, fp, I.sub hs⟩) r hr
    refine ⟨e, f', H', ?_, h2⟩
    rw [exec_unroll]
    obtain ⟨p, hp, h1⟩ := Option.bind_eq_some_iff.1 h1
    obtain ⟨e0, f0, H0⟩ := p
    rw [hp]
    cases e0 <;> simp only [Option.bind_some, runk] at h1 ⊢
    · rw [exec_loop_keep]; exact h1
    · exact h1
    · exact h1⟩

/-- a value that is known -/
theorem h_lit {o : AOp} {t : T} {x y : t.α} (h : OpH tb Γ o (some x) fun z => .val t z) (e : x = y) : OpH tb Γ o (some ()) fun _ => .val t y := by
  rintro E rv fp f H R _ ⟨⟩
  obtain ⟨v, u, h1, h2, h3⟩ := h E rv fp f H R x rfl
  exact ⟨v, u, h1, h2, e ▸ h3⟩

/-! nil -/
theorem h_nilC' {j o : Nat} {neg : Bool} (ha : OpF tb Γ a (.cp j o)) : OpH tb Γ (.eq neg .p a (.k .nilp)) (some ()) fun _ => .val T.b neg := by
  rintro E rv fp f H R z ⟨⟩
  obtain ⟨l, id, e, hv⟩ := ha E rv fp f H R
  exact ⟨.b neg, none, by simp only [aop, hv, show eval tb f (.k .nilp) = AV.nilp from rfl, eqK, Option.map_some, val]; cases neg <;> rfl, rfl, T.b_V.2 rfl⟩
theorem h_nilE' {j i o : Nat} {neg : Bool} (ha : OpF tb Γ a (.ep j i o)) : OpH tb Γ (.eq neg .p a (.k .nilp)) (some ()) fun _ => .val T.b neg := by
  rintro E rv fp f H R z ⟨⟩
  obtain ⟨l, id, n, e, _, hv⟩ := ha E rv fp f H R
  exact ⟨.b neg, none, by simp only [aop, hv, show eval tb f (.k .nilp) = AV.nilp from rfl, eqK, Option.map_some, val]; cases neg <;> rfl, rfl, T.b_V.2 rfl⟩
theorem h_nilP' {t : T} {x : t.α} {neg : Bool} (ha : OpF tb Γ a (.rp t x)) : OpH tb Γ (.eq neg .p a (.k .nilp)) (some ()) fun _ => .val T.b neg := by
  rintro E rv fp f H R z ⟨⟩
  have h := (ha E rv fp f H R).1
  refine ⟨.b neg, none, ?_, rfl, T.b_V.2 rfl⟩
  cases hx : eval tb f a <;> rw [hx] at h <;> simp only [ptrP] at h <;> simp only [aop, hx, show eval tb f (.k .nilp) = AV.nilp from rfl, eqK, Option.map_some, val] <;> cases neg <;> rfl
theorem h_nilK' {neg : Bool} (ha : OpF tb Γ a (.con .nilp)) : OpH tb Γ (.eq neg .p a (.k .nilp)) (some ()) fun _ => .val T.b (!neg) := by
  rintro E rv fp f H R z ⟨⟩
  obtain ⟨hv, _⟩ := ha E rv fp f H R
  exact ⟨.b (!neg), none, by simp only [aop, hv, show eval tb f (.k .nilp) = AV.nilp from rfl, eqK, Option.map_some, val]; cases neg <;> rfl, rfl, T.b_V.2 rfl⟩
theorem h_nilF' {fn : Fn} {js ls : List Nat} {neg : Bool} (ha : OpF tb Γ a (.fnv fn js ls)) : OpH tb Γ (.eq neg .f a (.k .nilf)) (some ()) fun _ => .val T.b neg := by
  rintro E rv fp f H R z ⟨⟩
  obtain ⟨_, hv⟩ := ha E rv fp f H R
  exact ⟨.b neg, none, by simp only [aop, hv, show eval tb f (.k .nilf) = AV.nilf from rfl, eqK, Option.map_some, val]; cases neg <;> rfl, rfl, T.b_V.2 rfl⟩

/-! rows of kept values -/
/-- elements, each of kept values -/
inductive ElsK (tb : Tab) (Γ : Cx) (sz : Nat) : Nat → List (Nat × AO) → List (List Nat) → Prop where
  | nil {i : Nat} : ElsK tb Γ sz i [] []
  | cons {i : Nat} {a : AO} {js : List Nat} {ps : List (Nat × AO)} {l : List (List Nat)} : OpF tb Γ a (.aggk js) → offK Γ.ss js = some sz → ElsK tb Γ sz (i + 1) ps l → ElsK tb Γ sz i ((i, a) :: ps) (js :: l)
theorem ElsK.spec {sz : Nat} (I : RelI E Γ rv fp f H) : ∀ {i : Nat} {ps : List (Nat × AO)} {l : List (List Nat)} {els : List (List AV)}, ElsK tb Γ sz i ps l → i + l.length = els.length →
    fillE els sz (eval tb f) ps = some (els.take i ++ l.map fun js => js.flatMap fun j => cellsOf (rv j)) ∧ keeps Γ.ss l.flatten
  | i, _, _, els, .nil, hl => by
    simp only [List.length_nil] at hl
    exact ⟨by simp only [fillE, List.map_nil, List.append_nil]; rw [List.take_of_length_le (by omega)], fun j hj => (by cases hj)⟩
  | i, _, _, els, .cons (a := a) (js := js) (l := l) h ho k, hl => by
    obtain ⟨hk, hv⟩ := h E rv fp f H I
    have hlen := offK_spec I ho
    simp only [List.length_cons] at hl
    obtain ⟨h1, h2⟩ := k.spec I (els := els.set i (js.flatMap fun j => cellsOf (rv j))) (by rw [List.length_set]; omega)
    refine ⟨?_, fun j hj => ?_⟩
    · have hc : cellsOf (eval tb f a) = js.flatMap fun j => cellsOf (rv j) := by rw [hv]; rfl
      simp only [fillE, hc]
      rw [if_pos ⟨hlen, by omega⟩, h1, List.take_succ_eq_append_getElem (by rw [List.length_set]; omega), List.take_set_of_le (Nat.le_refl _), List.getElem_set_self, List.map_cons, List.append_assoc]
      rfl
    · rw [List.flatten_cons] at hj
      rcases List.mem_append.1 hj with hj | hj
      · exact hk j hj
      · exact h2 j hj
/-- a literal of structures of kept values -/
theorem M_blsk {zero : List (List AV)} {d t0 sz : Nat} {ps : List (Nat × AO)} {l : List (List Nat)} (j : Nat) (h : ElsK tb Γ sz 0 ps l) (hz : zero.length = l.length) (hj : findS Γ.ss j = none) :
    OpM tb Γ (some d) (.bls t0 sz zero ps) (some ()) fun _ => ⟨(d, .own j) :: Γ.ts, (j, .rowk sz l) :: Γ.ss⟩ := by
  rintro E rv fp f H R _ ⟨⟩
  obtain ⟨h1, h2⟩ := h.spec R (els := zero) (by omega)
  rw [List.take_zero, List.nil_append] at h1
  have hm : mentLL (l.map fun js => js.flatMap fun j => cellsOf (rv j)) ≤ H.length := by
    clear h h1 hz
    induction l with
    | nil => simp [mentLL]
    | cons js l ih =>
      simp only [List.map_cons, mentLL]
      have := ih fun j hj => h2 j (by simp only [List.flatten_cons, List.mem_append]; exact .inr hj)
      have := (keeps_men R.rvlt (l := js) fun j hj => h2 j (by simp only [List.flatten_cons, List.mem_append]; exact .inl hj)).2
      omega
  obtain ⟨rv', fp', g1, g2, g3⟩ := R.more (j := j) (S := .rowk sz l) (v := .orow H.length l.length 0 l.length) (o := .row (some t0) false sz (l.map fun js => js.flatMap fun j => cellsOf (rv j))) (live_none hj) (by simp only [mentO]; omega) rfl (by simp [ment]) rfl fun rv' fp' e1 e2 hP hs => by
    have hsame : ∀ k ∈ l.flatten, live Γ.ss k → (live ((j, .rowk sz l) :: Γ.ss) k ∧ (keepO (findS Γ.ss k) = true → keepO (findS ((j, .rowk sz l) :: Γ.ss) k) = true)) ∧ rv' k = rv k := fun k hk lk => hs (.aggk l.flatten) k (fun hn => hn hk) lk
    refine ⟨(keeps_same (rv := rv) (rv' := rv') h2 hsame).1, H.length, e1, e2, ?_⟩
    have : (l.map fun js => js.flatMap fun j => cellsOf (rv' j)) = l.map fun js => js.flatMap fun j => cellsOf (rv j) := by
      apply List.map_congr_left
      intro js hjs
      exact (keeps_same (rv := rv) (rv' := rv') (ss' := (j, .rowk sz l) :: Γ.ss) (fun j hj => h2 j (List.mem_flatten.2 ⟨js, hjs, hj⟩)) fun k hk => hsame k (List.mem_flatten.2 ⟨js, hjs, hk⟩)).2.2
    rw [this]
    simp [rowAt]
  refine ⟨.orow H.length l.length 0 l.length, some (H ++ [AObj.row (some t0) false sz (l.map fun js => js.flatMap fun j => cellsOf (rv j))]), by simp only [aop, h1, Option.map_some, List.length_map], rv', fp', g3.push (d := d) (φ := .own j) ⟨g2, g1.symm⟩⟩
theorem h_lenK {sz j n : Nat} {l : List (List Nat)} (ha : OpF tb Γ a (.own j)) (hj : findS Γ.ss j = some (.rowk sz l)) (hn : n = l.length) : OpH tb Γ (.len a) (some ()) fun _ => .val (T.int .i64) (n : Int) := by
  rintro E rv fp f H R _ ⟨⟩
  obtain ⟨_, hv⟩ := ha E rv fp f H R
  obtain ⟨_, id, h1, _, h3⟩ := R.slots j _ hj
  subst hn
  exact ⟨_, none, by simp only [aop, hv, h1, len?, Option.map_some], rfl, T.int_V.2 rfl⟩
theorem h_iasK {sz sz' j i : Nat} {n : Int} {k : IntKind} {l : List (List Nat)} (ha : OpF tb Γ a (.own j)) (hj : findS Γ.ss j = some (.rowk sz l)) (hs : sz' = sz) (hb : OpF tb Γ b (.val (T.int k) n)) (hi : n = i) (hl : i < l.length) : OpH tb Γ (.ias sz' a b) (some ()) fun _ => .ep j i 0 := by
  rintro E rv fp f H R _ ⟨⟩
  obtain ⟨lv, hv⟩ := ha E rv fp f H R
  obtain ⟨_, id, h1, _, h3⟩ := R.slots j _ hj
  subst hs hi
  refine ⟨.pe id l.length (0 + i) 0, none, ?_, rfl, lv, id, l.length, h1, hl, by rw [Nat.zero_add]⟩
  simp only [aop, hv, h1, T.int_V.1 (hb E rv fp f H R), int?, Option.bind_some]
  rw [if_pos (by omega)]
  simp [iaddr, els?, h3, hl, val]
theorem h_ldK {sz n j i : Nat} {l : List (List Nat)} {js : List Nat} (ha : OpF tb Γ a (.ep j i 0)) (hj : findS Γ.ss j = some (.rowk sz l)) (hi : l[i]? = some js) (hn : offK Γ.ss js = some n) : OpH tb Γ (.ld true n a) (some ()) fun _ => .aggk js := by
  rintro E rv fp f H R _ ⟨⟩
  obtain ⟨lv, id, m, e, _, hv⟩ := ha E rv fp f H R
  obtain ⟨h0, id', h1, _, h3⟩ := R.slots j _ hj
  rw [e] at h1
  cases h1
  have hlen := offK_spec R hn
  refine ⟨.agg (js.flatMap fun j => cellsOf (rv j)), none, ?_, rfl, fun k hk => h0 k (List.mem_flatten.2 ⟨js, List.mem_of_getElem? hi, hk⟩), rfl⟩
  simp only [aop, hv, load, place, h3, Option.bind_some, List.length_map, if_true, List.getElem?_map, hi, Option.map_some, val, sub, List.drop_zero]
  rw [if_pos (by omega), List.take_of_length_le (by omega)]
  rfl
end
end Go.Proofs.YtobejhpigbllpaaGreatDoor.Am
