/-
  Each of the machine's operations does what the model's does: maps.
-/
import Derived.Test.YtobejhpigbllpaaGreatDoorAmGc
import Derived.MapKept
namespace Go.Proofs.YtobejhpigbllpaaGreatDoor.Am
section
variable {cl : Nat → List AV → Heap → Out} {P : Program} {tb : Tab} {C : Ctx} {f : Fr} {a : Act} {nt : Nat}

def plainV : Value → Bool
  | .bool _ => true
  | .int _ _ => true
  | .string _ => true
  | _ => false

theorem plainV_same {v : Value} (h : plainV v = true) (n : Nat) : Instr.sameBits n v v = true := by
  cases v <;> simp only [plainV, Bool.false_eq_true] at h <;> cases n <;> simp [Instr.sameBits, beq_toListBytes]

theorem eq1_true {c : CK} {x y : AV} {v u : Value} (h : eq1 c x y = some true) (rx : Rep C x v) (ry : Rep C y u) : v = u ∧ plainV v = true := by
  rcases run_one h rx ry with ⟨p, q, _, rfl, rfl, e⟩ | ⟨k, p, q, _, rfl, rfl, e⟩ | ⟨p, q, _, rfl, rfl, e⟩
  all_goals
    have := eq_of_beq e.symm
    subst this
    exact ⟨rfl, rfl⟩

theorem eqS_true : ∀ {l : List CK} {x y : List AV} {cx cy : List Value}, eqS l x y = some true → RepL C x cx → RepL C y cy → cx = cy ∧ cx.all plainV = true
  | [], [], [], _, _, _, rx, ry => by
    simp only [RepL] at rx ry
    subst rx; subst ry
    exact ⟨rfl, rfl⟩
  | [], [], _ :: _, _, _, h, _, _ => by simp [eqS] at h
  | [], _ :: _, _, _, _, h, _, _ => by simp [eqS] at h
  | _ :: _, [], _, _, _, h, _, _ => by simp [eqS] at h
  | _ :: _, _ :: _, [], _, _, h, _, _ => by simp [eqS] at h
  | c :: l, v :: x, u :: y, _, _, h, ⟨p, cx, e1, r1, r2⟩, ⟨q, cy, e2, r3, r4⟩ => by
    subst e1; subst e2
    simp only [eqS] at h
    obtain ⟨a, ha, h⟩ := Option.bind_eq_some_iff.1 h
    obtain ⟨d, hd, h⟩ := Option.map_eq_some_iff.1 h
    simp only [Bool.and_eq_true] at h
    obtain ⟨rfl, rfl⟩ := h
    obtain ⟨rfl, h1⟩ := eq1_true ha r1 r3
    obtain ⟨rfl, h2⟩ := eqS_true hd r2 r4
    exact ⟨rfl, by simp [h1, h2]⟩

/-- the keys of a map -/
def okKey (P : Program) (ek : EK) (t : TypeId) : Bool :=
  match ek, P.underlying t with
  | .one .b, some .bool => true
  | .one (.i k), some (.int q) => decide (k = q)
  | .one .s, some .string => true
  | .agg l, some (.struct _) => decide (shp P 50 t = some l)
  | .agg l, some (.array _ _) => decide (shp P 50 t = some l)
  | _, _ => false

theorem okKey_spec {ek : EK} {t : TypeId} (h : okKey P ek t = true) : (∃ c, ek = .one c ∧ P.underlying t = some (ckT c)) ∨
    ∃ l d, ek = .agg l ∧ aggT P t = true ∧ shp P 50 t = some l ∧ P.underlying t = some d ∧ ∀ v u, Instr.sameNow d v u = none := by
  unfold okKey at h
  split at h
  · rename_i hu; exact .inl ⟨.b, rfl, hu⟩
  · rename_i k q hu
    have : k = q := by simpa using h
    subst this
    exact .inl ⟨.i k, rfl, hu⟩
  · rename_i hu; exact .inl ⟨.s, rfl, hu⟩
  · rename_i l fs hu
    exact .inr ⟨l, _, rfl, by simp only [aggT, hu], by simpa using h, hu, fun v u => by simp [Instr.sameNow]⟩
  · rename_i l n e hu
    exact .inr ⟨l, _, rfl, by simp only [aggT, hu], by simpa using h, hu, fun v u => by simp [Instr.sameNow]⟩
  · cases h

def CheckFor (P : Program) (em : Bool) (dd : Nat) (t : TypeId) (l : List CK) : Prop :=
  ∀ (cx : List Value) (x : Value) (w : World), cx.length = l.length → IsV P t cx x → (Instr.checkKey em dd t x).run P w = .ok () w

theorem check_plain (em : Bool) (d : Nat) {c : CK} {t : TypeId} (hu : P.underlying t = some (ckT c)) (x : Value) (w : World) : (Instr.checkKey em (d + 1) t x).run P w = .ok () w := by
  rw [Instr.checkKey]
  simp only [Sem.run_bind, run_underlying' hu, Result.andThen_ok]
  cases c <;> cases x <;> simp [ckT]

theorem check_sound (em : Bool) (k : Nat) : ∀ (d : Nat) (t : TypeId) (l : List CK), shp P d t = some l → CheckFor P em (k + d) t l
  | 0, _, _, h => by simp [shp] at h
  | d + 1, t, l, h => by
    intro cx x w hl ix
    simp only [shp] at h
    split at h
    · rename_i hu; exact check_plain em (k + d) (c := .b) hu x w
    · rename_i q hu; exact check_plain em (k + d) (c := .i q) hu x w
    · rename_i hu; exact check_plain em (k + d) (c := .s) hu x w
    · rename_i fs hu
      split at h
      · cases h
      · have hag : aggT P t = true := by simp only [aggT, hu]
        simp only [IsV, hag, if_true] at ix
        subst ix
        rw [show k + (d + 1) = (k + d) + 1 from rfl, Instr.checkKey]
        simp only [Sem.run_bind, run_underlying' hu, Result.andThen_ok]
        rw [← Array.forIn_toList]
        have key : ∀ (L : List Field) (pos : Nat) (m : List CK), shpF P (shp P d) pos L = some m → pos + m.length ≤ cx.length →
            (forIn L PUnit.unit fun f (_ : PUnit) => (do
              if f.name ≠ "_" then Instr.checkKey em (k + d) f.type (← part f.type cx.toArray f.offset)
              pure (ForInStep.yield PUnit.unit) : Sem (ForInStep PUnit))).run P w = .ok PUnit.unit w := by
          intro L
          induction L with
          | nil => intro _ _ _ _; simp
          | cons f L ih =>
            intro pos m hm hle
            simp only [shpF] at hm
            obtain ⟨m1, hm1, hm⟩ := Option.bind_eq_some_iff.1 hm
            split at hm
            · rename_i hc
              obtain ⟨hoff, hname, hcells⟩ := hc
              obtain ⟨r, hr, rfl⟩ := Option.map_eq_some_iff.1 hm
              rw [List.length_append] at hle
              obtain ⟨v, hv, iv⟩ := run_part_is (P := P) hm1 hcells (cs := cx) (off := f.offset) (by omega) w
              have hck := check_sound em k d f.type m1 hm1 _ v w (by simp only [List.length_take, List.length_drop]; omega) iv
              simp only [List.forIn_cons, Sem.run_bind, hname, ne_eq, not_false_eq_true, if_true, Result.andThen_ok, hv, hck, Sem.run_pure]
              exact ih _ r hr (by omega)
            · cases hm
        have := key fs.toList 0 l h (by omega)
        simp only [ne_eq, ite_not] at this ⊢
        simp at this ⊢
        rw [this]
        rfl
    · rename_i n el hu
      obtain ⟨m, hm, h⟩ := Option.bind_eq_some_iff.1 h
      split at h
      · rename_i hc
        obtain rfl := Option.some.inj h
        have hag : aggT P t = true := by simp only [aggT, hu]
        simp only [IsV, hag, if_true] at ix
        subst ix
        obtain ⟨i, hi⟩ : ∃ i, P.info? el = some i := by
          obtain ⟨dd, hd⟩ := Option.isSome_iff_exists.1 (shp_some hm)
          exact Option.isSome_iff_exists.1 (info_of_underlying hd)
        rw [show k + (d + 1) = (k + d) + 1 from rfl, Instr.checkKey]
        simp only [Sem.run_bind, run_underlying' hu, Result.andThen_ok]
        simp only [Std.Legacy.Range.forIn_eq_forIn_range', Std.Legacy.Range.size, Nat.sub_zero, Nat.add_one_sub_one, Nat.div_one]
        have hlen : (List.replicate n m).flatten.length = n * m.length := by simp [List.length_flatten]
        rw [hlen] at hl
        have each : ∀ j ∈ List.range' 0 n, j < n := fun j hj => by simpa using hj
        generalize List.range' 0 n = is at each
        induction is with
        | nil => simp
        | cons j is ih =>
          have hj := each j (by simp)
          have hmul : (j + 1) * m.length ≤ n * m.length := Nat.mul_le_mul_right _ hj
          rw [Nat.succ_mul] at hmul
          obtain ⟨v, hv, iv⟩ := run_part_is (P := P) hm hc (cs := cx) (off := j * P.cellsOf el) (by rw [← hc]; omega) w
          have hck := check_sound em k d el m hm _ v w (by simp only [List.length_take, List.length_drop]; rw [← hc]; omega) iv
          have hsz : (sizeOf el).run P w = .ok (P.cellsOf el) w := run_sizeOf' (by rw [hi]; rfl) w
          simp only [List.forIn_cons, Sem.run_bind, hsz, Result.andThen_ok, hv, hck, Sem.run_pure]
          exact ih (fun y hy => each y (by simp [hy]))
      · cases h
    · cases h

theorem check_key {ek : EK} {t : TypeId} (hk : okKey P ek t = true) {x : AV} {v : Value} (hx : keyOk ek x = true) (r : Rep C x v) (em : Bool) (w : World) : (Instr.checkKey em 10000 t v).run P w = .ok () w := by
  rcases okKey_spec hk with ⟨c, rfl, hu⟩ | ⟨l, d, rfl, ha, hs, hu, _⟩
  · exact check_plain em 9999 hu v w
  · cases x <;> simp only [keyOk, Bool.false_eq_true] at hx
    rename_i cs
    obtain ⟨vs, rfl, _, rr⟩ := r
    exact check_sound em 9950 50 t l hs vs _ w (by rw [rr.length]; exact Nat.eq_of_beq_eq_true hx) (by simp only [IsV, ha, if_true])

/-- what is asked of a map's keys, one by one -/
theorem key_eq {ek : EK} {t : TypeId} (hk : okKey P ek t = true) {x y : AV} {v u : Value} {b : Bool} (h : eqK ek x y = some b) (rx : Rep C x v) (ry : Rep C y u) :
    ((∃ d, P.underlying t = some d ∧ Instr.sameNow d v u = some b) ∨ ((∃ d, P.underlying t = some d ∧ ∀ v u, Instr.sameNow d v u = none) ∧ ∀ w, (Op.equal t v u).run P w = .ok b w)) ∧
    (b = true → v = u ∧ ∀ w, (Instr.keyThatStays v v).run P w = .ok v w) := by
  rcases okKey_spec hk with ⟨c, rfl, hu⟩ | ⟨l, d, rfl, ha, hs, hu, hn⟩
  · simp only [eqK] at h
    refine ⟨.inl ⟨_, hu, ?_⟩, fun hb => ?_⟩
    · rcases run_one h rx ry with ⟨p, q, rfl, rfl, rfl, e⟩ | ⟨k, p, q, rfl, rfl, rfl, e⟩ | ⟨p, q, rfl, rfl, rfl, e⟩
      · simp [ckT, Instr.sameNow, e]
      · simp [ckT, Instr.sameNow, e]
      · simp only [ckT, Instr.sameNow, e, beq_toListBytes]
        rw [bytes_toList, bytes_toList]
    · subst hb
      obtain ⟨rfl, hp⟩ := eq1_true h rx ry
      exact ⟨rfl, fun w => by simp [Instr.keyThatStays, plainV_same hp]⟩
  · unfold eqK at h
    split at h <;> first | contradiction | skip
    rename_i l' cx cy e
    cases e
    obtain ⟨vx, rfl, _, r1⟩ := rx
    obtain ⟨vy, rfl, _, r2⟩ := ry
    refine ⟨.inr ⟨⟨d, hu, hn⟩, fun w => ?_⟩, fun hb => ?_⟩
    · exact eq_sound (C := C) 9950 50 t l hs _ _ vx vy b _ _ w r1 r2 h (by simp only [IsV, ha, if_true]) (by simp only [IsV, ha, if_true])
    · subst hb
      obtain ⟨rfl, hp⟩ := eqS_true h r1 r2
      refine ⟨rfl, fun w => ?_⟩
      have hs : Instr.sameBits 10000 (.agg vx.toArray) (.agg vx.toArray) = true := by
        show Instr.sameBits (9999 + 1) _ _ = true
        simp only [Instr.sameBits, beq_self_eq_true, Bool.true_and, List.all_eq_true]
        rintro ⟨p, q⟩ hp'
        obtain ⟨i, hi, e⟩ := List.getElem_of_mem hp'
        rw [List.getElem_zip, Prod.mk.injEq] at e
        obtain ⟨rfl, rfl⟩ := e
        exact plainV_same (List.all_eq_true.1 hp _ (List.getElem_mem _)) 9999
      simp [Instr.keyThatStays, hs]

/-- what is found -/
def Found (P : Program) (C : Ctx) (ms : List MapEntry) (i : Nat) (kv : Value) : Option (Nat × AV) → Option (Nat × Value) → Prop
  | none, r => r = none
  | some (n, v), r => ∃ j e, n = i + j ∧ r = some (n, e.val) ∧ ms[j]? = some e ∧ e.key = kv ∧ Rep C v e.val ∧ ∀ w, (Instr.keyThatStays kv kv).run P w = .ok kv w

theorem Found.up {ms : List MapEntry} {m : MapEntry} {i : Nat} {kv : Value} {r : Option (Nat × AV)} {r' : Option (Nat × Value)} (h : Found P C ms (i + 1) kv r r') : Found P C (m :: ms) i kv r r' := by
  cases r with
  | none => exact h
  | some p =>
    obtain ⟨j, e, h1, h2⟩ := h
    exact ⟨j + 1, e, by omega, h2⟩

theorem find_now {ek : EK} {t : TypeId} (hk : okKey P ek t = true) {kx : AV} {kv : Value} (rk : Rep C kx kv) {d : TypeDesc} (hu : P.underlying t = some d) : ∀ (es : List (AV × AV)) (ms : List MapEntry) (i : Nat) {r : Option (Nat × AV)},
    RepL C (es.map (·.1)) (ms.map (·.key)) → RepL C (es.map (·.2)) (ms.map (·.val)) → find ek kx es i = some r →
    (∃ r', Instr.findNow d kv ms i = some r' ∧ Found P C ms i kv r r') ∨ (Instr.findNow d kv ms i = none ∧ (∀ v u, Instr.sameNow d v u = none) ∧ ∃ r', (∀ w, (Instr.findAsking t kv ms i).run P w = .ok r' w) ∧ Found P C ms i kv r r')
  | [], [], i, r, _, _, h => by
    simp only [find, Option.some.injEq] at h
    subst h
    exact .inl ⟨none, rfl, rfl⟩
  | [], _ :: _, _, _, r1, _, _ => by simp [RepL] at r1
  | _ :: _, [], _, _, ⟨_, _, e, _⟩, _, _ => by simp at e
  | (x, v) :: es, m :: ms, i, r, ⟨u, us, e1, r1, r2⟩, ⟨q, qs, e2, r3, r4⟩, h => by
    simp only [List.map_cons, List.cons.injEq] at e1 e2
    obtain ⟨rfl, rfl⟩ := e1
    obtain ⟨rfl, rfl⟩ := e2
    simp only [find] at h
    obtain ⟨b, hb, h⟩ := Option.bind_eq_some_iff.1 h
    obtain ⟨q1, q2⟩ := key_eq hk hb rk r1
    cases b with
    | true =>
      simp only [if_true, Option.some.injEq] at h
      subst h
      obtain ⟨hkv, hst⟩ := q2 rfl
      have fd : Found P C (m :: ms) i kv (some (i, v)) (some (i, m.val)) := ⟨0, m, rfl, rfl, rfl, hkv.symm, r3, hst⟩
      rcases q1 with ⟨d', hu', hs⟩ | ⟨⟨d', hu', hs⟩, hq⟩
      · rw [hu] at hu'; cases hu'
        exact .inl ⟨_, by simp only [Instr.findNow, hs], fd⟩
      · rw [hu] at hu'; cases hu'
        exact .inr ⟨by simp only [Instr.findNow, hs], hs, _, fun w => by simp [Instr.findAsking, hq], fd⟩
    | false =>
      simp only [Bool.false_eq_true, if_false] at h
      have ih := find_now hk rk hu es ms (i + 1) r2 r4 h
      rcases q1 with ⟨d', hu', hs⟩ | ⟨⟨d', hu', hs⟩, hq⟩
      · rw [hu] at hu'; cases hu'
        rcases ih with ⟨r', h1, h2⟩ | ⟨h1, h2, _⟩
        · exact .inl ⟨r', by simp only [Instr.findNow, hs, h1], h2.up⟩
        · rw [h2] at hs; cases hs
      · rw [hu] at hu'; cases hu'
        refine .inr ⟨by simp only [Instr.findNow, hs], hs, ?_⟩
        rcases ih with ⟨r', h1, h2⟩ | ⟨_, _, r', h1, h2⟩
        · refine ⟨r', fun w => ?_, h2.up⟩
          have : ms = [] ∧ r' = none := by
            cases ms with
            | nil => exact ⟨rfl, by simpa [Instr.findNow] using h1.symm⟩
            | cons m' ms => simp [Instr.findNow, hs] at h1
          obtain ⟨rfl, rfl⟩ := this
          simp [Instr.findAsking, hq]
        · exact ⟨r', fun w => by simp [Instr.findAsking, hq, h1], h2.up⟩

theorem find_key {ek : EK} {t : TypeId} (hk : okKey P ek t = true) {kx : AV} {kv : Value} (rk : Rep C kx kv) {es : List (AV × AV)} {ms : List MapEntry} {r : Option (Nat × AV)} (r1 : RepL C (es.map (·.1)) (ms.map (·.key))) (r2 : RepL C (es.map (·.2)) (ms.map (·.val)))
    (h : find ek kx es 0 = some r) : ∃ r', (∀ w, (Instr.findKey t kv ms).run P w = .ok r' w) ∧ Found P C ms 0 kv r r' := by
  obtain ⟨d, hu⟩ : ∃ d, P.underlying t = some d := by
    rcases okKey_spec hk with ⟨c, _, hu⟩ | ⟨_, d, _, _, _, hu, _⟩
    · exact ⟨_, hu⟩
    · exact ⟨_, hu⟩
  rcases find_now hk rk hu es ms 0 r1 r2 h with ⟨r', h1, h2⟩ | ⟨h1, _, r', h2, h3⟩
  · exact ⟨r', fun w => by simp only [Instr.findKey, Sem.run_bind, run_underlying' hu, Result.andThen_ok, h1, Sem.run_pure], h2⟩
  · exact ⟨r', fun w => by simp only [Instr.findKey, Sem.run_bind, run_underlying' hu, Result.andThen_ok, h1, h2], h3⟩

/-- a map, in the model's memory -/
theorem map_rep (I : Inv tb C) {x : AV} {v : Value} {es : List (AV × AV)} (r : Rep C x v) (h : entries C.H x = some es) : ∃ (ms : List MapEntry), RepL C (es.map (·.1)) (ms.map (·.key)) ∧ RepL C (es.map (·.2)) (ms.map (·.val)) ∧
    ((v = .map none ∧ ms = []) ∨ ∃ b clock, v = .map (some b) ∧ C.w.heap[b]? = some (.map ms.toArray clock)) := by
  cases x <;> simp only [entries, reduceCtorEq] at h
  case nilm =>
    obtain rfl := Option.some.inj h
    exact ⟨[], rfl, rfl, .inl ⟨r, rfl⟩⟩
  case mp id =>
    have hg : C.H[id]? = some (.map es) := by
      unfold mapAt at h
      split at h
      · rename_i es' hg; rw [hg]; rw [Option.some.inj h]
      · cases h
    obtain ⟨ms, clock, h1, h2, h3⟩ := I.obj id _ hg
    exact ⟨ms, h2, h3, .inr ⟨_, clock, r.2, h1⟩⟩

theorem sim_lkp (I : Inv tb C) (F : FrRel C f a nt) {o : Oper} {t kt e : TypeId} {ek : EK} {zero : AV} {ok : Bool} {m k : AO} {y1 y2 : Operand} (ho : o.op = .lookup t y1 y2 ok) (hu : P.underlying t = some (.map kt e)) {i : TypeInfo} {z : Value} (hi : P.info? e = some i) (hz : i.zero = some z)
    (hzv : isV zero z = true) (hk : okKey P ek kt = true) (h1 : okAO m y1 = true) (h2 : okAO k y2 = true) {es : List (AV × AV)} (he : entries C.H (eval tb f m) = some es) (hko : keyOk ek (eval tb f k) = true) {q : Option (Nat × AV)} (hq : find ek (eval tb f k) es 0 = some q) :
    Yields tb C ((match (generalizing := false) q with
        | some (_, v) => (if ok then .tup [v, .b true] else v, none)
        | none => (if ok then .tup [zero, .b false] else zero, none)) : AV × Option Heap) ((execOp a.eval o).run P C.w) := by
  have r1 := rep_eval I F h1
  have r2 := rep_eval I F h2
  obtain ⟨ms, g1, g2, g3⟩ := map_rep I r1 he
  obtain ⟨r', f1, f2⟩ := find_key hk r2 g1 g2 hq
  have hzz : ∀ w, (zeroValue e).run P w = .ok z w := fun w => by simp only [zeroValue, Sem.run_bind, run_typeInfo' hi, Result.andThen_ok, hz, Sem.run_pure]
  have run : ∀ {v : Value} {b : Bool}, ((∃ n, r' = some (n, v)) ∧ b = true) ∨ (r' = none ∧ v = z ∧ b = false) → (execOp a.eval o).run P C.w = .ok (.value (if ok then .tuple #[v, .bool b] else v)) C.w := by
    rintro v b (⟨⟨n, rfl⟩, rfl⟩ | ⟨rfl, rfl, rfl⟩) <;> rcases g3 with ⟨e1, rfl⟩ | ⟨b', clock, e1, hb⟩
    · simp only [execOp, ho, e1, Instr.lookup, Sem.run_bind, run_underlying' hu, Result.andThen_ok, Sem.run_pure, check_key hk hko r2, f1]
    · simp only [execOp, ho, e1, Instr.lookup, Sem.run_bind, run_underlying' hu, Result.andThen_ok, Sem.run_pure, MapKept.run_getObj_map hb, check_key hk hko r2, f1]
    · simp only [execOp, ho, e1, Instr.lookup, Sem.run_bind, run_underlying' hu, Result.andThen_ok, Sem.run_pure, check_key hk hko r2, f1, hzz]
    · simp only [execOp, ho, e1, Instr.lookup, Sem.run_bind, run_underlying' hu, Result.andThen_ok, Sem.run_pure, MapKept.run_getObj_map hb, check_key hk hko r2, f1, hzz]
  cases q with
  | none =>
    simp only [Found] at f2
    subst f2
    have hr := run (v := z) (b := false) (.inr ⟨rfl, rfl, rfl⟩)
    refine yields_pure I hr ?_
    have hzr : Rep C zero z := isV_rep hzv
    cases ok
    · exact hzr
    · exact ⟨[z, .bool false], rfl, z, [.bool false], rfl, hzr, .bool false, [], rfl, rfl, rfl⟩
  | some p =>
    obtain ⟨n, v⟩ := p
    obtain ⟨j, e0, hn, rfl, hj, hkey, hv, _⟩ := f2
    have hr := run (v := e0.val) (b := true) (.inl ⟨⟨_, rfl⟩, rfl⟩)
    refine yields_pure I hr ?_
    cases ok
    · exact hv
    · exact ⟨[e0.val, .bool true], rfl, e0.val, [.bool true], rfl, hv, .bool true, [], rfl, rfl, rfl⟩

theorem sim_lenm (I : Inv tb C) (F : FrRel C f a nt) {o : Oper} {c : Call} {t kt e : TypeId} {x : AO} {y : Operand} (ho : o.op = .call c) (hc : c.callee = .builtin .len) (ht : c.argTypes[0]? = some t) (ha : c.args = #[y]) (hx : okAO x y = true) (hu : P.underlying t = some (.map kt e))
    {es : List (AV × AV)} (he : entries C.H (eval tb f x) = some es) : Yields tb C (.i .i64 (es.length : Nat), none) ((execOp a.eval o).run P C.w) := by
  have r := rep_eval I F hx
  obtain ⟨ms, g1, g2, g3⟩ := map_rep I r he
  have hl : ms.length = es.length := by have := g1.length; simpa using this
  refine yields_pure I (v := .int .i64 (es.length : Nat)) (run_builtin ho hc fun q => ?_) rfl
  rcases g3 with ⟨e1, rfl⟩ | ⟨b, clock, e1, hb⟩
  · simp only [ha, List.map_toArray, List.map_cons, List.map_nil, builtin, Sem.run_bind, Builtin.len_, ht, e1, List.getElem?_toArray, List.getElem?_cons_zero, run_underlying' hu, Result.andThen_ok, Sem.run_pure, ← hl, goInt]
    rfl
  · simp only [ha, List.map_toArray, List.map_cons, List.map_nil, builtin, Sem.run_bind, Builtin.len_, ht, e1, List.getElem?_toArray, List.getElem?_cons_zero, run_underlying' hu, Result.andThen_ok, MapKept.run_getObj_map hb, Sem.run_pure, ← hl, goInt]
    simp

theorem sim_mkm (I : Inv tb C) {o : Oper} {t : TypeId} (ho : o.op = .makeMap t none) : Yields tb C (.mp C.H.length, some (C.H ++ [AObj.map []])) ((execOp a.eval o).run P C.w) := by
  have hlt : C.w.heap.size < (C.w.alloc (.map #[] 0)).heap.size := by rw [alloc_size]; omega
  refine yields_new (w := C.w.alloc (.map #[] 0)) (v := .map (some C.w.heap.size)) I (p := ⟨C.w.heap.size, 0, 0⟩) ⟨rfl, rfl, rfl⟩ ?_ hlt rfl (fun b hb => alloc_old _ _ hb) ?_ ?_
  · simp only [execOp, ho, Instr.makeMap, Option.map_none, Sem.run_bind, Sem.run_pure, Result.andThen_ok, run_newObj]
    rfl
  · exact ⟨[], 0, alloc_new _ _, rfl, rfl⟩
  · intro hφ
    exact ⟨⟨AObj.map [], by simp [Ctx.more], rfl⟩, by rw [hφ]⟩

theorem modify_set {α : Type} (g : α → α) : ∀ (l : List α) (i : Nat) (x : α), l[i]? = some x → l.modify i g = l.set i (g x)
  | [], _, _, h => by simp at h
  | y :: l, 0, x, h => by simp at h; subst h; simp [List.modify]
  | y :: l, i + 1, x, h => by
    have := modify_set g l i x (by simpa using h)
    simp [this]

theorem RepL.erase : ∀ {l : List AV} {vs : List Value} {i : Nat}, RepL C l vs → RepL C (l.eraseIdx i) (vs.eraseIdx i)
  | [], _, _, h => by simp only [RepL] at h; subst h; rfl
  | _ :: _, _, 0, ⟨v, q, e, _, h⟩ => by subst e; exact h
  | _ :: _, _, i + 1, ⟨v, q, e, r, h⟩ => by subst e; exact ⟨v, _, rfl, r, RepL.erase h⟩

theorem map_eraseIdx' {α β : Type} (g : α → β) : ∀ (l : List α) (j : Nat), (l.eraseIdx j).map g = (l.map g).eraseIdx j
  | [], _ => rfl
  | _ :: _, 0 => rfl
  | x :: l, j + 1 => by simp [map_eraseIdx' g l j]

/-- a map has changed -/
theorem yields_map (I : Inv tb C) {id : Nat} {es es' : List (AV × AV)} (hg : C.H[id]? = some (.map es)) {ms : List MapEntry} {clock clock' : Nat} (hb : C.w.heap[(C.φ id).blk]? = some (.map ms.toArray clock)) {ms' : List MapEntry}
    (h1 : RepL C (es'.map (·.1)) (ms'.map (·.key))) (h2 : RepL C (es'.map (·.2)) (ms'.map (·.val))) {x : Result Next} {r : AV}
    (hx : (∃ v, x = .ok (.value v) { C.w with heap := C.w.heap.setIfInBounds (C.φ id).blk (.map ms'.toArray clock') } ∧ ∀ D, Rep D r v) ∨ (x = .ok .skip { C.w with heap := C.w.heap.setIfInBounds (C.φ id).blk (.map ms'.toArray clock') } ∧ ∀ D, Rep D r undef)) :
    Yields tb C (r, some (C.H.set id (AObj.map es'))) x := by
  have hlt : (C.φ id).blk < C.w.heap.size := by
    by_cases h : (C.φ id).blk < C.w.heap.size
    · exact h
    · rw [Array.getElem?_eq_none (by omega)] at hb; cases hb
  obtain ⟨X, hI⟩ := upd (D := ⟨C.φ, C.H.set id (AObj.map es'), { C.w with heap := C.w.heap.setIfInBounds (C.φ id).blk (.map ms'.toArray clock') }⟩) I ⟨rfl, rfl, rfl⟩ hg rfl (fun _ _ => rfl) (by simp)
    (fun b hb hne => Array.getElem?_setIfInBounds_ne (Ne.symm hne)) (.inl rfl) (fun _ => ⟨rfl, rfl⟩) (fun _ _ _ _ e => by cases e)
  refine ⟨_, X, hI ⟨ms', clock', ?_, RepL.ext X h1, RepL.ext X h2⟩, rfl, ?_⟩
  · exact Array.getElem?_setIfInBounds_self_of_lt hlt
  · rcases hx with ⟨v, e, h⟩ | ⟨e, h⟩
    · exact .inl ⟨v, e, h _⟩
    · exact .inr ⟨e, h _⟩

theorem map_at (I : Inv tb C) {id : Nat} {es : List (AV × AV)} (h : mapAt C.H id = some es) : C.H[id]? = some (.map es) ∧ ∃ (ms : List MapEntry) (clock : Nat), C.w.heap[(C.φ id).blk]? = some (.map ms.toArray clock) ∧ RepL C (es.map (·.1)) (ms.map (·.key)) ∧ RepL C (es.map (·.2)) (ms.map (·.val)) := by
  have hg : C.H[id]? = some (.map es) := by
    unfold mapAt at h
    split at h
    · rename_i es' hg; rw [hg]; rw [Option.some.inj h]
    · cases h
  exact ⟨hg, I.obj id _ hg⟩

theorem sim_mup (I : Inv tb C) (F : FrRel C f a nt) {o : Oper} {t kt e : TypeId} {ek : EK} {m k v : AO} {y1 y2 y3 : Operand} (ho : o.op = .mapUpdate t y1 y2 y3 ∨ o.op = .insert t y1 y2 y3) (hu : P.underlying t = some (.map kt e)) (hk : okKey P ek kt = true) (h1 : okAO m y1 = true) (h2 : okAO k y2 = true) (h3 : okAO v y3 = true)
    {id : Nat} (hm : eval tb f m = .mp id) {es : List (AV × AV)} (he : mapAt C.H id = some es) (hko : keyOk ek (eval tb f k) = true) {q : Option (Nat × AV)} (hq : find ek (eval tb f k) es 0 = some q) :
    Yields tb C ((match (generalizing := false) q with
        | some (i, _) => (.junk, some (C.H.set id (AObj.map (es.set i (eval tb f k, eval tb f v)))))
        | none => (.junk, some (C.H.set id (AObj.map (es ++ [(eval tb f k, eval tb f v)]))))) : AV × Option Heap) ((execOp a.eval o).run P C.w) := by
  have r1 := rep_eval I F h1
  have r2 := rep_eval I F h2
  have r3 := rep_eval I F h3
  rw [hm] at r1
  have e1 : a.eval y1 = .map (some (C.φ id).blk) := r1.2
  obtain ⟨hg, ms, clock, hb, g1, g2⟩ := map_at I he
  obtain ⟨r', f1, f2⟩ := find_key hk r2 g1 g2 hq
  have ho' : execOp a.eval o = (Instr.mapUpdate t (a.eval y1) (a.eval y2) (a.eval y3) >>= fun _ => pure .skip) := by
    rcases ho with ho | ho <;> simp only [execOp, ho]
  cases q with
  | none =>
    simp only [Found] at f2
    subst f2
    refine yields_map (ms' := ms ++ [{ key := a.eval y2, val := a.eval y3, born := clock }]) (clock' := clock + 1) I hg hb ?_ ?_ (.inr ⟨?_, fun D => trivial⟩)
    · simp only [List.map_append, List.map_cons, List.map_nil]
      exact RepL.app g1 ⟨_, [], rfl, r2, rfl⟩
    · simp only [List.map_append, List.map_cons, List.map_nil]
      exact RepL.app g2 ⟨_, [], rfl, r3, rfl⟩
    · rw [ho']
      simp only [e1, Instr.mapUpdate, Sem.run_bind, run_underlying' hu, Result.andThen_ok, MapKept.run_getObj_map hb, check_key hk hko r2, f1, MapKept.run_setObj_map _ hb, Sem.run_pure]
      simp
  | some p =>
    obtain ⟨n, v0⟩ := p
    obtain ⟨j, e0, hn, rfl, hj, hkey, hv, hst⟩ := f2
    obtain rfl : n = j := by omega
    have hmod := modify_set (fun x : MapEntry => { x with key := a.eval y2, val := a.eval y3 }) ms n e0 hj
    refine yields_map (ms' := ms.set n { e0 with key := a.eval y2, val := a.eval y3 }) (clock' := clock) I hg hb ?_ ?_ (.inr ⟨?_, fun D => trivial⟩)
    · simp only [List.map_set]
      exact RepL.set r2 g1
    · simp only [List.map_set]
      exact RepL.set r3 g2
    · rw [ho']
      have hj' : ms.toArray[n]? = some e0 := by simpa using hj
      simp only [e1, Instr.mapUpdate, Sem.run_bind, run_underlying' hu, Result.andThen_ok, MapKept.run_getObj_map hb, check_key hk hko r2, f1, hj', Option.map_some, Option.getD_some, hkey, hst, MapKept.run_setObj_map _ hb, Sem.run_pure]
      congr 4
      rw [← hmod]
      simp

theorem sim_del (I : Inv tb C) (F : FrRel C f a nt) {o : Oper} {c : Call} {t kt e : TypeId} {ts : List TypeId} {ek : EK} {m k : AO} {y1 y2 : Operand} (ho : o.op = .call c) (hc : c.callee = .builtin .delete) (ha : c.args = #[y1, y2]) (ht : c.argTypes = (t :: ts).toArray)
    (hu : P.underlying t = some (.map kt e)) (hk : okKey P ek kt = true) (h1 : okAO m y1 = true) (h2 : okAO k y2 = true) (hko : keyOk ek (eval tb f k) = true) {r : AV × Option Heap}
    (h : (match eval tb f m with
      | .nilm => some (.tup [], none)
      | .mp id => (mapAt C.H id).bind fun es => (find ek (eval tb f k) es 0).map fun r => match r with
        | some (i, _) => (.tup [], some (C.H.set id (AObj.map (es.eraseIdx i))))
        | none => (.tup [], none)
      | _ => none) = some r) : Yields tb C r ((execOp a.eval o).run P C.w) := by
  have r1 := rep_eval I F h1
  have r2 := rep_eval I F h2
  have run : ∀ {w'}, (Builtin.delete_ (t :: ts).toArray o.type #[a.eval y1, a.eval y2]).run P C.w = .ok (.tuple #[]) w' → (execOp a.eval o).run P C.w = .ok (.value (.tuple #[])) w' := by
    intro w' hv
    refine run_builtin ho hc fun q => ?_
    simp only [ha, ht, List.map_toArray, List.map_cons, List.map_nil, builtin, Sem.run_bind, hv, Result.andThen_ok, Sem.run_pure]
  generalize eval tb f m = v at *
  cases v <;> simp only [reduceCtorEq] at h
  case nilm =>
    obtain rfl := Option.some.inj h
    have e1 : a.eval y1 = .map none := r1
    refine yields_pure I (v := .tuple #[]) (run ?_) ⟨[], rfl, rfl⟩
    simp only [Builtin.delete_, List.getElem?_toArray, List.getElem?_cons_zero, List.getElem?_cons_succ, e1, Sem.run_bind, run_underlying' hu, Result.andThen_ok, check_key hk hko r2, Sem.run_pure]
  case mp id =>
    have e1 : a.eval y1 = .map (some (C.φ id).blk) := r1.2
    obtain ⟨es, he, h⟩ := Option.bind_eq_some_iff.1 h
    obtain ⟨q, hq, rfl⟩ := Option.map_eq_some_iff.1 h
    obtain ⟨hg, ms, clock, hb, g1, g2⟩ := map_at I he
    obtain ⟨r', f1, f2⟩ := find_key hk r2 g1 g2 hq
    cases q with
    | none =>
      simp only [Found] at f2
      subst f2
      refine yields_pure I (v := .tuple #[]) (run ?_) ⟨[], rfl, rfl⟩
      simp only [Builtin.delete_, List.getElem?_toArray, List.getElem?_cons_zero, List.getElem?_cons_succ, e1, Sem.run_bind, run_underlying' hu, Result.andThen_ok, MapKept.run_getObj_map hb, check_key hk hko r2, f1, MapKept.run_setObj_map _ hb, Sem.run_pure]
      have : C.w.heap.setIfInBounds (C.φ id).blk (.map ms.toArray clock) = C.w.heap := by
        apply Array.ext_getElem?
        intro i
        by_cases hi : (C.φ id).blk = i
        · subst hi
          have hlt : (C.φ id).blk < C.w.heap.size := by
            by_cases h : (C.φ id).blk < C.w.heap.size
            · exact h
            · rw [Array.getElem?_eq_none (by omega)] at hb; cases hb
          rw [Array.getElem?_setIfInBounds_self_of_lt hlt, hb]
        · rw [Array.getElem?_setIfInBounds_ne hi]
      rw [this]
    | some p =>
      obtain ⟨n, v0⟩ := p
      obtain ⟨j, e0, hn, rfl, hj, hkey, hv, hst⟩ := f2
      obtain rfl : n = j := by omega
      have hnl : n < ms.length := (List.getElem?_eq_some_iff.1 hj).1
      refine yields_map (ms' := ms.eraseIdx n) (clock' := clock) I hg hb ?_ ?_ (.inl ⟨.tuple #[], run ?_, fun D => ⟨[], rfl, rfl⟩⟩)
      · rw [map_eraseIdx', map_eraseIdx']
        exact RepL.erase g1
      · rw [map_eraseIdx', map_eraseIdx']
        exact RepL.erase g2
      · simp only [Builtin.delete_, List.getElem?_toArray, List.getElem?_cons_zero, List.getElem?_cons_succ, e1, Sem.run_bind, run_underlying' hu, Result.andThen_ok, MapKept.run_getObj_map hb, check_key hk hko r2, f1, MapKept.run_setObj_map _ hb, Sem.run_pure]
        congr 3
        simp [Array.eraseIdxIfInBounds, hnl]

theorem rep_zeros {l : List AV} {vs : List Value} (r : RepL C l vs) : ∀ n, RepLL C (List.replicate n l) (List.replicate n vs)
  | 0 => rfl
  | n + 1 => ⟨_, _, by rw [List.replicate_succ], r, rep_zeros r n⟩

theorem sim_clr (I : Inv tb C) (F : FrRel C f a nt) {o : Oper} {c : Call} {t : TypeId} {ts : List TypeId} {zero : List AV} {x : AO} {y : Operand} (ho : o.op = .call c) (hc : c.callee = .builtin .clear) (ha : c.args = #[y]) (ht : c.argTypes = (t :: ts).toArray)
    (hu : (∃ k e, P.underlying t = some (.map k e) ∧ zero = []) ∨ ∃ e i z, P.underlying t = some (.slice e) ∧ P.info? e = some i ∧ i.zero = some z ∧ isSs zero z.cells.toList = true) (hx : okAO x y = true) {r : AV × Option Heap}
    (h : (match eval tb f x with
      | .nils => some (.tup [], none)
      | .orow id n lo len => (rowAt C.H id).bind fun r =>
        if r.1 = false ∧ n = r.2.2.length ∧ lo + len ≤ n ∧ zero.length = r.2.1 then
          some (.tup [], some (C.H.set id (AObj.row (labAt C.H id) false r.2.1 (r.2.2.take lo ++ List.replicate len zero ++ r.2.2.drop (lo + len)))))
        else none
      | .mp id => (mapAt C.H id).map fun _ => (.tup [], some (C.H.set id (AObj.map [])))
      | _ => none) = some r) : Yields tb C r ((execOp a.eval o).run P C.w) := by
  have r1 := rep_eval I F hx
  have hd : ∃ d, P.underlying t = some d := by
    rcases hu with ⟨k, e, hu, _⟩ | ⟨e, i, z, hu, _⟩ <;> exact ⟨_, hu⟩
  obtain ⟨d, hd⟩ := hd
  have run : ∀ {w'}, (Builtin.clear_ (t :: ts).toArray o.type #[a.eval y]).run P C.w = .ok (.tuple #[]) w' → (execOp a.eval o).run P C.w = .ok (.value (.tuple #[])) w' := by
    intro w' hv
    refine run_builtin ho hc fun q => ?_
    simp only [ha, ht, List.map_toArray, List.map_cons, List.map_nil, builtin, Sem.run_bind, hv, Result.andThen_ok, Sem.run_pure]
  generalize eval tb f x = v at *
  cases v <;> simp only [reduceCtorEq] at h
  case nils =>
    obtain rfl := Option.some.inj h
    have e1 : a.eval y = .slice none 0 0 := r1
    refine yields_pure I (v := .tuple #[]) (run ?_) ⟨[], rfl, rfl⟩
    simp only [Builtin.clear_, List.getElem?_toArray, List.getElem?_cons_zero, e1, Sem.run_bind, run_underlying' hd, Result.andThen_ok, Sem.run_pure]
  case mp id =>
    have e1 : a.eval y = .map (some (C.φ id).blk) := r1.2
    obtain ⟨es, he, rfl⟩ := Option.map_eq_some_iff.1 h
    obtain ⟨hg, ms, clock, hb, g1, g2⟩ := map_at I he
    refine yields_map (es' := []) (ms' := []) (clock' := clock) I hg hb rfl rfl (.inl ⟨.tuple #[], run ?_, fun D => ⟨[], rfl, rfl⟩⟩)
    simp only [Builtin.clear_, List.getElem?_toArray, List.getElem?_cons_zero, e1, Sem.run_bind, run_underlying' hd, Result.andThen_ok, MapKept.run_getObj_map hb, MapKept.run_setObj_map _ hb, Sem.run_pure]
  case orow id n lo len =>
    obtain ⟨_, fz, sz, els, hg, hle, k⟩ := r1
    simp only [hg, Option.bind_some] at h
    split at h
    · rename_i hcond
      obtain ⟨hfz, hn', hlo, hzl⟩ := hcond
      obtain rfl := Option.some.inj h
      obtain ⟨_, off, cap, e1, hlc, hoff, hsize, hbo⟩ := k hn'
      obtain ⟨tl, hg', hlab⟩ := row_get hg
      obtain ⟨ws, arr, et, fr, ⟨g1, hfr0, hlb⟩, g2, g3, g4, g5, g6, g7, g8, g9⟩ := I.obj id _ hg'
      subst hzl
      rcases hu with ⟨k', e', hu, rfl⟩ | ⟨e, i, z, hu, hi, hz, hzs⟩
      · simp at g3
      · obtain ⟨z1, z2⟩ := isSs_rep (C := C) hzs
        have hzz : z.cells.toList.length = zero.length := z1.length
        have hsl : ∀ x ∈ List.replicate len zero, x.length = zero.length ∧ x.all scal = true := fun x hx => by
          rw [List.eq_of_mem_replicate hx]; exact ⟨rfl, z2⟩
        have hrr := rep_zeros z1 len
        have q1 := RepLL.flat hrr
        have q2 : (List.replicate len zero).flatten.all scal = true := flat_scal fun x hx => (hsl x hx).2
        have q4 : (List.replicate len z.cells.toList).flatten.length = len * zero.length := by simp [List.length_flatten, hzz]
        have hwl := RepLL.lens (fun x hx => (g4 x hx).1) g5
        have hwfl : ws.flatten.length = els.length * zero.length := by rw [flat_length _ hwl, g5.length]
        have hb1 : lo * zero.length + len * zero.length ≤ els.length * zero.length := by
          rw [← Nat.add_mul]; exact Nat.mul_le_mul_right _ (by omega)
        have hst : (storeCells ⟨(C.φ id).blk, off, none⟩ (List.replicate len z.cells.toList).flatten).run P C.w = .ok () (C.w.setCells (C.φ id).blk ((C.φ id).base + lo * zero.length) (List.replicate len z.cells.toList).flatten) := by
          by_cases h0 : 0 < len
          · rw [hoff h0]
            exact run_put g1 (by rw [q4, g2]; omega) (fun j hj => g8 hfz _ (by rw [q4] at hj; omega)) (ones_rep q2 q1)
          · have : len = 0 := by omega
            subst this
            simp [storeCells, World.setCells]
        obtain ⟨arr', k1, k2⟩ := heap_setCells (List.replicate len z.cells.toList).flatten ((C.φ id).base + lo * zero.length) g1
        obtain ⟨X, hI⟩ := upd (D := ⟨C.φ, C.H.set id (AObj.row (labAt C.H id) false zero.length (els.take lo ++ List.replicate len zero ++ els.drop (lo + len))), C.w.setCells (C.φ id).blk ((C.φ id).base + lo * zero.length) (List.replicate len z.cells.toList).flatten⟩) I (rest_setCells _ _) hg' rfl (fun _ _ => rfl) (by simp only [size_setCells]; omega)
          (fun b hb hne => heap_setCells_other hne _ _) (.inl rfl) (fun e => by cases e) (fun _ fz' sz' els' e => by cases e; exact ⟨_, _, _, rfl, by simp only [List.length_append, List.length_take, List.length_drop, List.length_replicate]; omega, fun _ => rfl⟩)
        have hnl : (els.take lo ++ List.replicate len zero ++ els.drop (lo + len)).length = els.length := by simp only [List.length_append, List.length_take, List.length_drop, List.length_replicate]; omega
        refine ⟨_, X, hI ?_, rfl, .inl ⟨.tuple #[], run ?_, ⟨[], rfl, rfl⟩⟩⟩
        · refine ⟨ws.take lo ++ List.replicate len z.cells.toList ++ ws.drop (lo + len), arr', et, fr, ⟨k1, hfr0, by rw [hlab]; exact hlb⟩, by rw [k2]; exact g2, g3, ?_, ?_, by rw [hnl]; exact g6, ?_, ?_, ?_⟩
          · intro y hy
            simp only [List.mem_append] at hy
            rcases hy with (hy | hy) | hy
            · exact g4 y (List.mem_of_mem_take hy)
            · exact hsl y hy
            · exact g4 y (List.mem_of_mem_drop hy)
          · exact RepLL.app (RepLL.app (RepLL.take (g5.ext X)) (hrr.ext X)) (RepLL.drop (g5.ext X))
          · have hfl : (ws.take lo ++ List.replicate len z.cells.toList ++ ws.drop (lo + len)).flatten = ws.flatten.take (lo * zero.length) ++ (List.replicate len z.cells.toList).flatten ++ ws.flatten.drop (lo * zero.length + (List.replicate len z.cells.toList).flatten.length) := by
              rw [List.flatten_append, List.flatten_append, flatten_take _ _ hwl, flatten_drop _ _ hwl, q4, ← Nat.add_mul]
            rw [hfl]
            exact Holds.put (base := (C.φ id).base) (o := lo * zero.length) g1 g7 (vs := (List.replicate len z.cells.toList).flatten) (by omega) (by omega)
          · intro _ j hj
            rw [frozen_put]
            exact g8 hfz j hj
          · intro _ j hj hj'
            rw [frozen_put]
            exact g9 hfz j (by rwa [hnl] at hj) hj'
        · have hzc : (Builtin.zeroCells z.cells len).toList = (List.replicate len z.cells.toList).flatten := zeros_list z.cells len
          have hzv : ∀ w, (zeroValue e).run P w = .ok z w := fun w => by simp only [zeroValue, Sem.run_bind, run_typeInfo' hi, Result.andThen_ok, hz, Sem.run_pure]
          by_cases h0 : len = 0
          · subst h0
            simp only [Builtin.clear_, List.getElem?_toArray, List.getElem?_cons_zero, e1, Sem.run_bind, run_underlying' hu, Result.andThen_ok, Sem.run_pure]
            simp [World.setCells]
          · have hm : (Builtin.clear_ (t :: ts).toArray o.type #[a.eval y]).run P C.w = ((storeCells ⟨(C.φ id).blk, off, none⟩ (Builtin.zeroCells z.cells len).toList).run P C.w).andThen fun _ w => .ok (.tuple #[]) w := by
              obtain ⟨l, rfl⟩ : ∃ l, len = l + 1 := ⟨len - 1, by omega⟩
              simp only [Builtin.clear_, List.getElem?_toArray, List.getElem?_cons_zero, e1, Sem.run_bind, run_underlying' hu, Result.andThen_ok, Sem.run_pure, hzv]
            rw [hm, hzc, hst]
            rfl
    · simp at h

end
end Go.Proofs.YtobejhpigbllpaaGreatDoor.Am
