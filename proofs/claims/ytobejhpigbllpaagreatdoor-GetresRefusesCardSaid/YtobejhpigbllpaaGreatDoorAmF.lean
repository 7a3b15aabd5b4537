/-
  Each of the machine's operations does what the model's does: rows that are made, grown, copied; maps; strings and bytes.
-/
import Derived.Test.YtobejhpigbllpaaGreatDoorAmE
import Derived.Laws.AppendOwn
import Derived.Laws.Tables
namespace Go.Proofs.YtobejhpigbllpaaGreatDoor.Am
section
variable {cl : Nat → List AV → Heap → Out} {P : Program} {tb : Tab} {C : Ctx} {f : Fr} {a : Act} {nt : Nat}

theorem flat_length {α : Type} {sz : Nat} : ∀ (l : List (List α)), (∀ x ∈ l, x.length = sz) → l.flatten.length = l.length * sz
  | [], _ => by simp
  | y :: l, h => by
    rw [List.flatten_cons, List.length_append, flat_length l fun z hz => h z (List.mem_cons_of_mem _ hz), h y List.mem_cons_self, List.length_cons, Nat.succ_mul]; omega

theorem flat_scal : ∀ {l : List (List AV)}, (∀ x ∈ l, x.all scal = true) → l.flatten.all scal = true
  | [], _ => rfl
  | y :: l, h => by
    rw [List.flatten_cons, List.all_append, h y List.mem_cons_self, flat_scal fun z hz => h z (List.mem_cons_of_mem _ hz)]
    rfl

theorem bytes_rep (l : List UInt8) : RepLL C (byteEls l) (l.map fun c => [Value.int .u8 c.toNat]) ∧ (∀ x ∈ byteEls l, x.length = 1 ∧ x.all scal = true) := by
  induction l with
  | nil => exact ⟨rfl, fun x hx => by cases hx⟩
  | cons c l ih =>
    refine ⟨⟨_, _, rfl, ⟨_, _, rfl, rfl, rfl⟩, ih.1⟩, fun x hx => ?_⟩
    rcases List.mem_cons.1 hx with e | hx
    · subst e; exact ⟨rfl, rfl⟩
    · exact ih.2 x hx

/-- what is appended, or copied: its values -/
theorem news_rep (I : Inv tb C) {x : AV} {v : Value} {sz : Nat} {els : List (List AV)} (hsz : 0 < sz) (r : Rep C x v) (h : news C.H sz x = some els) :
    (Builtin.lenOf v).run P C.w = .ok els.length C.w ∧ ∃ vss, RepLL C els vss ∧ (∀ e ∈ els, e.length = sz ∧ e.all scal = true) ∧
      ∀ (m : Nat) (w : World), m ≤ els.length → w.heap = C.w.heap → (Builtin.firstCells sz m v).run P w = .ok (vss.take m).flatten.toArray w := by
  have slc : els? C.H sz x = some els → (Builtin.lenOf v).run P C.w = .ok els.length C.w ∧ ∃ vss, RepLL C els vss ∧ (∀ e ∈ els, e.length = sz ∧ e.all scal = true) ∧
      ∀ (m : Nat) (w : World), m ≤ els.length → w.heap = C.w.heap → (Builtin.firstCells sz m v).run P w = .ok (vss.take m).flatten.toArray w := by
    intro h
    rcases els_rep I hsz r h with ⟨rfl, e⟩ | ⟨q, cap, vss, e, hlc, hh, hs, hr⟩
    · subst e
      refine ⟨rfl, [], rfl, fun e he => (by cases he), fun m w _ _ => ?_⟩
      simp [Builtin.firstCells]
    · subst e
      refine ⟨rfl, vss, hr, hs, fun m w hm hw => ?_⟩
      have hlens := RepLL.lens (fun x hx => (hs x hx).1) hr
      have hlen : (vss.take m).flatten.length = m * sz := by
        rw [flat_length _ fun x hx => hlens x (List.mem_of_mem_take hx), List.length_take, hr.length]; congr 1; omega
      by_cases hne : els = []
      · subst hne
        have hv : vss = [] := List.eq_nil_of_length_eq_zero (by rw [hr.length]; rfl)
        subst hv
        have hm0 : m = 0 := by simpa using hm
        subst hm0
        simp only [Builtin.firstCells, Nat.zero_mul, List.take_nil, List.flatten_nil]
        rfl
      obtain ⟨b, base, rfl, hh2⟩ := hh hne
      have hh' : Holds w b base (vss.take m).flatten := by
        intro j u hj
        rw [flatten_take _ _ hlens, List.getElem?_take] at hj
        split at hj
        · have := hh2 j u hj
          rwa [cell?_same (w := C.w) (w' := w) (by rw [hw])]
        · cases hj
      have := run_loadCells' (P := P) hh'
      rw [hlen] at this
      simpa [Builtin.firstCells] using this
  cases x <;> simp only [news] at h <;> try exact slc h
  case s l =>
    split at h
    · rename_i e
      subst e
      obtain rfl := Option.some.inj h
      have ev : v = .string ⟨l.toArray⟩ := r
      subst ev
      obtain ⟨h1, h2⟩ := bytes_rep (C := C) l
      refine ⟨by simp [Builtin.lenOf, size_mk, byteEls], _, h1, h2, fun m w hm hw => ?_⟩
      simp only [Builtin.firstCells, Sem.run_pure]
      congr 1
      rw [extract_mk]
      have : ∀ (l : List UInt8) (m : Nat), List.take m (List.map (fun b : UInt8 => Value.int .u8 b.toNat) l) = (List.take m (List.map (fun c : UInt8 => [Value.int .u8 c.toNat]) l)).flatten := by
        intro l
        induction l with
        | nil => intro m; simp
        | cons c l ih =>
          intro m
          cases m with
          | zero => simp
          | succ m => simp [ih]
      simp [List.map_take, this]
    · simp at h

theorem run_choose_cap {need old : Nat} {e : TypeId} {w : World} (_h : True) : ∃ K, need ≤ K ∧ (choose (.appendCap need old e)).run P w = .ok K { w with drawn := w.drawn + 1 } := by
  refine ⟨grownCap w need old e, grownCap_ge w need old e, ?_⟩
  simp [Question.forced, grownCap]


/-- append, with room -/
theorem run_app_room {t u ty e : TypeId} (ht : P.underlying t = some (.slice e)) (hu : ∃ d, P.underlying u = some d ∧ ∀ k, d ≠ .int k) (hz : (P.info? e).isSome = true) {p : Option Addr} {n cap m : Nat} {x : Value} {w : World} {us : List Value}
    (hl : (Builtin.lenOf x).run P w = .ok m w) (hc : (Builtin.firstCells (P.cellsOf e) m x).run P w = .ok us.toArray w) (hroom : n + m ≤ cap) :
    (Builtin.append_ #[t, u] ty #[.slice p n cap, x]).run P w = (match p with
      | some q => (storeCells (q.add (n * P.cellsOf e)) us).run P w
      | none => .ok () w).andThen fun _ w' => .ok (.slice p (n + m) cap) w' := by
  obtain ⟨d, hu, hk⟩ := hu
  have hd : (match d with | .int _ => true | _ => false) = false := by cases d <;> first | rfl | exact absurd rfl (hk _)
  simp only [Builtin.append_, List.getElem?_toArray, List.getElem?_cons_zero, List.getElem?_cons_succ, Sem.run_bind, run_underlying' ht, run_underlying' hu, Result.andThen_ok, run_sizeOf' hz, Sem.run_pure]
  cases p with
  | none => cases d <;> first | exact absurd rfl (hk _) | simp [hl, hc, hroom]
  | some q => cases d <;> first | exact absurd rfl (hk _) | simp [hl, hc, hroom]

/-- append, without room -/
theorem run_app_grow {t u ty e : TypeId} (ht : P.underlying t = some (.slice e)) (hu : ∃ d, P.underlying u = some d ∧ ∀ k, d ≠ .int k) {i : TypeInfo} (hi : P.info? e = some i) {z : Value} (hzz : i.zero = some z) {p : Option Addr} {n cap m : Nat} {x : Value} {w : World}
    {us olds : List Value} (hl : (Builtin.lenOf x).run P w = .ok m w) (hc : ∀ w', w'.heap = w.heap → (Builtin.firstCells (P.cellsOf e) m x).run P w' = .ok us.toArray w')
    (ho : ∀ w', w'.heap = w.heap → (Builtin.firstCells (P.cellsOf e) n (.slice p n cap)).run P w' = .ok olds.toArray w') (hroom : cap < n + m) (hb : (n + m) * i.bytes ≤ 140737488355328) (hbz : 0 < i.bytes) :
    ∃ K, n + m ≤ K ∧ (Builtin.append_ #[t, u] ty #[.slice p n cap, x]).run P w =
      .ok (.slice (some ⟨w.heap.size, 0, none⟩) (n + m) K) ({ w with drawn := w.drawn + 1 }.alloc (.cells (olds.toArray ++ us.toArray ++ Builtin.zeroCells z.cells (K - (n + m))) e)) := by
  obtain ⟨d, hu, hk⟩ := hu
  have hz : (P.info? e).isSome = true := by rw [hi]; rfl
  have hcells : P.cellsOf e = i.size := by simp [Program.cellsOf, hi]
  have hch : (choose (.appendCap (n + m) cap e)).run P w = .ok (grownCap w (n + m) cap e) { w with drawn := w.drawn + 1 } := by
    simp [Question.forced, grownCap]
  have hnr : ¬ (n + m ≤ cap) := by omega
  have hfit := growslice_fits (bytes := i.bytes) hroom hb
  have hfit' : ¬ (Builtin.nextslicecap (n + m) cap * i.bytes > 2 ^ 48) := by omega
  refine ⟨grownCap w (n + m) cap e, grownCap_ge w (n + m) cap e, ?_⟩
  have h1 := hc { w with drawn := w.drawn + 1 } rfl
  have h2 := ho { w with drawn := w.drawn + 1 } rfl
  have hbz' : i.bytes ≠ 0 := by omega
  simp only [Builtin.append_, List.getElem?_toArray, List.getElem?_cons_zero, List.getElem?_cons_succ, Sem.run_bind, run_underlying' ht, run_underlying' hu, Result.andThen_ok, run_sizeOf' hz, Sem.run_pure]
  cases d <;> first
    | exact absurd rfl (hk _)
    | (simp only [Bool.false_eq_true, if_false, hl, Result.andThen_ok, Sem.run_bind, Sem.run_pure, if_neg hnr, Sem.run_ite, run_typeInfo' hi, hbz', or_self, and_false, hfit', hch, run_askRoom, h1, h2, zeroValue, hzz, newRow, run_newObj, gt_iff_lt]
       rfl)


theorem RepLL.ext' {D : Ctx} (X : Ext C D) {l : List (List AV)} {vs : List (List Value)} (r : RepLL C l vs) : RepLL D l vs := RepLL.ext X r

/-- a row that is made -/
theorem row_new {fz : Bool} {sz : Nat} {els : List (List AV)} {vss : List (List Value)} {arr : Array Value} {e : TypeId} {w : World} (hw : w.heap = C.w.heap) (hsz : 0 < sz) (hs : ∀ x ∈ els, x.length = sz ∧ x.all scal = true) (hr : RepLL C els vss)
    (harr : ∀ (j : Nat) (v : Value), vss.flatten[j]? = some v → arr[j]? = some v) (hle : els.length * sz ≤ arr.size) : let p : Place := ⟨C.w.heap.size, 0, arr.size⟩
    let w' := w.alloc (.cells arr e)
    C.w.heap.size < w'.heap.size ∧ (∀ b, b < C.w.heap.size → w'.heap[b]? = C.w.heap[b]?) ∧ ∀ D : Ctx, Ext C D → D.w = w' → Obj D p (AObj.row (some e) fz sz els) := by
  have hsize : w.heap.size = C.w.heap.size := by rw [hw]
  have hn : (w.alloc (.cells arr e)).heap[C.w.heap.size]? = some (.cells arr e) := by rw [← hsize]; exact alloc_new _ _
  refine ⟨by rw [alloc_size, hsize]; omega, fun b hb => by rw [alloc_old _ _ (by omega), hw], ?_⟩
  intro D X hD
  refine ⟨vss, arr, e, (0, 0), ⟨by rw [hD]; exact hn, Nat.le_refl _, fun k hk => by cases hk; rfl⟩, rfl, hsz, hs, RepLL.ext X hr, by simpa using hle, ?_, ?_, ?_⟩
  · intro j v hj
    rw [hD]
    simp only [World.cell?, hn, Nat.zero_add]
    simpa using harr j v hj
  · intro _ o _
    rw [hD]
    simp only [World.frozen?, hn]
    simp
  · intro _ o _ _
    rw [hD]
    simp only [World.frozen?, hn]
    simp

/-- a row that is made, as what an operation yields -/
theorem yields_row (I : Inv tb C) {fz : Bool} {sz : Nat} {els : List (List AV)} {vss : List (List Value)} {arr : Array Value} {e : TypeId} {w : World} (hrest : Rest C.w w) (hw : w.heap = C.w.heap) (hsz : 0 < sz) (hs : ∀ x ∈ els, x.length = sz ∧ x.all scal = true) (hr : RepLL C els vss)
    (harr : ∀ (j : Nat) (v : Value), vss.flatten[j]? = some v → arr[j]? = some v) {K : Nat} (hK : els.length ≤ K) (hle : K * sz ≤ arr.size) {x : Result Next}
    (h : x = .ok (.value (.slice (some ⟨C.w.heap.size, 0, none⟩) els.length K)) (w.alloc (.cells arr e))) :
    Yields tb C (.orow C.H.length els.length 0 els.length, some (C.H ++ [AObj.row (some e) fz sz els])) x := by
  have hle' : els.length * sz ≤ arr.size := Nat.le_trans (Nat.mul_le_mul_right _ hK) hle
  obtain ⟨h1, h2, h3⟩ := row_new (fz := fz) (e := e) hw hsz hs hr harr hle'
  refine yields_new (w := w.alloc (.cells arr e)) I (p := ⟨C.w.heap.size, 0, arr.size⟩) hrest h h1 rfl h2 (h3 _ (more (w := w.alloc (.cells arr e)) I hrest h1 rfl h2).1 rfl) ?_
  intro hφ
  refine ⟨⟨_, _, rfl⟩, fz, sz, els, by simp [Ctx.more, rowAt], Nat.le_refl _, fun _ => ⟨by omega, 0, K, by rw [hφ], hK, fun _ => by rw [hφ]; simp, by rw [hφ]; simpa using hle, by rw [hφ]; exact Nat.zero_le _⟩⟩

theorem flatten_append_get {vss : List (List Value)} {us : List Value} {rest : Array Value} (j : Nat) (v : Value) (h : vss.flatten[j]? = some v) (e : us = vss.flatten) : (#[] ++ us.toArray ++ rest)[j]? = some v := by
  subst e
  have := lt_of_get h
  rw [Array.getElem?_append_left (by simpa using this)]
  simpa using h

theorem sim_app (I : Inv tb C) (F : FrRel C f a nt) {o : Oper} {c : Call} {t u e : TypeId} {s x : AO} {y1 y2 : Operand} (ho : o.op = .call c) (hc : c.callee = .builtin .append) (hargs : c.args = #[y1, y2]) (htys : c.argTypes = #[t, u])
    (ht : P.underlying t = some (.slice e)) (hu : ∃ d, P.underlying u = some d ∧ ∀ k, d ≠ .int k) {i : TypeInfo} (hi : P.info? e = some i) {z : Value} (hzz : i.zero = some z) (hzs : z.cells.size = P.cellsOf e) (hz0 : 0 < P.cellsOf e) (hbz : 0 < i.bytes)
    (h1 : okAO s y1 = true) (h2 : okAO x y2 = true) {new : List (List AV)} (hn : news C.H (P.cellsOf e) (eval tb f x) = some new) {r : AV × Option Heap} (h : appd C.H e (P.cellsOf e) i.bytes (eval tb f s) new = some r) :
    Yields tb C r ((execOp a.eval o).run P C.w) := by
  have hz : (P.info? e).isSome = true := by rw [hi]; rfl
  have r1 := rep_eval I F h1
  obtain ⟨hl, vss, hrr, hs, hfc⟩ := news_rep (P := P) I hz0 (rep_eval I F h2) hn
  have hlens := RepLL.lens (fun x hx => (hs x hx).1) hrr
  have hfc' : ∀ w', w'.heap = C.w.heap → (Builtin.firstCells (P.cellsOf e) new.length (a.eval y2)).run P w' = .ok vss.flatten.toArray w' := by
    intro w' hw
    have := hfc new.length w' (Nat.le_refl _) hw
    rwa [List.take_of_length_le (by rw [hrr.length]; omega)] at this
  have hul : vss.flatten.length = new.length * P.cellsOf e := by rw [flat_length _ hlens, hrr.length]
  have run : ∀ {v w'}, (Builtin.append_ #[t, u] o.type #[a.eval y1, a.eval y2]).run P C.w = .ok v w' → (execOp a.eval o).run P C.w = .ok (.value v) w' := by
    intro v w' hv
    refine run_builtin ho hc fun q => ?_
    simp only [hargs, htys, List.map_toArray, List.map_cons, List.map_nil, builtin, Sem.run_bind, hv, Result.andThen_ok, Sem.run_pure]
  generalize eval tb f s = v at *
  cases v <;> simp only [appd, reduceCtorEq] at h
  case nils =>
    have e1 : a.eval y1 = .slice none 0 0 := r1
    split at h
    · rename_i h0
      obtain rfl := Option.some.inj h
      have := run_app_room (P := P) (ty := o.type) ht hu hz (p := none) (n := 0) (cap := 0) hl (hfc' C.w rfl) (by omega)
      refine yields_pure I (v := .slice none 0 0) (run ?_) rfl
      rw [e1, this]
      simp [h0]
    · rename_i h0
      split at h
      · rename_i hb
        obtain rfl := Option.some.inj h
        obtain ⟨K, hK, hrun⟩ := run_app_grow (P := P) (ty := o.type) (p := none) (n := 0) (cap := 0) (olds := []) ht hu hi hzz hl hfc' (fun w' _ => by simp [Builtin.firstCells]) (by omega) (by rw [Nat.zero_add]; unfold most at hb; omega) hbz
        rw [← e1] at hrun
        simp only [Nat.zero_add] at hrun hK
        refine yields_row (w := { C.w with drawn := C.w.drawn + 1 }) I ⟨rfl, rfl, rfl⟩ rfl hz0 hs hrr (fun j v hj => flatten_append_get j v hj rfl) hK ?_ (run hrun)
        simp only [Array.size_append, List.size_toArray, size_zeroCells, hzs, hul, List.length_nil, Nat.zero_add]
        rw [← Nat.add_mul, show new.length + (K - new.length) = K by omega]
        exact Nat.le_refl _
      · simp at h
  case orow id n lo len =>
    obtain ⟨_, fz, sz, els, hg, hle, k⟩ := r1
    simp only [hg, Option.bind_some] at h
    split at h
    · rename_i hcond
      obtain ⟨rfl, hn', rfl, hsz, hb, hfz⟩ := hcond
      obtain ⟨_, off, cap, e1, hlc, hoff, hsize, hbo⟩ := k hn'
      subst hsz
      subst hn'
      obtain ⟨tl, hg', hlab⟩ := row_get hg
      obtain ⟨ws, arr, et, fr, ⟨g1, hfr0, hlb⟩, g2, g3, g4, g5, g6, g7, g8, g9⟩ := I.obj id _ hg'
      have hwl := RepLL.lens (fun x hx => (g4 x hx).1) g5
      have hwfl : ws.flatten.length = els.length * P.cellsOf e := by rw [flat_length _ hwl, g5.length]
      split at h
      · rename_i h0
        obtain rfl := Option.some.inj h
        have := run_app_room (P := P) (ty := o.type) ht hu hz (p := some ⟨(C.φ id).blk, off, none⟩) (n := els.length) (cap := cap) hl (hfc' C.w rfl) (by omega)
        have hv0 : vss.flatten = [] := List.eq_nil_of_length_eq_zero (by rw [hul, h0]; simp)
        rw [hv0] at this
        refine yields_pure I (v := .slice (some ⟨(C.φ id).blk, off, none⟩) els.length cap) (run ?_) ⟨⟨_, _, rfl⟩, fz, _, els, hg, Nat.le_refl _, fun _ => ⟨by omega, off, cap, rfl, hlc, hoff, hsize, hbo⟩⟩
        rw [e1, this]
        simp [h0, storeCells]
      · rename_i h0
        obtain rfl := Option.some.inj h
        have hpos : 0 < new.length := by omega
        by_cases hroom : els.length + new.length ≤ cap
        · -- in place
          have hcap : (els.length + new.length) * P.cellsOf e ≤ cap * P.cellsOf e := Nat.mul_le_mul_right _ hroom
          rw [Nat.add_mul] at hcap
          have hoffs : off = (C.φ id).base ∨ els.length = 0 := by
            rcases Nat.eq_zero_or_pos els.length with h | h
            · exact .inr h
            · exact .inl (by rw [hoff h]; simp)
          have hst := run_put (P := P) (o := off + els.length * P.cellsOf e) (vs := vss.flatten) g1 (by rw [hul]; omega) (fun j hj => g9 hfz _ (by
              rcases hoffs with h | h
              · omega
              · rw [h]; omega) (by rw [hul] at hj; omega)) (ones_rep (flat_scal fun x hx => (hs x hx).2) hrr.flat)
          have := run_app_room (P := P) (ty := o.type) ht hu hz (p := some ⟨(C.φ id).blk, off, none⟩) (n := els.length) (cap := cap) hl (hfc' C.w rfl) hroom
          simp only [add_none, hst, Result.andThen_ok] at this
          obtain ⟨arr', q1, q2⟩ := heap_setCells vss.flatten (off + els.length * P.cellsOf e) g1
          obtain ⟨X, hI⟩ := upd (D := ⟨fun j => if j = id then ⟨(C.φ id).blk, off, (C.φ id).size⟩ else C.φ j, C.H.set id (AObj.row (labIf (labAt C.H id) e) fz (P.cellsOf e) (els ++ new)), C.w.setCells (C.φ id).blk (off + els.length * P.cellsOf e) vss.flatten⟩) I (rest_setCells _ _) hg' rfl
            (fun j hj => if_neg hj) (by simp only [size_setCells]; omega) (fun b hb hne => heap_setCells_other hne _ _) (.inl (by simp)) (fun e => by cases e)
            (fun _ fz' sz' els' e => by cases e; exact ⟨_, _, _, rfl, by simp, fun e => absurd e (by rw [List.length_append]; omega)⟩)
          refine ⟨_, X, hI ?_, rfl, .inl ⟨.slice (some ⟨(C.φ id).blk, off, none⟩) (els.length + new.length) cap, run (by rw [e1, this]), ?_⟩⟩
          · simp only [if_true]
            refine ⟨ws ++ vss, arr', et, fr, ⟨q1, hfr0, fun k hk => by
              unfold labIf at hk
              split at hk
              · rename_i hl'; rw [hlab] at hl'; cases hk; exact hlb _ hl'
              · cases hk⟩, by rw [q2]; exact g2, g3, ?_, RepLL.app (RepLL.ext X g5) (RepLL.ext X hrr), ?_, ?_, ?_, ?_⟩
            · intro y hy
              rcases List.mem_append.1 hy with hy | hy
              · exact g4 y hy
              · exact hs y hy
            · simp only [List.length_append]; rw [Nat.add_mul]; omega
            · intro j v hj
              rw [List.flatten_append] at hj
              rcases Nat.lt_or_ge j ws.flatten.length with hlt | hge
              · rw [List.getElem?_append_left hlt] at hj
                rw [World.cell?_setCells_out _ _ _ _ _ fun _ _ => .inl (by simp; omega)]
                have hoff' : off = (C.φ id).base := hoffs.resolve_right fun h0 => by rw [h0] at hwfl; omega
                rw [hoff']
                exact g7 j v hj
              · rw [List.getElem?_append_right hge] at hj
                have hlt' := lt_of_get hj
                have := World.cell?_setCells_in (C.φ id).blk vss.flatten (off + els.length * P.cellsOf e) C.w (fun q hq => by
                  simp only [World.cell?, g1]
                  simp [Array.getElem?_eq_getElem (show off + els.length * P.cellsOf e + q < arr.size by omega)]) (j - ws.flatten.length) hlt'
                rw [show off + els.length * P.cellsOf e + (j - ws.flatten.length) = off + j by omega] at this
                rw [this, ← hj, List.getElem?_eq_getElem hlt']
            · intro hf j hj
              rw [frozen_put]
              exact g8 hf j hj
            · intro _ j hj hj'
              simp only [List.length_append] at hj
              rw [Nat.add_mul] at hj
              rw [frozen_put]
              refine g9 hfz j ?_ hj'
              rcases hoffs with h | h
              · omega
              · rw [h]; omega
          · exact ⟨⟨_, _, rfl⟩, fz, P.cellsOf e, els ++ new, row_at (List.getElem?_set_self (lt_of_get hg')), by simp, fun _ => ⟨by simp, off, cap, by simp, by omega, fun _ => by simp, by simpa using hsize, by simp⟩⟩
        · -- a new place
          have hold : ∀ w', w'.heap = C.w.heap → (Builtin.firstCells (P.cellsOf e) els.length (.slice (some ⟨(C.φ id).blk, off, none⟩) els.length cap)).run P w' = .ok ws.flatten.toArray w' := by
            intro w' hw
            have hh : Holds w' (C.φ id).blk off ws.flatten := by
              intro j v hj
              have hlt := lt_of_get hj
              have hoff' : off = (C.φ id).base := by
                rcases Nat.eq_zero_or_pos els.length with h | h
                · rw [h] at hwfl; omega
                · rw [hoff h]; simp
              rw [cell?_same (w := C.w) (w' := w') (by rw [hw]), hoff']
              exact g7 j v hj
            have := run_loadCells' (P := P) hh
            rw [hwfl] at this
            simpa [Builtin.firstCells] using this
          obtain ⟨K, hK, hrun⟩ := run_app_grow (P := P) (ty := o.type) (p := some ⟨(C.φ id).blk, off, none⟩) (n := els.length) (cap := cap) (olds := ws.flatten) ht hu hi hzz hl hfc' hold (by omega) (by unfold most at hb; omega) hbz
          rw [← e1] at hrun
          have hall : ∀ x ∈ els ++ new, x.length = P.cellsOf e ∧ x.all scal = true := by
            intro y hy
            rcases List.mem_append.1 hy with hy | hy
            · exact g4 y hy
            · exact hs y hy
          have hsize' : (ws.flatten.toArray ++ vss.flatten.toArray ++ Builtin.zeroCells z.cells (K - (els.length + new.length))).size = K * P.cellsOf e := by
            simp only [Array.size_append, List.size_toArray, size_zeroCells, hzs, hul, hwfl]
            rw [← Nat.add_mul, ← Nat.add_mul]
            congr 1
            omega
          obtain ⟨w1, w2, w3⟩ := row_new (fz := fz) (e := e) (w := { C.w with drawn := C.w.drawn + 1 }) (vss := ws ++ vss) (arr := ws.flatten.toArray ++ vss.flatten.toArray ++ Builtin.zeroCells z.cells (K - (els.length + new.length))) rfl hz0 hall (RepLL.app g5 hrr)
            (fun j v hj => by
              rw [List.flatten_append] at hj
              have := lt_of_get hj
              rw [Array.getElem?_append_left (by simpa using this)]
              simpa using hj) (by rw [hsize', List.length_append]; exact Nat.mul_le_mul_right _ hK)
          obtain ⟨X, hI⟩ := upd (D := ⟨fun j => if j = id then ⟨C.w.heap.size, 0, (ws.flatten.toArray ++ vss.flatten.toArray ++ Builtin.zeroCells z.cells (K - (els.length + new.length))).size⟩ else C.φ j, C.H.set id (AObj.row (labIf (labAt C.H id) e) fz (P.cellsOf e) (els ++ new)), { C.w with drawn := C.w.drawn + 1 }.alloc (.cells (ws.flatten.toArray ++ vss.flatten.toArray ++ Builtin.zeroCells z.cells (K - (els.length + new.length))) e)⟩) I ⟨rfl, rfl, rfl⟩ hg' rfl
            (fun j hj => if_neg hj) (Nat.le_of_lt w1) (fun b hb _ => w2 b hb) (.inr ⟨by simp, by simp⟩) (fun e => by cases e)
            (fun _ fz' sz' els' e => by cases e; exact ⟨_, _, _, rfl, by simp, fun e => absurd e (by rw [List.length_append]; omega)⟩)
          refine ⟨_, X, hI ?_, rfl, .inl ⟨_, run hrun, ?_⟩⟩
          · simp only [if_true]
            obtain ⟨vss', arr'', e'', fr'', ⟨y1, y2, y3⟩, yy⟩ := w3 _ X rfl
            exact ⟨vss', arr'', e'', fr'', ⟨y1, y2, fun k hk => by
              unfold labIf at hk
              split at hk
              · cases hk; exact y3 _ rfl
              · cases hk⟩, yy⟩
          · exact ⟨⟨_, _, rfl⟩, fz, P.cellsOf e, els ++ new, row_at (List.getElem?_set_self (lt_of_get hg')), by simp, fun _ => ⟨by simp, 0, K, by simp, hK, fun _ => by simp, by simp only [if_true, hsize']; omega, by simp⟩⟩
    · simp at h

theorem flat_take_len {sz m : Nat} {l : List (List AV)} (h : ∀ x ∈ l, x.length = sz) (hm : m ≤ l.length) : (l.take m).flatten.length = m * sz := by
  rw [flat_length _ fun x hx => h x (List.mem_of_mem_take hx), List.length_take, Nat.min_eq_left hm]

/-- copy -/
theorem sim_cpy (I : Inv tb C) (F : FrRel C f a nt) {o : Oper} {c : Call} {t e : TypeId} {ts : Array TypeId} {d x : AO} {y1 y2 : Operand} (ho : o.op = .call c) (hc : c.callee = .builtin .copy) (hargs : c.args = #[y1, y2]) (htys : c.argTypes = ts) (ht0 : ts[0]? = some t)
    (ht : P.underlying t = some (.slice e)) (hz : (P.info? e).isSome = true) (hz0 : 0 < P.cellsOf e) (h1 : okAO d y1 = true) (h2 : okAO x y2 = true) {src : List (List AV)} (hn : news C.H (P.cellsOf e) (eval tb f x) = some src) {r : AV × Option Heap}
    (h : copyTo C.H (P.cellsOf e) (eval tb f d) src = some r) : Yields tb C r ((execOp a.eval o).run P C.w) := by
  have r1 := rep_eval I F h1
  obtain ⟨hl, vss, hrr, hs, hfc⟩ := news_rep (P := P) I hz0 (rep_eval I F h2) hn
  have hlens := RepLL.lens (fun x hx => (hs x hx).1) hrr
  have run : ∀ {v w'}, (Builtin.copy_ ts o.type #[a.eval y1, a.eval y2]).run P C.w = .ok v w' → (execOp a.eval o).run P C.w = .ok (.value v) w' := by
    intro v w' hv
    refine run_builtin ho hc fun q => ?_
    simp only [hargs, htys, List.map_toArray, List.map_cons, List.map_nil, builtin, Sem.run_bind, hv, Result.andThen_ok, Sem.run_pure]
  have body : ∀ {p : Option Addr} {len cap : Nat}, a.eval y1 = .slice p len cap → (Builtin.copy_ ts o.type #[a.eval y1, a.eval y2]).run P C.w =
      (match p with
        | some q => (storeCells q (vss.take (min src.length len)).flatten).run P C.w
        | none => .ok () C.w).andThen fun _ w' => .ok (goInt ((min src.length len : Nat) : Int)) w' := by
    intro p len cap he
    have hm : min src.length len ≤ src.length := Nat.min_le_left _ _
    have hf := hfc (min src.length len) C.w hm rfl
    have hmin : Nat.min src.length len = min src.length len := rfl
    simp only [Builtin.copy_, ht0, List.getElem?_toArray, List.getElem?_cons_zero, List.getElem?_cons_succ, Sem.run_bind, run_underlying' ht, Result.andThen_ok, he, hl, run_sizeOf' hz, hmin, hf]
    cases p <;> simp
  have hvt : ∀ m, m ≤ src.length → RepL C (src.take m).flatten (vss.take m).flatten ∧ (src.take m).flatten.all scal = true ∧ (src.take m).flatten.length = m * P.cellsOf e ∧ (vss.take m).flatten.length = m * P.cellsOf e := by
    intro m hm
    have hr := RepLL.flat (RepLL.take (n := m) hrr)
    have hlen := flat_take_len (m := m) (fun x hx => (hs x hx).1) hm
    exact ⟨hr, flat_scal fun x hx => (hs x (List.mem_of_mem_take hx)).2, hlen, by rw [hr.length, hlen]⟩
  generalize eval tb f d = v at *
  cases v <;> simp only [copyTo, reduceCtorEq] at h
  case nils =>
    obtain rfl := Option.some.inj h
    have e1 : a.eval y1 = .slice none 0 0 := r1
    refine yields_pure I (v := goInt 0) (run ?_) rfl
    rw [body e1]
    simp
  case ocel sz id off len =>
    obtain ⟨_, o', cap, e1, hlc, hoff, _⟩ := r1
    cases hcs : cellsAt C.H id with
    | none => rw [hcs] at h; simp at h
    | some cs =>
      rw [hcs] at h
      simp only [Option.bind_some] at h
      split at h
      · rename_i hcond
        obtain ⟨hsz, hle⟩ := hcond
        obtain rfl := Option.some.inj h
        obtain ⟨tl, hg, hlab⟩ := cells_get hcs
        obtain ⟨vs, arr, et, fr, ⟨g1, hlb⟩, g2, g3, g4, g5, g6⟩ := I.obj id _ hg
        generalize hm : min src.length len = m at *
        have hms : m ≤ src.length := by omega
        have hml : m * P.cellsOf e ≤ len * P.cellsOf e := Nat.mul_le_mul_right _ (by omega)
        obtain ⟨q1, q2, q3, q4⟩ := hvt m hms
        have hsp : cs.take off ++ (src.take m).flatten ++ cs.drop (off + m * P.cellsOf e) = splice cs off (src.take m).flatten := by simp only [splice, q3]
        have hst : (storeCells ⟨(C.φ id).blk, o', none⟩ (vss.take m).flatten).run P C.w = .ok () (C.w.setCells (C.φ id).blk off (vss.take m).flatten) := by
          by_cases h0 : 0 < len
          · rw [hoff h0]
            exact run_put g1 (by rw [q4, g2]; omega) (fun j hj => g6 _ (by rw [q4] at hj; omega)) (ones_rep q2 q1)
          · have : m = 0 := by omega
            subst this
            simp [storeCells, World.setCells]
        obtain ⟨arr', k1, k2⟩ := heap_setCells (vss.take m).flatten off g1
        obtain ⟨X, hI⟩ := upd (D := ⟨C.φ, C.H.set id (AObj.cells (labAt C.H id) (splice cs off (src.take m).flatten)), C.w.setCells (C.φ id).blk off (vss.take m).flatten⟩) I (rest_setCells _ _) hg rfl (fun _ _ => rfl) (by simp only [size_setCells]; omega)
          (fun b hb hne => heap_setCells_other hne _ _) (.inl rfl) (fun _ => ⟨rfl, rfl⟩) (fun _ _ _ _ e => by cases e)
        refine ⟨_, X, hI ?_, by simp only [Option.getD_some, hsp], .inl ⟨goInt m, run ?_, rfl⟩⟩
        · refine ⟨_, arr', et, fr, ⟨k1, by rw [hlab]; exact hlb⟩, by rw [k2, g2, splice_length (by rw [q3]; omega)], splice_scal g3 q2, splice_rep (g4.ext X) (q1.ext X), ?_, ?_⟩
          · have := Holds.put (base := 0) (o := off) g1 g5 (vs := (vss.take m).flatten) (by rw [q4, g4.length]; omega) (by rw [g4.length]; omega)
            simpa using this
          · intro j hj
            rw [splice_length (by rw [q3]; omega)] at hj
            rw [frozen_put]
            exact g6 j hj
        · rw [body e1]
          simp only [hm, hst, Result.andThen_ok]
      · simp at h
  case orow id n lo len =>
    obtain ⟨_, fz, sz, els, hg, hle, k⟩ := r1
    simp only [hg, Option.bind_some] at h
    split at h
    · rename_i hcond
      obtain ⟨hfz, hn', hsz, hlo⟩ := hcond
      obtain rfl := Option.some.inj h
      subst hsz
      obtain ⟨_, off, cap, e1, hlc, hoff, hsize, hbo⟩ := k hn'
      obtain ⟨tl, hg', hlab⟩ := row_get hg
      obtain ⟨ws, arr, et, fr, ⟨g1, hfr0, hlb⟩, g2, g3, g4, g5, g6, g7, g8, g9⟩ := I.obj id _ hg'
      generalize hm : min src.length len = m at *
      have hms : m ≤ src.length := by omega
      obtain ⟨q1, q2, q3, q4⟩ := hvt m hms
      have hwl := RepLL.lens (fun x hx => (g4 x hx).1) g5
      have hwfl : ws.flatten.length = els.length * P.cellsOf e := by rw [flat_length _ hwl, g5.length]
      have hb1 : lo * P.cellsOf e + m * P.cellsOf e ≤ els.length * P.cellsOf e := by
        rw [← Nat.add_mul]; exact Nat.mul_le_mul_right _ (by omega)
      have hst : (storeCells ⟨(C.φ id).blk, off, none⟩ (vss.take m).flatten).run P C.w = .ok () (C.w.setCells (C.φ id).blk ((C.φ id).base + lo * P.cellsOf e) (vss.take m).flatten) := by
        by_cases h0 : 0 < len
        · rw [hoff h0]
          exact run_put g1 (by rw [q4, g2]; omega) (fun j hj => g8 hfz _ (by rw [q4] at hj; omega)) (ones_rep q2 q1)
        · have : m = 0 := by omega
          subst this
          simp [storeCells, World.setCells]
      obtain ⟨arr', k1, k2⟩ := heap_setCells (vss.take m).flatten ((C.φ id).base + lo * P.cellsOf e) g1
      obtain ⟨X, hI⟩ := upd (D := ⟨C.φ, C.H.set id (AObj.row (labAt C.H id) false (P.cellsOf e) (els.take lo ++ src.take m ++ els.drop (lo + m))), C.w.setCells (C.φ id).blk ((C.φ id).base + lo * P.cellsOf e) (vss.take m).flatten⟩) I (rest_setCells _ _) hg' rfl (fun _ _ => rfl) (by simp only [size_setCells]; omega)
        (fun b hb hne => heap_setCells_other hne _ _) (.inl rfl) (fun e => by cases e) (fun _ fz' sz' els' e => by cases e; exact ⟨_, _, _, rfl, by simp only [List.length_append, List.length_take, List.length_drop]; omega, fun _ => rfl⟩)
      have hnl : (els.take lo ++ src.take m ++ els.drop (lo + m)).length = els.length := by simp only [List.length_append, List.length_take, List.length_drop]; omega
      refine ⟨_, X, hI ?_, rfl, .inl ⟨goInt m, run ?_, rfl⟩⟩
      · refine ⟨ws.take lo ++ vss.take m ++ ws.drop (lo + m), arr', et, fr, ⟨k1, hfr0, by rw [hlab]; exact hlb⟩, by rw [k2]; exact g2, g3, ?_, ?_, by rw [hnl]; exact g6, ?_, ?_, ?_⟩
        · intro y hy
          simp only [List.mem_append] at hy
          rcases hy with (hy | hy) | hy
          · exact g4 y (List.mem_of_mem_take hy)
          · exact hs y (List.mem_of_mem_take hy)
          · exact g4 y (List.mem_of_mem_drop hy)
        · exact RepLL.app (RepLL.app (RepLL.take (g5.ext X)) (RepLL.take (hrr.ext X))) (RepLL.drop (g5.ext X))
        · have hfl : (ws.take lo ++ vss.take m ++ ws.drop (lo + m)).flatten = ws.flatten.take (lo * P.cellsOf e) ++ (vss.take m).flatten ++ ws.flatten.drop (lo * P.cellsOf e + (vss.take m).flatten.length) := by
            rw [List.flatten_append, List.flatten_append, flatten_take _ _ hwl, flatten_drop _ _ hwl, q4, ← Nat.add_mul]
          rw [hfl]
          exact Holds.put (base := (C.φ id).base) (o := lo * P.cellsOf e) g1 g7 (vs := (vss.take m).flatten) (by omega) (by omega)
        · intro _ j hj
          rw [frozen_put]
          exact g8 hfz j hj
        · intro _ j hj hj'
          rw [frozen_put]
          exact g9 hfz j (by rwa [hnl] at hj) hj'
      · rw [body e1]
        simp only [hm, hst, Result.andThen_ok]
    · simp at h

end
end Go.Proofs.YtobejhpigbllpaaGreatDoor.Am
