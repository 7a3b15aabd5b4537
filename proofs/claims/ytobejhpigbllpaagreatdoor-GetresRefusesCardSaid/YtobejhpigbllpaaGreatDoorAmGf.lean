/-
  Each of the machine's operations does what the model's does: pointers seen as unsafe ones, texts that share a row's bytes.
-/
import Derived.Test.YtobejhpigbllpaaGreatDoorAmGe
import Derived.Lib.Builder
import Derived.Lib.UnsafeStr
namespace Go.Proofs.YtobejhpigbllpaaGreatDoor.Am

section
variable {cl : Nat → List AV → Heap → Out} {P : Program} {tb : Tab} {C : Ctx} {f : Fr} {a : Act} {nt : Nat}

theorem sim_cvp (I : Inv tb C) (F : FrRel C f a nt) {o : Oper} {s d t : TypeId} {j : TypeInfo} {x : AO} {y : Operand} (ho : o.op = .convert s d y) (hs : P.underlying s = some (.pointer t)) (hd : P.underlying d = some .unsafePointer) (ht : P.info? t = some j) (hj : j.size ≠ 0)
    (hx : okAO x y = true) {r : AV × Option Heap} (h : aop tb cl (eval tb f) C.H (.cvp x) = some r) : Yields tb C r ((execOp a.eval o).run P C.w) := by
  have r1 := rep_eval I F hx
  simp only [aop] at h
  split at h
  · rename_i hv
    cases h
    rw [hv] at r1
    have e1 : a.eval y = .pointer none := r1
    have hrun : (convert s d (.pointer none)).run P C.w = .ok (.pointer none) C.w := by
      simp [convert, run_underlying' hs, run_underlying' hd, Conv.unsafePointer]
    exact yields_pure I (v := .pointer none) (by simp only [execOp, ho, e1, Sem.run_bind, hrun, Result.andThen_ok, Sem.run_pure]) rfl
  · rename_i id off hv
    obtain ⟨cs, hcs, h⟩ := Option.bind_eq_some_iff.1 h
    split at h
    · rename_i hlt
      cases h
      rw [hv] at r1
      have r0 := r1
      obtain ⟨_, e1⟩ := r1
      obtain ⟨tl, hg, _⟩ := cells_get hcs
      obtain ⟨vs, arr, e, fr, ⟨h1, _⟩, h2, _⟩ := I.obj id _ hg
      have hsh : C.w.shape? (C.φ id).blk = some (e, arr.size) := by simp only [World.shape?, h1]
      have hrun := Lib.run_to_unsafe (P := P) C.w ⟨(C.φ id).blk, off, none⟩ hs hd ht hj hsh (by rw [h2]; exact hlt)
      exact yields_pure I (v := .pointer (some ⟨(C.φ id).blk, off, none⟩)) (by simp only [execOp, ho, e1, Sem.run_bind, hrun, Result.andThen_ok, Sem.run_pure]) (e1 ▸ r0)
    · cases h
  · cases h

theorem sim_cvu (I : Inv tb C) (F : FrRel C f a nt) {o : Oper} {s d u t n : Nat} {j : TypeInfo} {x : AO} {y : Operand} (ho : o.op = .convert s d y) (hs : P.underlying s = some .unsafePointer) (hd : P.underlying d = some (.pointer u)) (hu : P.info? u = some j)
    (hl : liesAt P P.depth t (n / P.cellsOf t) 0 u 1 = true) (hx : okAO x y = true) {r : AV × Option Heap} (h : aop tb cl (eval tb f) C.H (.cvu t n x) = some r) : Yields tb C r ((execOp a.eval o).run P C.w) := by
  have r1 := rep_eval I F hx
  simp only [aop] at h
  split at h
  · rename_i hv
    cases h
    rw [hv] at r1
    have e1 : a.eval y = .pointer none := r1
    have hrun : (convert s d (.pointer none)).run P C.w = .ok (.pointer none) C.w := by
      simp [convert, run_underlying' hs, run_underlying' hd, Conv.unsafePointer]
    exact yields_pure I (v := .pointer none) (by simp only [execOp, ho, e1, Sem.run_bind, hrun, Result.andThen_ok, Sem.run_pure]) rfl
  · rename_i id off hv
    obtain ⟨cs, hcs, h⟩ := Option.bind_eq_some_iff.1 h
    split at h
    · rename_i hlt
      cases h
      obtain ⟨rfl, hn, hlab⟩ := hlt
      rw [hv] at r1
      have r0 := r1
      obtain ⟨_, e1⟩ := r1
      obtain ⟨tl, hg, hlab'⟩ := cells_get hcs
      obtain ⟨vs, arr, e, fr, ⟨h1, hb⟩, h2, _⟩ := I.obj id _ hg
      have het : e = t := hb t (by rw [← hlab', hlab])
      subst het
      have hsh : C.w.shape? (C.φ id).blk = some (e, arr.size) := by simp only [World.shape?, h1]
      have hrun := Lib.run_from_unsafe (P := P) C.w ⟨(C.φ id).blk, 0, none⟩ hs hd hu hsh (by rw [h2, hn]; exact hl)
      exact yields_pure I (v := .pointer (some ⟨(C.φ id).blk, 0, none⟩)) (by simp only [execOp, ho, e1, Sem.run_bind, hrun, Result.andThen_ok, Sem.run_pure]) (e1 ▸ r0)
    · cases h
  · cases h

theorem eqIn_nn (d : Nat) {t : TypeId} {x1} (hu : P.underlying t = some (.interface x1)) (w : World) : (Op.equalIn (d + 1) t .nilIface .nilIface).run P w = .ok true w := by
  simp only [Op.equalIn, Sem.run_bind, run_underlying' hu, Result.andThen_ok, Sem.run_pure]
theorem sim_isni (I : Inv tb C) (F : FrRel C f a nt) {o : Oper} {op : BinOp} {t t' : TypeId} {ms : Array (String × TypeId)} {neg : Bool} {x : AO} {p : Operand} (ho : o.op = .binOp op t p (.const .nilIface) t') (h0 : op = if neg then .neq else .eql) (ht : P.underlying t = some (.interface ms))
    (hx : okAO x p = true) {r : AV × Option Heap} (h : aop tb cl (eval tb f) C.H (.isni neg x) = some r) : Yields tb C r ((execOp a.eval o).run P C.w) := by
  have r1 := rep_eval I F hx
  simp only [aop] at h
  have fin : ∀ (v : Value) (b : Bool), a.eval p = v → r = (.b (if neg then !b else b), none) → (Op.equalIn 10000 t v .nilIface).run P C.w = .ok b C.w → (∀ l, v ≠ .agg l) → (∀ k n, v ≠ .int k n) → Yields tb C r ((execOp a.eval o).run P C.w) := by
    rintro v b e rfl hq h3 h4
    have hg : (eqGuard op t p (.const .nilIface) v .nilIface).run P C.w = .ok () C.w := by
      cases v <;> first
        | exact absurd rfl (h3 _)
        | (simp only [eqGuard]; split <;> rfl)
        | (simp only [eqGuard]; cases p <;> (split <;> rfl))
    have q2 : ∀ op, (op = .eql → (Go.binOp op t v .nilIface).run P C.w = .ok (.bool b) C.w) ∧ (op = .neq → (Go.binOp op t v .nilIface).run P C.w = .ok (.bool (!b)) C.w) :=
      fun op => run_equal_of hq (.inr (.inr (.inr (.inr (.inr (.inl ⟨.inr rfl, fun k n => ⟨h4 k n, fun e => (by cases e)⟩⟩))))))
    have ec : a.eval (.const .nilIface) = .nilIface := rfl
    cases neg with
    | true =>
      simp only [if_true] at h0
      refine yields_pure I (v := .bool (!b)) ?_ rfl
      simp only [execOp, ho, e, ec, Sem.run_bind, hg, Result.andThen_ok, (q2 op).2 h0, Sem.run_pure]
    | false =>
      simp only [Bool.false_eq_true, if_false] at h0
      refine yields_pure I (v := .bool b) ?_ rfl
      simp only [execOp, ho, e, ec, Sem.run_bind, hg, Result.andThen_ok, (q2 op).1 h0, Sem.run_pure]
  split at h
  · rename_i hv
    rw [hv] at r1
    cases h
    refine fin .nilIface true r1 (by cases neg <;> rfl) ?_ (fun l e => by cases e) (fun k n e => by cases e)
    exact eqIn_nn 9999 ht C.w
  · rename_i hv
    rw [hv] at r1
    cases h
    obtain ⟨u, z, e, _⟩ := r1
    exact fin (.iface u z) false e (by cases neg <;> rfl) (eqIn_in 9999 ht C.w) (fun l e => by cases e) (fun k n e => by cases e)
  · cases h

theorem sim_eqp (I : Inv tb C) (F : FrRel C f a nt) {o : Oper} {op : BinOp} {t u t' : TypeId} {j : TypeInfo} {neg : Bool} {x y : AO} {p q : Operand} (ho : o.op = .binOp op t p q t') (h0 : op = if neg then .neq else .eql) (ht : P.underlying t = some (.pointer u)) (hu : P.info? u = some j)
    (hx : okAO x p = true) (hy : okAO y q = true) {r : AV × Option Heap} (h : aop tb cl (eval tb f) C.H (.eqp neg x y) = some r) : Yields tb C r ((execOp a.eval o).run P C.w) := by
  have r1 := rep_eval I F hx
  have r2 := rep_eval I F hy
  simp only [aop] at h
  split at h
  · rename_i i1 o1 i2 o2 hv1 hv2
    split at h
    · rename_i hc
      obtain ⟨rfl, rfl⟩ := hc
      cases h
      rw [hv1] at r1
      rw [hv2] at r2
      obtain ⟨_, e1⟩ := r1
      obtain ⟨_, e2⟩ := r2
      have hg : (eqGuard op t p q (.pointer (some ⟨(C.φ i1).blk, o1, none⟩)) (.pointer (some ⟨(C.φ i1).blk, o1, none⟩))).run P C.w = .ok () C.w := guard_of p q C.w (fun l e => by cases e) (.inl fun e => by cases e) op
      refine yields_pure I (v := .bool (!neg)) ?_ rfl
      cases neg
      · simp only [Bool.false_eq_true, if_false] at h0
        subst h0
        have := run_eql_ptr_same (P := P) C.w ⟨(C.φ i1).blk, o1, none⟩ ht hu
        simp only [execOp, ho, e1, e2, Sem.run_bind, hg, this, Result.andThen_ok, Sem.run_pure]
        rfl
      · simp only [if_true] at h0
        subst h0
        have := Lib.run_neq_ptr_same (P := P) C.w ⟨(C.φ i1).blk, o1, none⟩ ht hu
        simp only [execOp, ho, e1, e2, Sem.run_bind, hg, this, Result.andThen_ok, Sem.run_pure]
        rfl
    · cases h
  · cases h

theorem sim_usd (I : Inv tb C) (F : FrRel C f a nt) {o : Oper} {c : Call} {x : AO} {y : Operand} (ho : o.op = .call c) (hc : c.callee = .builtin .unsafeSliceData) (ha : c.args = #[y]) (hx : okAO x y = true) {r : AV × Option Heap} (h : aop tb cl (eval tb f) C.H (.usd x) = some r) :
    Yields tb C r ((execOp a.eval o).run P C.w) := by
  have r1 := rep_eval I F hx
  have run : ∀ {v}, (Builtin.unsafeSliceData_ c.argTypes o.type #[a.eval y]).run P C.w = .ok v C.w → (execOp a.eval o).run P C.w = .ok (.value v) C.w := by
    intro v hv
    refine run_builtin ho hc fun q => ?_
    simp only [ha, List.map_toArray, List.map_cons, List.map_nil, builtin, Sem.run_bind, hv, Result.andThen_ok, Sem.run_pure]
  simp only [aop] at h
  split at h
  · rename_i hv
    cases h
    rw [hv] at r1
    have e1 : a.eval y = .slice none 0 0 := r1
    exact yields_pure I (v := .pointer none) (run (by rw [e1]; rfl)) rfl
  · rename_i id n lo len hv
    obtain ⟨q, hq, h⟩ := Option.bind_eq_some_iff.1 h
    split at h
    · rename_i hcond
      obtain ⟨hn, hle, hpos⟩ := hcond
      cases h
      rw [hv] at r1
      obtain ⟨_, fz, sz, els, hg, hl, k⟩ := r1
      have hq' : q = (fz, sz, els) := by rw [hg] at hq; exact (Option.some.inj hq).symm
      subst hq'
      obtain ⟨_, off, cap, e1, hlc, hoff, hsize, hbo⟩ := k hn
      have hrun := Lib.run_unsafeSliceData_row (P := P) C.w c.argTypes o.type ⟨(C.φ id).blk, off, none⟩ len cap (by omega)
      refine yields_pure I (v := .pointer (some ⟨(C.φ id).blk, off, none⟩)) (run (by rw [e1]; exact hrun)) ?_
      exact ⟨⟨_, rfl⟩, fz, sz, els, hg, hl, fun _ => by rw [hoff hpos, Nat.add_zero]⟩
    · cases h
  · cases h

/-- In a row of bytes, n of them lie side by side from any place on. -/
theorem liesAt_from {e : TypeId} (hc : P.cellsOf e = 1) (count off n : Nat) (hn : off + n ≤ count) : liesAt P P.depth e count off e n = true := by
  have hd : P.depth = (2 * (P.types.size + Made.depth) + 1) + 1 := rfl
  rw [hd]
  simp only [liesAt, Bool.or_eq_true]
  left
  rw [hd]
  simp [Go.rowAt, hc, hn, sameLayout, Nat.mod_one]

theorem run_bytesFrom (w : World) (b : Nat) : ∀ (els : List (List AV)) (vss : List (List Value)) (l : List UInt8) (o : Nat) (acc : ByteArray), RepLL C els vss → bytes? els = some l → Holds w b o vss.flatten →
    (loadBytes ⟨b, o, none⟩ acc els.length).run P w = .ok ⟨acc.data ++ l.toArray⟩ w
  | [], _, l, o, acc, _, h, _ => by
    simp only [bytes?, Option.some.injEq] at h
    subst h
    simp [loadBytes]
  | e :: els, vss, l, o, acc, r, h, hh => by
    obtain ⟨v, q, e1, r1, r2⟩ := r
    subst e1
    unfold bytes? at h
    split at h
    · rename_i he; cases he
    · rename_i n r' he
      cases he
      obtain ⟨l', hl, rfl⟩ := Option.map_eq_some_iff.1 h
      obtain ⟨u, us, e2, ru, e3⟩ := r1
      have e3' : us = [] := e3
      have ru' : u = .int .u8 n := ru
      subst e3'; subst e2; subst ru'
      have h0 : w.cell? ⟨b, o, none⟩ = some (.int .u8 n) := by
        have := hh 0 (.int .u8 n) rfl
        simpa using this
      have hh' : Holds w b (o + 1) q.flatten := fun j v hj => by
        have := hh (j + 1) v (by simpa using hj)
        rwa [show o + (j + 1) = o + 1 + j by omega] at this
      have ih := run_bytesFrom w b els q l' (o + 1) (acc.push n.toNat.toUInt8) r2 hl hh'
      simp only [List.length_cons, loadBytes, Sem.run_bind, run_load, h0, Result.andThen]
      have e4 : (⟨b, o, none⟩ : Addr).add 1 = ⟨b, o + 1, none⟩ := rfl
      rw [e4, ih]
      congr 1
      apply ByteArray.ext
      simp [ByteArray.push]
    · cases h

theorem sim_ust (I : Inv tb C) (F : FrRel C f a nt) {o : Oper} {c : Call} {pt it t : TypeId} {x n : AO} {y1 y2 : Operand} (ho : o.op = .call c) (hc : c.callee = .builtin .unsafeString) (ha : c.args = #[y1, y2]) (hty : c.argTypes = #[pt, it]) (hp : P.underlying pt = some (.pointer t)) (ht : P.cellsOf t = 1)
    (hx : okAO x y1 = true) (hn : okAO n y2 = true) {r : AV × Option Heap} (h : aop tb cl (eval tb f) C.H (.ust t x n) = some r) : Yields tb C r ((execOp a.eval o).run P C.w) := by
  have r1 := rep_eval I F hx
  simp only [aop] at h
  obtain ⟨k, hk, h⟩ := Option.bind_eq_some_iff.1 h
  obtain ⟨k1, _, e2⟩ := int?_rep (rep_eval I F hn) hk
  have run : ∀ {v w}, (Builtin.unsafeString_ #[pt, it] o.type #[a.eval y1, .int k1 k]).run P C.w = .ok v w → (execOp a.eval o).run P C.w = .ok (.value v) w := by
    intro v w hv
    refine run_builtin ho hc fun q => ?_
    simp only [ha, hty, List.map_toArray, List.map_cons, List.map_nil, builtin, Sem.run_bind, e2, hv, Result.andThen_ok, Sem.run_pure]
  have hmax : IntKind.i64.max = 9223372036854775807 := rfl
  have hdef : ∀ q : Option Addr, Builtin.unsafeString_ #[pt, it] o.type #[.pointer q, .int k1 k] =
      (do
        let n ← asInt (.int k1 k)
        if n < 0 then runtimePanic (.error "unsafe.String: len out of range")
        if n > IntKind.i64.max then unsupported (.unsafePointer "String: a length above the largest int")
        match q with
        | none =>
          if n = 0 then pure (.string .empty)
          else runtimePanic (.error "unsafe.String: ptr is nil and len is not zero")
        | some a =>
          if n = 0 then pure (.string .empty)
          else if ← variablesAt a (← elemOf pt) n.toNat then do
            let s ← loadBytes a .empty n.toNat
            freeze a n.toNat
            pure (.string s)
          else unsupported (.unsafePointer "String: not so many bytes at ptr")) := fun _ => rfl
  split at h
  · rename_i hv
    split at h
    · rename_i hk0
      subst hk0
      cases h
      rw [hv] at r1
      have e1 : a.eval y1 = .pointer none := r1
      refine yields_pure I (v := .string .empty) (run ?_) rfl
      rw [e1, hdef]
      simp [asInt, asIntOf, hmax]
    · cases h
  · rename_i id m i off hv
    obtain ⟨q, hq, g⟩ := Option.bind_eq_some_iff.1 h
    clear h
    split at g
    · rename_i hcond
      obtain ⟨hoff0, hpos, hm, hle, hsz, hlab, hmost⟩ := hcond
      subst hoff0
      obtain ⟨l, hl, rfl⟩ := Option.map_eq_some_iff.1 g
      rw [hv] at r1
      obtain ⟨_, fz, sz, els, hg, hl1, kk⟩ := r1
      have hq' : q = (fz, sz, els) := by rw [hg] at hq; exact (Option.some.inj hq).symm
      subst hq'
      simp only at hm hle hsz hl
      subst hsz
      have e1 := kk hm
      obtain ⟨tl, hg', hlab'⟩ := row_get hg
      obtain ⟨vss, arr, et, fr, ⟨h1, hfr0, hlb⟩, h2, h3, h4, h5, h6, h7, h8, h9⟩ := I.obj id _ hg'
      have het : et = t := hlb t (by rw [← hlab', hlab])
      subst het
      have hlens := RepLL.lens (fun x hx => (h4 x hx).1) h5
      have hkn : ((els.drop i).take k.toNat).length = k.toNat := by simp only [List.length_take, List.length_drop]; omega
      have hh : Holds C.w (C.φ id).blk ((C.φ id).base + i) ((vss.drop i).take k.toNat).flatten := by
        have := h7.sub (i * 1) (k.toNat * 1)
        rw [Nat.mul_one] at this
        intro j v hj
        refine this j v ?_
        rw [flatten_take (sz := 1) _ _ (fun x hx => hlens x (List.mem_of_mem_drop hx)), flatten_drop (sz := 1) _ _ hlens] at hj
        simpa using hj
      have hload := run_bytesFrom (P := P) (C := C) C.w (C.φ id).blk _ _ l ((C.φ id).base + i) .empty (RepLL.take (n := k.toNat) (RepLL.drop (n := i) h5)) hl hh
      rw [hkn] at hload
      have hsh : C.w.shape? (C.φ id).blk = some (et, arr.size) := by simp only [World.shape?, h1]
      have hlies := liesAt_from (P := P) ht (arr.size / P.cellsOf et) ((C.φ id).base + i) k.toNat (by rw [ht, Nat.div_one, h2]; omega)
      let w' := C.w.freeze ⟨(C.φ id).blk, (C.φ id).base + i, none⟩ k.toNat
      have hk0 : k.toNat ≠ 0 := by omega
      let fr' : Nat × Nat := if fr.1 == fr.2 then ((C.φ id).base + i, (C.φ id).base + i + k.toNat) else (min fr.1 ((C.φ id).base + i), max fr.2 ((C.φ id).base + i + k.toNat))
      have hnew : w'.heap[(C.φ id).blk]? = some (.cells arr et fr') := by
        show (C.w.freeze ⟨(C.φ id).blk, (C.φ id).base + i, none⟩ k.toNat).heap[(C.φ id).blk]? = _
        unfold World.freeze
        rw [if_neg hk0]
        simp only [Array.getElem?_modify, if_true, h1, Option.map_some]
        rfl
      have hother : ∀ b, b ≠ (C.φ id).blk → w'.heap[b]? = C.w.heap[b]? := fun b hb => by
        show (C.w.freeze ⟨(C.φ id).blk, (C.φ id).base + i, none⟩ k.toNat).heap[b]? = _
        unfold World.freeze
        rw [if_neg hk0]
        simp only [Array.getElem?_modify, if_neg (Ne.symm hb)]
      have hsz' : w'.heap.size = C.w.heap.size := by
        show (C.w.freeze ⟨(C.φ id).blk, (C.φ id).base + i, none⟩ k.toNat).heap.size = _
        unfold World.freeze
        rw [if_neg hk0]
        simp
      have hfr1 : fr'.1 ≤ fr'.2 := by
        show (if fr.1 == fr.2 then ((C.φ id).base + i, (C.φ id).base + i + k.toNat) else (min fr.1 ((C.φ id).base + i), max fr.2 ((C.φ id).base + i + k.toNat))).1 ≤ (if fr.1 == fr.2 then ((C.φ id).base + i, (C.φ id).base + i + k.toNat) else (min fr.1 ((C.φ id).base + i), max fr.2 ((C.φ id).base + i + k.toNat))).2
        split
        · simp
        · simp only; omega
      have hrest : Rest C.w w' := by
        show Rest C.w (C.w.freeze ⟨(C.φ id).blk, (C.φ id).base + i, none⟩ k.toNat)
        unfold World.freeze
        rw [if_neg hk0]
        exact ⟨rfl, rfl, rfl⟩
      obtain ⟨X, hI⟩ := upd (D := ⟨C.φ, C.H.set id (AObj.row tl true 1 els), w'⟩) I hrest hg' (o' := AObj.row tl true 1 els) rfl (fun _ _ => rfl) (by show C.w.heap.size ≤ w'.heap.size; omega) (fun b _ hne => hother b hne) (.inl rfl) (fun e => by cases e)
        (fun _ fz' sz' els' e => by cases e; exact ⟨_, _, _, rfl, Nat.le_refl _, fun _ => rfl⟩)
      have hcell : ∀ q, w'.cell? ⟨(C.φ id).blk, q, none⟩ = C.w.cell? ⟨(C.φ id).blk, q, none⟩ := fun q => by simp only [World.cell?, hnew, h1]
      refine ⟨_, X, hI ⟨vss, arr, et, fr', ⟨hnew, hfr1, hlb⟩, h2, h3, h4, RepLL.ext X h5, h6, fun j v hj => by rw [hcell]; exact h7 j v hj, fun f => (by cases f), fun f => (by cases f)⟩, by simp only [Option.getD_some, hlab'], .inl ⟨.string ⟨l.toArray⟩, run ?_, rfl⟩⟩
      rw [e1, Nat.mul_one, Nat.add_zero]
      have h63 : ¬ k > IntKind.i64.max := by rw [hmax]; unfold most at hmost; omega
      have hneg : ¬ k < 0 := by omega
      have hk00 : ¬ k = 0 := by omega
      rw [hdef]
      have h63' : ¬ (9223372036854775807 : Int) < k := by rw [hmax] at h63; exact h63
      simp [asInt, asIntOf, hmax, h63', hneg, hk00, variablesAt, hsh, elemOf, run_underlying' hp, hlies, hload]
      rfl
    · cases g
  · cases h
end
end Go.Proofs.YtobejhpigbllpaaGreatDoor.Am
