/-
  Each of the machine's operations does what the model's does: rows that are made, texts and bytes, a text's runes.
-/
import Derived.Test.YtobejhpigbllpaaGreatDoorAmGd
import Derived.Laws.MakeOwn
import Derived.Laws.AppendOwn
import Derived.Laws.BytesString
import Derived.Lib.ConvBytes
namespace Go.Proofs.YtobejhpigbllpaaGreatDoor.Am

section
variable {cl : Nat → List AV → Heap → Out} {P : Program} {tb : Tab} {C : Ctx} {f : Fr} {a : Act} {nt : Nat}

theorem repLL_replicate {x : List AV} {v : List Value} (h : RepL C x v) : ∀ n, RepLL C (List.replicate n x) (List.replicate n v)
  | 0 => rfl
  | n + 1 => ⟨v, _, rfl, h, repLL_replicate h n⟩

theorem sim_mks (I : Inv tb C) (F : FrRel C f a nt) {o : Oper} {t e : TypeId} {x1 x2 : AO} {y1 y2 : Operand} (ho : o.op = .makeSlice t y1 y2) (hu : P.underlying t = some (.slice e)) {i : TypeInfo} {z : Value} (hi : P.info? e = some i) (hz : i.zero = some z)
    {zero : List AV} (hzs : isSs zero z.cells.toList = true) (hsz : i.size = z.cells.size) (hz0 : 0 < i.size) (h1 : okAO x1 y1 = true) (h2 : okAO x2 y2 = true) {l c : Int} (e1 : int? (eval tb f x1) = some l) (e2 : int? (eval tb f x2) = some c)
    (hc : 0 ≤ l ∧ l ≤ c ∧ c * i.bytes ≤ most) (hc63 : c ≤ 9223372036854775807) : Yields tb C (.orow C.H.length l.toNat 0 l.toNat, some (C.H ++ [AObj.row (some e) false i.size (List.replicate l.toNat zero)])) ((execOp a.eval o).run P C.w) := by
  obtain ⟨k1, _, r1⟩ := int?_rep (rep_eval I F h1) e1
  obtain ⟨k2, _, r2⟩ := int?_rep (rep_eval I F h2) e2
  obtain ⟨hr, hs⟩ := isSs_rep (C := C) hzs
  have hlen : zero.length = i.size := by rw [← hr.length, hsz]; simp
  have hrun := run_make (P := P) C.w t e i z hu hi hz k1 k2 l c hc.1 hc.2.1 (by have := hc.2.2; unfold most at this; rw [Int.mul_comm]; omega) hc63
  have hle : l.toNat ≤ c.toNat := by have := hc.2.1; omega
  have hy := yields_row (fz := false) (sz := i.size) (els := List.replicate l.toNat zero) (vss := List.replicate l.toNat z.cells.toList) (arr := madeCells z.cells (c.toNat * i.size)) (e := e) (w := C.w) (K := c.toNat)
    (x := (execOp a.eval o).run P C.w) I ⟨rfl, rfl, rfl⟩ rfl hz0 (fun x hx => by rw [List.eq_of_mem_replicate hx]; exact ⟨hlen, hs⟩) (repLL_replicate hr _) (fun j v hj => ?_) (by simpa using hle) (by rw [size_madeCells]; exact Nat.le_refl _) ?_
  · simpa using hy
  · have hmade : (madeCells z.cells (c.toNat * i.size)).toList = (List.replicate c.toNat z.cells.toList).flatten := by
      rw [hsz]; exact zeros_list z.cells c.toNat
    have hsplit : (List.replicate c.toNat z.cells.toList).flatten = (List.replicate l.toNat z.cells.toList).flatten ++ (List.replicate (c.toNat - l.toNat) z.cells.toList).flatten := by
      rw [← List.flatten_append, List.replicate_append_replicate, show l.toNat + (c.toNat - l.toNat) = c.toNat by omega]
    rw [← Array.getElem?_toList, hmade, hsplit, List.getElem?_append_left (lt_of_get hj)]
    exact hj
  · simp only [execOp, ho, r1, r2, Sem.run_bind, hrun, Result.andThen_ok, Sem.run_pure, List.length_replicate]

theorem flat_singles {α β : Type} {g : α → β} : ∀ l : List α, (l.map fun c => [g c]).flatten = l.map g
  | [] => rfl
  | c :: l => by simp only [List.map_cons, List.flatten_cons, flat_singles l]; rfl
theorem sim_cvb (I : Inv tb C) (F : FrRel C f a nt) {o : Oper} {s d e : TypeId} {x : AO} {y : Operand} (ho : o.op = .convert s d y) (hs : P.underlying s = some .string) (hd : P.underlying d = some (.slice e)) (he : P.underlying e = some (.int .u8)) (hx : okAO x y = true)
    {l : List UInt8} (h : eval tb f x = .s l) : Yields tb C (.orow C.H.length l.length 0 l.length, some (C.H ++ [AObj.row (some e) false 1 (byteEls l)])) ((execOp a.eval o).run P C.w) := by
  have r := rep_eval I F hx
  rw [h] at r
  have e1 : a.eval y = .string ⟨l.toArray⟩ := r
  have hrun := Lib.run_convert_string_bytes (P := P) C.w s d e ⟨l.toArray⟩ hs hd he
  have hsize : (⟨l.toArray⟩ : ByteArray).size = l.length := by simp [ByteArray.size]
  have hold : ∀ b, b < C.w.heap.size → (Lib.bytesWorld C.w e ⟨l.toArray⟩).heap[b]? = C.w.heap[b]? := fun b hb => Lib.bytesWorld_at_old C.w e _ b hb
  have hnew := Lib.bytesWorld_at_new C.w e ⟨l.toArray⟩
  have hgrow : C.w.heap.size < (Lib.bytesWorld C.w e ⟨l.toArray⟩).heap.size := by rw [Lib.bytesWorld_size]; omega
  have hrest : Rest C.w (Lib.bytesWorld C.w e ⟨l.toArray⟩) := by
    refine ⟨?_, ?_, ?_⟩ <;> simp [Lib.bytesWorld, World.freeze, World.alloc, World.drew, -World.alloc_eq, -World.drew_eq]
  have hcs : l.length ≤ (Lib.bytesCells C.w e ⟨l.toArray⟩).size := by simp [Lib.bytesCells]
  obtain ⟨hb1, hb2⟩ := bytes_rep (C := C) l
  have hcell : ∀ (j : Nat) (v : Value), (l.map fun c => [Value.int .u8 c.toNat]).flatten[j]? = some v → (Lib.bytesWorld C.w e ⟨l.toArray⟩).cell? ⟨C.w.heap.size, j, none⟩ = some v := by
    intro j v hj
    rw [flat_singles] at hj
    obtain ⟨u, hu, rfl⟩ := List.getElem?_eq_some_iff.1 hj
    simp only [List.length_map] at u
    rw [Lib.bytesWorld_cell C.w e ⟨l.toArray⟩ j (by rw [hsize]; exact u)]
    simp [List.getD, u]
  have hfz : ∀ o, o < (Lib.bytesCells C.w e ⟨l.toArray⟩).size → (Lib.bytesWorld C.w e ⟨l.toArray⟩).frozen? ⟨C.w.heap.size, o, none⟩ = false := by
    intro o ho
    simp only [World.frozen?, hnew]
    simp
    omega
  have hcap : l.length ≤ grownCap C.w l.length 0 e := grownCap_ge _ _ _ _
  have hcsz : (Lib.bytesCells C.w e ⟨l.toArray⟩).size = grownCap C.w l.length 0 e := by
    simp [Lib.bytesCells, hsize]; omega
  refine yields_new (w := Lib.bytesWorld C.w e ⟨l.toArray⟩) (v := .slice (some ⟨C.w.heap.size, 0, none⟩) l.length (grownCap C.w l.length 0 e)) I (p := ⟨C.w.heap.size, 0, (Lib.bytesCells C.w e ⟨l.toArray⟩).size⟩) hrest ?_ hgrow rfl hold ?_ ?_
  · simp only [execOp, ho, e1, Sem.run_bind, hrun, Result.andThen_ok, Sem.run_pure, hsize]
  · have X := (more (w := Lib.bytesWorld C.w e ⟨l.toArray⟩) I (p := ⟨C.w.heap.size, 0, (Lib.bytesCells C.w e ⟨l.toArray⟩).size⟩) (o := AObj.row (some e) false 1 (byteEls l)) hrest hgrow rfl hold).1
    refine ⟨_, _, _, _, ⟨hnew, Nat.le_succ _, fun k hk => by cases hk; rfl⟩, rfl, by omega, hb2, RepLL.ext X hb1, by simpa [byteEls] using hcs, fun j v hj => by rw [Nat.zero_add]; exact hcell j v hj, fun _ => hfz, fun _ o _ => hfz o⟩
  · intro hφ
    refine ⟨⟨_, _, rfl⟩, false, 1, byteEls l, by simp [Ctx.more, rowAt], by simp [byteEls], fun _ => ⟨by omega, 0, grownCap C.w l.length 0 e, by rw [hφ], hcap, fun _ => by rw [hφ], by rw [hφ]; simp only [hcsz]; omega, by rw [hφ]; exact Nat.zero_le _⟩⟩

/-- a slice of bytes as itself: the place behind its row's end is marked -/
theorem sim_cvr (I : Inv tb C) (F : FrRel C f a nt) {o : Oper} {s e : TypeId} {x : AO} {y : Operand} (ho : o.op = .convert s s y) (hs : P.underlying s = some (.slice e)) (he : P.underlying e = some (.int .u8)) (hx : okAO x y = true)
    {id n lo len : Nat} (h : eval tb f x = .orow id n lo len) {fz : Bool} {sz : Nat} {els : List (List AV)} (hq : rowAt C.H id = some (fz, sz, els)) (hfz : fz = false) (hn : n = els.length) (hle : lo + len ≤ n) :
    Yields tb C (.orow id n lo len, none) ((execOp a.eval o).run P C.w) := by
  have r := rep_eval I F hx
  rw [h] at r
  have r0 := r
  obtain ⟨_, fz', sz', els', hg, hl, k⟩ := r
  rw [hq] at hg
  cases hg
  obtain ⟨_, off, cap, e1, hlc, hoff, hsize, hbo⟩ := k hn
  obtain ⟨tl, hg', hlab⟩ := row_get hq
  obtain ⟨vss, arr, et, fr, ⟨h1, hfr0, hlb⟩, h2, h3, h4, h5, h6, h7, h8, h9⟩ := I.obj id _ hg'
  have hsh : C.w.shape? (C.φ id).blk = some (et, arr.size) := by simp only [World.shape?, h1]
  have hrun : (convert s s (.slice (some ⟨(C.φ id).blk, off, none⟩) len cap)).run P C.w = .ok (.slice (some ⟨(C.φ id).blk, off, none⟩) len cap) (C.w.freeze ⟨(C.φ id).blk, arr.size, none⟩ 1) := by
    simp [convert, run_underlying' hs, run_underlying' he, markStringish, hsh]
  have hfr : ∀ q, q < (C.φ id).size → ¬ (fr.1 ≤ q ∧ q < fr.2) := fun q hq' => by
    have := h8 hfz q hq'
    simp only [World.frozen?, h1] at this
    simpa using this
  let w' := C.w.freeze ⟨(C.φ id).blk, arr.size, none⟩ 1
  let fr' : Nat × Nat := if fr.1 == fr.2 then (arr.size, arr.size + 1) else (min fr.1 arr.size, max fr.2 (arr.size + 1))
  have hnew : w'.heap[(C.φ id).blk]? = some (.cells arr et fr') := by
    show (C.w.freeze ⟨(C.φ id).blk, arr.size, none⟩ 1).heap[(C.φ id).blk]? = _
    unfold World.freeze
    rw [if_neg (by decide)]
    simp only [Array.getElem?_modify, if_true, h1, Option.map_some]
    rfl
  have hother : ∀ b, b ≠ (C.φ id).blk → w'.heap[b]? = C.w.heap[b]? := fun b hb => by
    show (C.w.freeze ⟨(C.φ id).blk, arr.size, none⟩ 1).heap[b]? = _
    unfold World.freeze
    rw [if_neg (by decide)]
    simp only [Array.getElem?_modify, if_neg (Ne.symm hb)]
  have hsz' : w'.heap.size = C.w.heap.size := by
    show (C.w.freeze ⟨(C.φ id).blk, arr.size, none⟩ 1).heap.size = _
    unfold World.freeze
    rw [if_neg (by decide)]
    simp
  have hfr1 : fr'.1 ≤ fr'.2 ∧ ∀ q, q < arr.size → ¬ (fr'.1 ≤ q ∧ q < fr'.2) := by
    show (if fr.1 == fr.2 then (arr.size, arr.size + 1) else (min fr.1 arr.size, max fr.2 (arr.size + 1))).1 ≤ (if fr.1 == fr.2 then (arr.size, arr.size + 1) else (min fr.1 arr.size, max fr.2 (arr.size + 1))).2 ∧ ∀ q, q < arr.size → ¬ ((if fr.1 == fr.2 then (arr.size, arr.size + 1) else (min fr.1 arr.size, max fr.2 (arr.size + 1))).1 ≤ q ∧ q < (if fr.1 == fr.2 then (arr.size, arr.size + 1) else (min fr.1 arr.size, max fr.2 (arr.size + 1))).2)
    split
    · exact ⟨by simp, fun q hq' => by simp; omega⟩
    · rename_i hne
      have hlt : fr.1 < fr.2 := by
        have : fr.1 ≠ fr.2 := by simpa using hne
        omega
      have hge : arr.size ≤ fr.1 := by
        rcases Nat.lt_or_ge fr.1 arr.size with h | h
        · exact absurd ⟨Nat.le_refl _, hlt⟩ (hfr fr.1 (by omega))
        · exact h
      refine ⟨by simp only; omega, fun q hq' => by simp only; omega⟩
  have hfz' : ∀ q, q < (C.φ id).size → w'.frozen? ⟨(C.φ id).blk, q, none⟩ = false := fun q hq' => by
    have := hfr1.2 q (by omega)
    simp only [World.frozen?, hnew]
    simpa using this
  have hset : C.H.set id (AObj.row tl fz sz els) = C.H := by
    apply List.ext_getElem?
    intro j
    rw [List.getElem?_set]
    split
    · rename_i hj; subst hj; split
      · exact hg'.symm
      · rename_i hj; exact absurd (lt_of_get hg') hj
    · rfl
  have hrest : Rest C.w w' := by
    show Rest C.w (C.w.freeze ⟨(C.φ id).blk, arr.size, none⟩ 1)
    unfold World.freeze
    rw [if_neg (by decide)]
    exact ⟨rfl, rfl, rfl⟩
  obtain ⟨X, hI⟩ := upd (D := ⟨C.φ, C.H, w'⟩) I hrest hg' (o' := AObj.row tl fz sz els) hset.symm (fun _ _ => rfl) (by show C.w.heap.size ≤ w'.heap.size; omega) (fun b _ hne => hother b hne) (.inl rfl) (fun e => by cases e)
    (fun _ fz' sz' els' e => by cases e; exact ⟨_, _, _, rfl, Nat.le_refl _, fun _ => rfl⟩)
  have hcell : ∀ q, w'.cell? ⟨(C.φ id).blk, q, none⟩ = C.w.cell? ⟨(C.φ id).blk, q, none⟩ := fun q => by simp only [World.cell?, hnew, h1]
  refine ⟨_, X, hI ⟨vss, arr, et, fr', ⟨hnew, hfr1.1, hlb⟩, h2, h3, h4, RepLL.ext X h5, h6, fun j v hj => by rw [hcell]; exact h7 j v hj, fun _ q hq' => hfz' q hq', fun _ q _ hq' => hfz' q hq'⟩, rfl, .inl ⟨.slice (some ⟨(C.φ id).blk, off, none⟩) len cap, ?_, ?_⟩⟩
  · simp only [execOp, ho, e1, Sem.run_bind, hrun, Result.andThen_ok, Sem.run_pure]; rfl
  · rw [← e1]; exact Rep.ext X r0

theorem bytes?_flat : ∀ {els : List (List AV)} {vss : List (List Value)} {l : List UInt8}, RepLL C els vss → bytes? els = some l → ∃ ns : List Int, vss.flatten = ns.map (Value.int .u8) ∧ l = ns.map fun n => UInt8.ofNat n.toNat
  | [], _, _, r, h => by
    rw [show _ = [] from r]
    simp only [bytes?, Option.some.injEq] at h
    subst h
    exact ⟨[], rfl, rfl⟩
  | e :: els, _, l, ⟨v, q, e1, r1, r2⟩, h => by
    unfold bytes? at h
    split at h
    · rename_i he; cases he
    · rename_i n r' he
      cases he
      obtain ⟨l', hl, rfl⟩ := Option.map_eq_some_iff.1 h
      obtain ⟨ns, h1, h2⟩ := bytes?_flat r2 hl
      obtain ⟨u, us, e2, ru, e3⟩ := r1
      have e3' : us = [] := e3
      have ru' : u = .int .u8 n := ru
      subst e3'; subst e2; subst ru'
      exact ⟨n :: ns, by rw [e1]; simp [h1], by simp [h2]⟩
    · cases h
theorem foldl_push : ∀ (ns : List Int) (b : ByteArray), ns.foldl (fun r n => r.push (UInt8.ofNat n.toNat)) b = ⟨b.data ++ (ns.map fun n => UInt8.ofNat n.toNat).toArray⟩
  | [], b => by apply ByteArray.ext; simp
  | n :: ns, b => by
    rw [List.foldl_cons, foldl_push ns]
    apply ByteArray.ext
    simp [ByteArray.push]

theorem sim_cvs (I : Inv tb C) (F : FrRel C f a nt) {o : Oper} {s d e : TypeId} {x : AO} {y : Operand} (ho : o.op = .convert s d y) (hs : P.underlying s = some (.slice e)) (he : P.underlying e = some (.int .u8)) (hd : P.underlying d = some .string) (hx : okAO x y = true)
    {els : List (List AV)} {l : List UInt8} (h : els? C.H 1 (eval tb f x) = some els) (hl : bytes? els = some l) : Yields tb C (.s l, none) ((execOp a.eval o).run P C.w) := by
  have r := rep_eval I F hx
  refine yields_pure I (v := .string ⟨l.toArray⟩) ?_ rfl
  rcases els_rep I (by omega) r h with ⟨rfl, ev⟩ | ⟨q, cap, vss, ev, hlc, hh, hsz, hr⟩
  · simp only [bytes?, Option.some.injEq] at hl
    subst hl
    simp only [execOp, ho, ev, Sem.run_bind, run_convert_bytes_string C.w s d e _ _ _ hs he hd]
    rfl
  · obtain ⟨ns, h1, h2⟩ := bytes?_flat hr hl
    have hlen : ns.length = els.length := by
      have := congrArg List.length h1
      rw [flat_length _ (RepLL.lens (fun x hx => (hsz x hx).1) hr), hr.length] at this
      simpa using this.symm
    have hload : (loadCells q els.length).run P C.w = .ok (ns.map (Value.int .u8)).toArray C.w := by
      by_cases hne : els = []
      · subst hne
        have : ns = [] := List.eq_nil_of_length_eq_zero (by simpa using hlen)
        subst this
        rfl
      · obtain ⟨b, base, rfl, hh2⟩ := hh hne
        have := run_loadCells' (P := P) hh2
        rw [h1] at this
        simpa [hlen] using this
    have := run_bytesToString (P := P) C.w q els.length cap ns hload
    simp only [execOp, ho, ev, Sem.run_bind, run_convert_bytes_string C.w s d e _ _ _ hs he hd, this, Result.andThen_ok, Sem.run_pure]
    rw [foldl_push, h2]
    rw [show ByteArray.empty.data = #[] from rfl]; simp

theorem sim_rng (I : Inv tb C) (F : FrRel C f a nt) {o : Oper} {t : TypeId} {x : AO} {y : Operand} (ho : o.op = .range t y) (ht : P.underlying t = some .string) (hx : okAO x y = true) {l : List UInt8} (h : eval tb f x = .s l) :
    Yields tb C (.ptr C.H.length 0, some (C.H ++ [AObj.iter l 0])) ((execOp a.eval o).run P C.w) := by
  have r := rep_eval I F hx
  rw [h] at r
  have e1 : a.eval y = .string ⟨l.toArray⟩ := r
  have hlt : C.w.heap.size < (C.w.alloc (.stringIter ⟨l.toArray⟩ 0)).heap.size := by rw [alloc_size]; omega
  refine yields_new (w := C.w.alloc (.stringIter ⟨l.toArray⟩ 0)) (v := .pointer (some ⟨C.w.heap.size, 0, none⟩)) I (p := ⟨C.w.heap.size, 0, 0⟩) ⟨rfl, rfl, rfl⟩ ?_ hlt rfl (fun b hb => alloc_old _ _ hb) ?_ ?_
  · simp only [execOp, ho, e1, Instr.range, Sem.run_bind, run_underlying' ht, Result.andThen_ok, Sem.run_pure, run_newObj]
    rfl
  · exact alloc_new _ _
  · intro hφ
    exact ⟨⟨AObj.iter l 0, by simp [Ctx.more], rfl⟩, by rw [hφ]⟩

theorem sim_nxt (I : Inv tb C) (F : FrRel C f a nt) {o : Oper} {x : AO} {y : Operand} (ho : o.op = .next y true) (hx : okAO x y = true) {id : Nat} {l : List UInt8} {pos : Nat} (h : eval tb f x = .ptr id 0) (hi : iterAt C.H id = some (l, pos)) {r : AV × Option Heap}
    (hr : (if pos < l.length then some (AV.tup [.b true, .i .i64 pos, .i .i32 (Utf8.decode ⟨l.toArray⟩ pos).1], some (C.H.set id (AObj.iter l (pos + (Utf8.decode ⟨l.toArray⟩ pos).2)))) else some (AV.tup [.b false], none)) = some r) :
    Yields tb C r ((execOp a.eval o).run P C.w) := by
  have rv := rep_eval I F hx
  rw [h] at rv
  obtain ⟨_, e1⟩ := rv
  have hH : C.H[id]? = some (.iter l pos) := by
    simp only [iterAt] at hi
    split at hi
    · rename_i l' p' hg; cases hi; exact hg
    · cases hi
  have hobj : C.w.heap[(C.φ id).blk]? = some (.stringIter ⟨l.toArray⟩ pos) := I.obj id _ hH
  have hsize : (⟨l.toArray⟩ : ByteArray).size = l.length := by simp [ByteArray.size]
  have hget : (getObj (C.φ id).blk).run P C.w = .ok (.stringIter ⟨l.toArray⟩ pos) C.w := by
    simp [getObj, Sem.run, hobj]
  by_cases hp : pos < l.length
  · rw [if_pos hp] at hr
    cases hr
    have hlt := I.lt id (lt_of_get hH)
    have hset : (setObj (C.φ id).blk (.stringIter ⟨l.toArray⟩ (pos + (Utf8.decode ⟨l.toArray⟩ pos).2))).run P C.w = .ok () { C.w with heap := C.w.heap.setIfInBounds (C.φ id).blk (.stringIter ⟨l.toArray⟩ (pos + (Utf8.decode ⟨l.toArray⟩ pos).2)) } := by
      simp [setObj, Sem.run, hobj]
    let D : Ctx := ⟨C.φ, C.H.set id (.iter l (pos + (Utf8.decode ⟨l.toArray⟩ pos).2)), { C.w with heap := C.w.heap.setIfInBounds (C.φ id).blk (.stringIter ⟨l.toArray⟩ (pos + (Utf8.decode ⟨l.toArray⟩ pos).2)) }⟩
    obtain ⟨X, hI⟩ := upd (D := D) I ⟨rfl, rfl, rfl⟩ hH rfl (fun _ _ => rfl) (by simp [D]) (fun b hb hne => by simp only [D]; rw [Array.getElem?_setIfInBounds_ne (Ne.symm hne)]) (.inl rfl) (fun _ => ⟨rfl, rfl⟩) (fun _ fz sz els h => by cases h)
    refine ⟨D, X, hI (by simp [Obj, D, hlt]), rfl, .inl ⟨.tuple #[.bool true, .int .i64 pos, .int .i32 (Utf8.decode ⟨l.toArray⟩ pos).1], ?_, ⟨[.bool true, .int .i64 pos, .int .i32 (Utf8.decode ⟨l.toArray⟩ pos).1], rfl, _, _, rfl, rfl, _, _, rfl, rfl, _, _, rfl, rfl, rfl⟩⟩⟩
    simp only [execOp, ho, e1, Instr.next, Sem.run_bind, hget, Result.andThen_ok, hsize, if_pos hp, hset, Sem.run_pure]
    rfl
  · rw [if_neg hp] at hr
    cases hr
    refine yields_pure I (v := .tuple #[.bool false]) ?_ ⟨[.bool false], rfl, _, _, rfl, rfl, rfl⟩
    simp only [execOp, ho, e1, Instr.next, Sem.run_bind, hget, Result.andThen_ok, hsize, if_neg hp, Sem.run_pure]
end
end Go.Proofs.YtobejhpigbllpaaGreatDoor.Am
