/-
  The keys of a roster in order, copies of maps: what the library does, at this program. Printed by mkks.py.
  The codes that the kernel runs are the program's. Printed by mkwalk.py.
  Each code is the program's. Printed by mkwalk.py.
  Plain laws: numbers, pieces of lists, a text split at a byte.
  What functions compute, and that they do. Printed by mkwalk.py.
  All walks. Printed by mkwalk.py.
  Plain laws: addresses, prefixes, endpoints: which may be, which is ahead.
  Plain laws: what the functions that split a text come to.
  Plain laws: texts without blanks at their ends, letters made small.
  Plain laws: two loops side by side; a text's lines with and without an end.
  Plain laws: runes of a text; one of two bytes in a text.
  Plain laws: lines of pairs; the law PairlineLines.
  Plain laws: the text of lines; the laws LinesSplit and LinesJoin.
  Plain laws: blocks of pairs; the laws PairlineBlocks, PairlineReads, PairlineMany.
  Plain laws: a number's digits; the text of an error.
  Plain laws: which configurations may be.
  Plain laws: what one may see of a state: ViewRight, ViewSame.
  The law.
-/
import Derived.Test.YtoegmdfkcaojlaaGreatProg
import Derived.RangeFuncGives
import Derived.Sort.MapsRangeIn
import Derived.Shelf.AbstractIn
import Derived.WalkKit
import Derived.OwnWalkIn
import Derived.TacticsInMore
import Derived.RegionIn
import Derived.LoopNIn
import Derived.LoopIn
import Derived.Maps.RangeRun
import Derived.Shelf.SlIter.Collect
import Derived.Shelf.SlSortCmp.WholeK
import Derived.Shelf.SlMaps.Clone
import Derived.Lib.Small
import Derived.Lib.Walk
import Derived.KernelRfl
import Derived.Test.YtoegmdfkcaojlaaGreatX3
section
set_option linter.unusedVariables false
set_option linter.unusedSimpArgs false
namespace Go.Proofs.YtoegmdfkcaojlaaGreat.Ks
section
open Go.Proofs Go.RowKit Go.Maps Go.ChangeMaps Go.Shelf
open Go.Proofs.YtoegmdfkcaojlaaGreat.Am (Stamped run_put heap_setCells heap_setCells_other size_setCells rest_setCells run_loadCells')
def GoodKey (sz : Nat) (e : MapEntry) : Prop := ∃ a : Array Value, e.key = .agg a ∧ a.size = sz ∧ ∀ x ∈ a.toList, x.oneCell' = true
theorem wpListIn_load {F : Fence} {n : Nat} {P : Program} {ops : Array Oper} {Q : Exit → Act → World → Prop} {rest : List Oper} {o : Oper} {a : Act} {w : World} (hg : o.guard = none) (t : TypeId) (x : Operand) (hop : o.op = .load t x) {u v : Value} (he : a.eval x = u)
    (hrun : (Instr.loadAt t u).run P w = .ok v w) (hK : wpListIn F n P ops Q rest (a.put o.dst v) w) : wpListIn F n P ops Q (o :: rest) a w := by
  refine wpListIn_plain hg fun K' hK' => ?_
  unfold Oper.wpIn
  refine ⟨?_, ?_⟩
  · simp [Oper.about, hop]
  · rw [Oper.semAt_plain F _ _ (by rw [hop]; intro c hc'; cases hc')]
    simp [execOp, hop, he, hrun, Result.andThen]
    exact hK' _ _ hK
theorem wpListIn_bsl {F : Fence} {n : Nat} {P : Program} {ops : Array Oper} {Q : Exit → Act → World → Prop} {rest : List Oper} {o : Oper} {a : Act} {w w' : World} (hg : o.guard = none) (t : TypeId) (x : Operand) (hop : o.op = .buildSlice t 1 #[(0, x)]) {u v : Value} (he : a.eval x = u)
    (hrun : (Instr.buildSlice t 1 #[(0, u)]).run P w = .ok v w') (hK : wpListIn F n P ops Q rest (a.put o.dst v) w') : wpListIn F n P ops Q (o :: rest) a w := by
  refine wpListIn_plain hg fun K' hK' => ?_
  unfold Oper.wpIn
  refine ⟨?_, ?_⟩
  · simp [Oper.about, hop]
  · rw [Oper.semAt_plain F _ _ (by rw [hop]; intro c hc'; cases hc')]
    simp only [execOp, hop, List.map_toArray, List.map_cons, List.map_nil, he, hrun, Sem.run_bind, Result.andThen_ok, Sem.run_pure]
    exact hK' _ _ hK
theorem boxK {P : Program} (w : World) (t : TypeId) (z ka : Array Value) (hz : z.size = ka.size) (h1 : ∀ x ∈ ka.toList, x.oneCell' = true) :
    ∃ w3 arr, (storeCells ⟨w.heap.size, 0, none⟩ ka.toList).run P (w.alloc (.cells z t)) = .ok () w3 ∧ (loadCellsFrom ⟨w.heap.size, 0, none⟩ 0 ka.size #[]).run P w3 = .ok ka w3 ∧ (∀ j u, ka.toList[j]? = some u → w3.cell? ((⟨w.heap.size, 0, none⟩ : Addr).add j) = some u) ∧ w.grownBy w3 none ∧ w3.heap.size = w.heap.size + 1 ∧ w3.heap[w.heap.size]? = some (.cells arr t (0, 0)) := by
  have hn : (w.alloc (.cells z t)).heap[w.heap.size]? = some (.cells z t (0, 0)) := (MapKept.heap_alloc w _).1
  have hf : ∀ j, (w.alloc (.cells z t)).frozen? ⟨w.heap.size, j, none⟩ = false := fun j => by unfold World.frozen?; rw [hn]; simp
  have hrun := run_put (P := P) hn (o := 0) (vs := ka.toList) (by simp [hz]) (fun j _ => by simp only [Nat.zero_add]; exact hf _) h1
  have hH : Am.Holds (w.alloc (.cells z t)) w.heap.size 0 z.toList := fun j v hj => by
    simp only [World.cell?, hn, Nat.zero_add]
    simpa using hj
  have hH'   := Am.Holds.put hn (vs := ka.toList) hH (o := 0) (by simp [hz]) (by simp)
  simp only [List.take_zero, List.nil_append, Nat.zero_add, Array.length_toList] at hH'
  rw [List.drop_eq_nil_of_le (by simp [hz]), List.append_nil] at hH'
  obtain ⟨arr, ha, _⟩ := heap_setCells (b := w.heap.size) ka.toList 0 hn
  refine ⟨_, arr, hrun, ?_, fun j u hj => by rw [Am.add_none]; exact hH' j u hj, ?_, ?_, ha⟩
  · have := run_loadCells' (P := P) hH'
    simpa [loadCells] using this
  · obtain ⟨r1, r2, r3⟩ := rest_setCells (b := w.heap.size) ka.toList 0 (w := w.alloc (.cells z t))
    refine ⟨r1, r2, r3, ?_, fun k hk _ => ?_⟩
    · rw [size_setCells]; simp
    · rw [heap_setCells_other (by omega)]
      exact (MapKept.heap_alloc w _).2 k hk
  · rw [size_setCells]; simp
structure Seen (ms : List MapEntry) (seen : Array Nat) (ks : List {e : MapEntry // e ∈ ms}) : Prop where
  born : seen.toList = ks.map (·.1.born)
  nd : (ks.map (·.1)).Nodup
  few : ks.length + (leftOf ms.toArray seen).size ≤ ms.length
theorem Seen.perm {ms : List MapEntry} {clock : Nat} (hst : Stamped ms clock) {seen : Array Nat} {ks : List {e : MapEntry // e ∈ ms}} (h : Seen ms seen ks) (h0 : (leftOf ms.toArray seen).size = 0) : (ks.map (·.1)).Perm ms := by
  have hnd : ms.Nodup := hst.2.imp (fun h e => h (by rw [e]))
  refine (List.perm_ext_iff_of_nodup h.nd hnd).2 fun x => ⟨fun hx => ?_, fun hx => ?_⟩
  · obtain ⟨y, _, rfl⟩ := List.mem_map.1 hx
    exact y.2
  · have h1 := all_seen ms.toArray seen h0 x hx
    have h2 : x.born ∈ seen.toList := by simpa using h1
    rw [h.born] at h2
    obtain ⟨y, hy, e⟩ := List.mem_map.1 h2
    refine List.mem_map.2 ⟨y, hy, ?_⟩
    exact Classical.byContradiction fun hne => by
      have : ∀ {l : List MapEntry}, l.Pairwise (fun a b => a.born ≠ b.born) → ∀ {a b : MapEntry}, a ∈ l → b ∈ l → a.born = b.born → a = b := by
        intro l hl a b ha hb hab
        induction l with
        | nil => cases ha
        | cons c l ih =>
          rw [List.pairwise_cons] at hl
          rcases List.mem_cons.1 ha with rfl | ha' <;> rcases List.mem_cons.1 hb with rfl | hb'
          · rfl
          · exact absurd hab (hl.1 _ hb')
          · exact absurd hab.symm (hl.1 _ ha')
          · exact ih hl.2 ha' hb'
      exact hne (this hst.2 y.2 hx e)
theorem Seen.step {ms : List MapEntry} {seen : Array Nat} {ks : List {e : MapEntry // e ∈ ms}} (h : Seen ms seen ks) {e : MapEntry} (he : e ∈ (leftOf ms.toArray seen).toList) (hm : e ∈ ms) : Seen ms (seen.push e.born) (ks ++ [⟨e, hm⟩]) := by
  have h1 := left_shrinks ms.toArray seen e he
  have h2 := h.few
  refine ⟨by simp [h.born], ?_, by simp only [List.length_append, List.length_cons, List.length_nil]; omega⟩
  rw [List.map_append, List.nodup_append]
  refine ⟨h.nd, by simp, ?_⟩
  intro a ha b hb
  simp only [List.map_cons, List.map_nil, List.mem_singleton] at hb
  subst hb
  intro e'
  subst e'
  have hs := (mem_left he).2
  have : a.born ∈ seen.toList := by
    rw [h.born]
    obtain ⟨y, hy, rfl⟩ := List.mem_map.1 ha
    exact List.mem_map.2 ⟨y, hy, rfl⟩
  have : a.born ∈ seen := by simpa using this
  simp [this] at hs
theorem Seen.lt {ms : List MapEntry} {seen : Array Nat} {ks : List {e : MapEntry // e ∈ ms}} (h : Seen ms seen ks) {e : MapEntry} (he : e ∈ (leftOf ms.toArray seen).toList) : ks.length < ms.length := by
  have h1 := left_shrinks ms.toArray seen e he
  have h2 := h.few
  omega
set_option maxRecDepth 100000 in
set_option maxHeartbeats 1000000 in
theorem k90 (F : Fence) (n : Nat) (h90 : F.fn 90) (hro : F.round = none) (hn : 1 ≤ n) (l Bm b : Nat) (ms : List MapEntry) (clock : Nat) (hst : Stamped ms clock) (hg : ∀ e ∈ ms, GoodKey 32 e)
    (J : List {e : MapEntry // e ∈ ms} → World → Prop)
    (hY : ∀ pre x W1, J pre W1 → pre.length < ms.length → YieldAt F (n - 1) Tryz.prog l #[x.1.key] W1 fun e W' => e = .returned (.bool true) ∧ J (pre ++ [x]) W' ∧ KeepsWalks W1 W')
    (W : World) (hJ : AbidesFrom W.heap.size J) (hm : W.cell? ⟨Bm, 0, none⟩ = some (.map (some b))) (hb : W.heap[b]? = some (.map ms.toArray clock)) (h0 : J [] W) :
    CallsIn F n Tryz.prog 90 #[.func (.yield l) #[] #[], .pointer (some ⟨Bm, 0, none⟩)] W fun e W' => (∃ v, e = .returned v) ∧ ∃ xs : List {e : MapEntry // e ∈ ms}, (xs.map (·.1)).Perm ms ∧ J xs W' := by
  have hblt : b < W.heap.size := (Array.getElem?_eq_some_iff.1 hb).1
  have hrange := run_range_map (P := Tryz.prog) W 84 23 3 b ms.toArray clock (by kernel_rfl) hb
  refine callsIn_of_wp Tryz.func90 rfl h90 ?_ hro
  simp only [Tryz.ntmps90, List.size_toArray, List.length_cons, List.length_nil, Nat.reduceAdd, Nat.reduceSub, Array.replicate_succ, Array.replicate_zero, List.push_toArray, List.append_toArray, List.nil_append, List.cons_append]
  gi_wp2
  have hr0 : (W.alloc (Obj.mapIter (some b) clock #[] clock)).heap[W.heap.size]? = some (.mapIter (some b) clock #[] clock) := (MapKept.heap_alloc W _).1
  have hb0 : (W.alloc (Obj.mapIter (some b) clock #[] clock)).heap[b]? = some (.map ms.toArray clock) := ((MapKept.heap_alloc W _).2 b hblt).trans hb
  have hg0 : W.grownBy (W.alloc (Obj.mapIter (some b) clock #[] clock)) none := World.grownBy_alloc W _ none
  generalize W.alloc (Obj.mapIter (some b) clock #[] clock) = w0 at hr0 hb0 hg0 ⊢
  gi_loopw [3] (fun _ wr => ∃ (seen : Array Nat) (c0 : Nat) (ks : List {e : MapEntry // e ∈ ms}), wr.heap[W.heap.size]? = some (.mapIter (some b) clock seen c0) ∧ clock ≤ c0 ∧ wr.heap[b]? = some (.map ms.toArray clock) ∧ Seen ms seen ks ∧ J ks wr)
    (fun _ wr => wr.rangeLeft b W.heap.size)
  case atStart => exact ⟨#[], clock, [], hr0, Nat.le_refl _, hb0, ⟨rfl, by simp, by simp only [leftOf, List.length_nil, Nat.zero_add]; exact Nat.le_trans (Array.size_filter_le) (by simp)⟩, hJ [] W w0 none h0 hg0 (fun r e => by cases e)⟩
  case round =>
    obtain ⟨seen, c0, ks, hr1, hc0, hb1, hS, hJs⟩ := hrel
    rcases run_next_at (P := Tryz.prog) wr 0 W.heap.size b clock c0 seen ms.toArray clock hr1 hb1 hst.1 hc0 with ⟨hz, hrun⟩ | ⟨e, he, w1, hal, hrun⟩
    · gi_wp2
      go_end0
      exact ⟨⟨_, rfl⟩, ks, hS.perm hst hz, hJs⟩
    · have hem : e ∈ ms := (mem_left he).1
      have hr1' : w1.heap[W.heap.size]? = some (.mapIter (some b) clock seen c0) := by rcases hal with rfl | rfl <;> exact hr1
      have hb1' : w1.heap[b]? = some (.map ms.toArray clock) := by rcases hal with rfl | rfl <;> exact hb1
      have hne : b ≠ W.heap.size := by omega
      have hset := MapKept.heap_set (o' := .mapIter (some b) clock (seen.push e.born) clock) hr1'
      have hb2 : (setBlock w1 W.heap.size (.mapIter (some b) clock (seen.push e.born) clock)).heap[b]? = some (.map ms.toArray clock) := (hset.2 b hne).trans hb1'
      have hr2 : (setBlock w1 W.heap.size (.mapIter (some b) clock (seen.push e.born) clock)).heap[W.heap.size]? = some (.mapIter (some b) clock (seen.push e.born) clock) := hset.1
      have hg2 : wr.grownBy (setBlock w1 W.heap.size (.mapIter (some b) clock (seen.push e.born) clock)) (some W.heap.size) := by
        rcases hal with rfl | rfl <;> exact ⟨rfl, rfl, rfl, by simp [setBlock], fun i _ hi => hset.2 i (fun e1 => hi (by rw [e1]))⟩
      have hnd : (ms.map (·.born)).Nodup := by rw [List.nodup_iff_pairwise_ne, List.pairwise_map]; exact hst.2
      have hen := run_entry_at (P := Tryz.prog) _ W.heap.size b clock seen ms.toArray clock e hr2 hb2 hem hnd
      have hJ2 := hJ ks wr _ (some W.heap.size) hJs hg2 (fun r e => by cases e; exact ⟨Nat.le_refl _, _, hr1, rfl⟩)
      clear hset
      generalize setBlock w1 W.heap.size (.mapIter (some b) clock (seen.push e.born) clock) = w2 at hrun hb2 hr2 hg2 hen hJ2 ⊢
      obtain ⟨ka, hka, hks, hko⟩ := hg e hem
      rw [hka] at hrun hen
      obtain ⟨w3, _, hst3, hld3, _, hg3, hs3, _⟩ := boxK (P := Tryz.prog) w2 23 #[Value.int IntKind.u8 0, Value.int IntKind.u8 0, Value.int IntKind.u8 0, Value.int IntKind.u8 0, Value.int IntKind.u8 0, Value.int IntKind.u8 0, Value.int IntKind.u8 0, Value.int IntKind.u8 0, Value.int IntKind.u8 0, Value.int IntKind.u8 0, Value.int IntKind.u8 0, Value.int IntKind.u8 0, Value.int IntKind.u8 0, Value.int IntKind.u8 0, Value.int IntKind.u8 0, Value.int IntKind.u8 0, Value.int IntKind.u8 0, Value.int IntKind.u8 0, Value.int IntKind.u8 0, Value.int IntKind.u8 0, Value.int IntKind.u8 0, Value.int IntKind.u8 0, Value.int IntKind.u8 0, Value.int IntKind.u8 0, Value.int IntKind.u8 0, Value.int IntKind.u8 0, Value.int IntKind.u8 0, Value.int IntKind.u8 0, Value.int IntKind.u8 0, Value.int IntKind.u8 0, Value.int IntKind.u8 0, Value.int IntKind.u8 0] ka (by rw [hks]; rfl) hko
      rw [hks] at hld3
      have hJ3 := hJ ks w2 w3 none hJ2 hg3 (fun r e => by cases e)
      have hlt2 : W.heap.size < w2.heap.size := (Array.getElem?_eq_some_iff.1 hr2).1
      have hr3 := (hg3.block W.heap.size hlt2 (by simp)).trans hr2
      have hb3 := (hg3.block b (by omega) (by simp)).trans hb2
      obtain ⟨fn, tmps, assign, body, hy, hR⟩ := hY ks ⟨e, hem⟩ w3 hJ3 (hS.lt he)
      simp only [hka] at hy
      have hld : (Instr.loadAt 23 (.pointer (some ⟨w2.heap.size, 0, none⟩))).run Tryz.prog w3 = .ok (.agg ka) w3 := by
        have h1 : ∀ w, (isAgg 23).run Tryz.prog w = .ok true w := fun w => by kernel_rfl
        have h2 : ∀ w, (sizeOf 23).run Tryz.prog w = .ok 32 w := fun w => by kernel_rfl
        simp only [Instr.loadAt, loadVar, Instr.sureAddr, Sem.run_bind, Sem.run_pure, Result.andThen_ok, h1, h2, if_true, loadCells, hld3]
      clear hld3
      gi_wp2_with (first | ((with_reducible refine wpListIn_load ?_ 23 (.tmp 3) ?_ ?_ hld ?_); rfl; rfl; rfl) | gi_in)
      refine hR.mono ?_
      rintro e' W4 ⟨rfl, hJ4, hk4⟩
      have hr4 := hk4.same _ _ hr3 rfl
      have hb4 := hk4.same _ _ hb3 rfl
      gi_wp2
      go_roundw
      case rel => exact ⟨_, _, ks ++ [⟨e, hem⟩], hr4, Nat.le_refl _, hb4, hS.step he hem, hJ4⟩
      case measure => simp only [World.rangeLeft, hr4, hb4, hr1, hb1]; exact left_shrinks _ _ e he
end
section
open Go.Proofs Go.RowKit Go.Maps Go.ChangeMaps Go.Shelf
def kc (e : MapEntry) : List Value := match e.key with
  | .agg a => a.toList
  | _ => []
def rowsK {ms : List MapEntry} (l : List {e : MapEntry // e ∈ ms}) : List Value := (l.map fun e => kc e.1).flatten
theorem rowsK_add {ms : List MapEntry} (l : List {e : MapEntry // e ∈ ms}) (x) : rowsK (l ++ [x]) = rowsK l ++ kc x.1 := by simp [rowsK]
abbrev zero23 : Value := .agg #[Value.int IntKind.u8 0, Value.int IntKind.u8 0, Value.int IntKind.u8 0, Value.int IntKind.u8 0, Value.int IntKind.u8 0, Value.int IntKind.u8 0, Value.int IntKind.u8 0, Value.int IntKind.u8 0, Value.int IntKind.u8 0, Value.int IntKind.u8 0, Value.int IntKind.u8 0, Value.int IntKind.u8 0, Value.int IntKind.u8 0, Value.int IntKind.u8 0, Value.int IntKind.u8 0, Value.int IntKind.u8 0, Value.int IntKind.u8 0, Value.int IntKind.u8 0, Value.int IntKind.u8 0, Value.int IntKind.u8 0, Value.int IntKind.u8 0, Value.int IntKind.u8 0, Value.int IntKind.u8 0, Value.int IntKind.u8 0, Value.int IntKind.u8 0, Value.int IntKind.u8 0, Value.int IntKind.u8 0, Value.int IntKind.u8 0, Value.int IntKind.u8 0, Value.int IntKind.u8 0, Value.int IntKind.u8 0, Value.int IntKind.u8 0]
theorem info23 : ∃ i, Tryz.prog.info? 23 = some i ∧ i.zero = some zero23 ∧ i.size = 32 ∧ i.bytes = 32 := by
  have h : (Tryz.prog.info? 23).map (fun i => (i.zero, i.size, i.bytes)) = some (some zero23, 32, 32) := by kernel_rfl
  cases hi : Tryz.prog.info? 23 with
  | none => rw [hi] at h; cases h
  | some i =>
    rw [hi] at h
    simp only [Option.map_some, Option.some.injEq, Prod.mk.injEq] at h
    exact ⟨i, rfl, h.1, h.2.1, h.2.2⟩
theorem cells_new (w : World) (ka : Array Value) (t : TypeId) : ∀ j u, ka.toList[j]? = some u → (w.alloc (.cells ka t)).cell? ((⟨w.heap.size, 0, none⟩ : Addr).add j) = some u := by
  intro j u hj
  have hn : (w.alloc (.cells ka t)).heap[w.heap.size]? = some (.cells ka t (0, 0)) := (MapKept.heap_alloc w _).1
  rw [Am.add_none]
  simp only [World.cell?, hn, Nat.zero_add]
  simpa using hj
theorem fill32 (ka : Array Value) (hks : ka.size = 32) (z : Array Value) (hz : z.size = 32) : Instr.fill (fun i => some (i * 32, 32)) z [(0, .agg ka)] = some ka := by
  have hc : (Value.agg ka).cells = ka := rfl
  unfold Instr.fill
  simp only [hc, hks, hz, Nat.zero_mul, Nat.zero_add, ne_eq, not_true_eq_false, gt_iff_lt, Nat.lt_irrefl, decide_false, Bool.or_self, Bool.false_eq_true, if_false]
  unfold Instr.fill
  congr 1
  rw [← Array.foldl_toList, Array.toList_zipIdx]
  apply Array.ext'
  have := Am.foldl_splice ka.toList 0 0 z (by simp [hks, hz])
  simp only [Nat.zero_add] at this
  rw [this]
  simp [hks, hz]
theorem run_bsl (ka : Array Value) (hks : ka.size = 32) (w : World) : (Instr.buildSlice 73 1 #[(0, .agg ka)]).run Tryz.prog w = .ok (.slice (some ⟨w.heap.size, 0, none⟩) 1 1) (w.alloc (.cells ka 23)) := by
  have hu := fun w => Am.run_underlying' (P := Tryz.prog) (t := 73) (d := .slice 23) (by kernel_rfl) w
  have h2 : ∀ w, (sizeOf 23).run Tryz.prog w = .ok 32 w := fun w => by kernel_rfl
  have h3 : ∀ w, (zeroValue 23).run Tryz.prog w = .ok zero23 w := fun w => by kernel_rfl
  have h4 := fill32 ka hks ((Array.range (1 * 32)).map fun i => zero23.cells[i % zero23.cells.size]!) (by simp)
  simp only [Instr.buildSlice, Sem.run_bind, hu, Result.andThen_ok, h2, show ¬ (1 * 32 > 2 ^ 24) by omega, if_false, show ¬ (1 * 32 = 0) by omega, h3, Sem.run_pure, h4, newRow, newObj]
  rfl
def apAssign : Code := Code.region 2
                    #[{ dst := some 5, op := Op.alloc 23, type := 0, pos := "iter.go:51", after := #[], guard := none },
                      { dst := none, op := Op.store 23 (Operand.tmp 5) (Operand.tmp 7), type := 0, pos := "iter.go:51",
                        after := #[{ on := 0, ground := Ground.data }, { on := 0, ground := Ground.phase }],
                        guard := none }]
                    false
def apBody : Code := Code.block 1
                    (Code.region 3
                      #[{ dst := some 8, op := Op.load 73 (Operand.tmp 2), type := 73, pos := "iter.go:52",
                          after := #[], guard := none },
                        { dst := some 9, op := Op.load 23 (Operand.tmp 5), type := 23, pos := "iter.go:52",
                          after := #[], guard := none },
                        { dst := some 10, op := Op.buildSlice 73 1 #[(0, Operand.tmp 9)], type := 73,
                          pos := "iter.go:52", after := #[{ on := 1, ground := Ground.data }], guard := none },
                        { dst := some 11,
                          op :=
                            Op.call
                              { callee := Callee.builtin Builtin.append, args := #[Operand.tmp 8, Operand.tmp 10],
                                argTypes := #[73, 73] },
                          type := 73, pos := "iter.go:52",
                          after := #[{ on := 0, ground := Ground.data }, { on := 2, ground := Ground.data }],
                          guard := none },
                        { dst := none, op := Op.store 73 (Operand.tmp 2) (Operand.tmp 11), type := 0,
                          pos := "iter.go:52",
                          after :=
                            #[{ on := 3, ground := Ground.data }, { on := 3, ground := Ground.chain },
                              { on := 0, ground := Ground.phase }, { on := 1, ground := Ground.phase },
                              { on := 2, ground := Ground.phase }, { on := 3, ground := Ground.phase }],
                          guard := none }]
                      false)
def apRec (fn : FuncId) (sv : Value) (Bs D : Nat) (st : LoopState) (pend : Option Code) : Loop :=
  { state := st, pending := pend, fn, tmps := #[.slice none 0 0, sv, .pointer (some ⟨Bs, 0, none⟩), undef, .slice none 0 0, undef, sv, undef, undef, undef, undef, undef, undef], params := #[7], assign := apAssign, body := apBody, defers := D }
structure ApAt {ms : List MapEntry} (w0 : World) (fn : FuncId) (sv : Value) (Bs l D : Nat) (ss : List {e : MapEntry // e ∈ ms}) (W : World) : Prop where
  box : ∃ v, W.heap[Bs]? = some (.cells #[v] 73 (0, 0)) ∧ W.ownsRow w0.heap.size 23 32 v ss.length (rowsK ss) ∧ (v = .slice none 0 0 ↔ ss = [])
  L : W.heap[l]? = some (.loop (apRec fn sv Bs D .ready none))
  K : W.heap[D]? = some (.deferred (some []))
  below : Below w0.heap.size w0 W
theorem ap_abides {ms : List MapEntry} (w0 : World) (fn : FuncId) (sv : Value) (Bs l D B : Nat) (hB : w0.heap.size ≤ B) : AbidesFrom B (ApAt (ms := ms) w0 fn sv Bs l D) := fun s W W' row h hg hrow => by
  have hrow' : ∀ r, row = some r → ∃ o : Obj, W.heap[r]? = some o ∧ o.isWalk = true := fun r e => (hrow r e).2
  obtain ⟨v, hv, hr, hn⟩ := h.box
  exact ⟨⟨v, (grownBy_keeps hg hrow' hv rfl).trans hv, ownsRow_abides_a hr hg hrow', hn⟩, (grownBy_keeps hg hrow' h.L rfl).trans h.L, (grownBy_keeps hg hrow' h.K rfl).trans h.K,
    h.below.grown hg h.below.size (fun k e => Nat.le_trans hB (hrow k e).1)⟩
end
section
open Go.Proofs Go.RowKit Go.Maps Go.ChangeMaps Go.Shelf
set_option maxRecDepth 100000 in
set_option maxHeartbeats 2000000 in
theorem apYield {ms : List MapEntry} (hgk : ∀ e ∈ ms, GoodKey 32 e) (F : Fence) (m : Nat) (w0 : World) (fn : FuncId) (hfn : F.fn fn) (sv : Value) (Bs l D : Nat) (hBl : Bs ≠ l) (hDl : D ≠ l) (hDB : D ≠ Bs) (h0B : w0.heap.size ≤ Bs) (h0l : w0.heap.size ≤ l)
    (N : Nat) (hN : N ≤ maxLen) (hNb : N * 32 ≤ 140737488355328) (ss : List {e : MapEntry // e ∈ ms}) (x : {e : MapEntry // e ∈ ms}) (W : World) (h : ApAt w0 fn sv Bs l D ss W) (hlen : ss.length < N) :
    YieldAt F m Tryz.prog l #[x.1.key] W fun e W' => e = .returned (.bool true) ∧ ApAt w0 fn sv Bs l D (ss ++ [x]) W' ∧ KeepsWalks W W' := by
  obtain ⟨i0, hi, hz0, hz1, hz2⟩ := info23
  obtain ⟨ka, hka, hks, hko⟩ := hgk x.1 x.2
  have hkc : kc x.1 = ka.toList := by rw [kc, hka]
  obtain ⟨v, hv, hrow, _⟩ := h.box
  rw [hka]
  refine ⟨fn, #[.slice none 0 0, sv, .pointer (some ⟨Bs, 0, none⟩), undef, .slice none 0 0, undef, sv, .agg ka, undef, undef, undef, undef, undef], apAssign, apBody, by simpa [apRec] using run_yield (P := Tryz.prog) (args := #[.agg ka]) h.L rfl, roundIn_of_wpIn hfn ?_⟩
  obtain ⟨w3, arr3, hst3, hld3, hcl3, hg3, hs3, hn3⟩ := boxK (P := Tryz.prog) W 23 #[Value.int IntKind.u8 0, Value.int IntKind.u8 0, Value.int IntKind.u8 0, Value.int IntKind.u8 0, Value.int IntKind.u8 0, Value.int IntKind.u8 0, Value.int IntKind.u8 0, Value.int IntKind.u8 0, Value.int IntKind.u8 0, Value.int IntKind.u8 0, Value.int IntKind.u8 0, Value.int IntKind.u8 0, Value.int IntKind.u8 0, Value.int IntKind.u8 0, Value.int IntKind.u8 0, Value.int IntKind.u8 0, Value.int IntKind.u8 0, Value.int IntKind.u8 0, Value.int IntKind.u8 0, Value.int IntKind.u8 0, Value.int IntKind.u8 0, Value.int IntKind.u8 0, Value.int IntKind.u8 0, Value.int IntKind.u8 0, Value.int IntKind.u8 0, Value.int IntKind.u8 0, Value.int IntKind.u8 0, Value.int IntKind.u8 0, Value.int IntKind.u8 0, Value.int IntKind.u8 0, Value.int IntKind.u8 0, Value.int IntKind.u8 0] ka (by rw [hks]; rfl) hko
  rw [hks] at hld3
  have hl0 : l < W.heap.size := (Array.getElem?_eq_some_iff.1 h.L).1
  have hv3 := (hg3.block Bs (Array.getElem?_eq_some_iff.1 hv).1 (by simp)).trans hv
  have hL3 := (hg3.block l hl0 (by simp)).trans h.L
  have hK3 := (hg3.block D (Array.getElem?_eq_some_iff.1 h.K).1 (by simp)).trans h.K
  have hrow3 : w3.ownsRow w0.heap.size 23 32 v ss.length (rowsK ss) := hrow.kept hg3 (Classical.em _)
  have hb3 : Below w0.heap.size w0 w3 := h.below.grown hg3 h.below.size (fun k e => by cases e)
  have hk3 : KeepsWalks W w3 := KeepsWalks.of_grownBy hg3 (fun j o e => by cases e)
  have hl : l < w3.heap.size := (Array.getElem?_eq_some_iff.1 hL3).1
  have hbr := run_beginRound (P := Tryz.prog) hL3 rfl
  obtain ⟨W2, hW2⟩ : ∃ W2, w3.putObj l (.loop { apRec fn sv Bs D .ready none with state := .busy }) = W2 := ⟨_, rfl⟩
  rw [hW2] at hbr
  have hg2 : w3.grownBy W2 (some l) := by rw [← hW2]; exact grownBy_putObj_a _ _ _
  have hk2 : KeepsWalks W W2 := hk3.trans (by rw [← hW2]; exact KeepsWalks.putObj _ hL3 rfl)
  have hv2 : W2.heap[Bs]? = some (.cells #[v] 73 (0, 0)) := by rw [← hW2]; exact (World.putObj_heap_other hBl).trans hv3
  have hK2 : W2.heap[D]? = some (.deferred (some [])) := by rw [← hW2]; exact (World.putObj_heap_other hDl).trans hK3
  have hL2 : W2.heap[l]? = some (.loop { apRec fn sv Bs D .ready none with state := .busy }) := by rw [← hW2]; exact World.putObj_heap_same hl
  have hrow2 : W2.ownsRow w0.heap.size 23 32 v ss.length (rowsK ss) := hrow3.kept hg2 (ownsRow_ne_a hrow3 hL3 (fun cur e => by cases e))
  have hb2 : Below w0.heap.size w0 W2 := hb3.grown hg2 hb3.size (fun k e => by cases e; exact h0l)
  have hW0l : W.heap.size ≠ l := by omega
  have hldW : (Instr.loadAt 23 (.pointer (some ⟨W.heap.size, 0, none⟩))).run Tryz.prog W2 = .ok (.agg ka) W2 := by
    have h1 : ∀ w, (isAgg 23).run Tryz.prog w = .ok true w := fun w => by kernel_rfl
    have h2 : ∀ w, (sizeOf 23).run Tryz.prog w = .ok 32 w := fun w => by kernel_rfl
    have h3 : (loadCellsFrom ⟨W.heap.size, 0, none⟩ 0 32 #[]).run Tryz.prog W2 = .ok ka W2 := by
      have := run_loadCells_list (P := Tryz.prog) W2 ⟨W.heap.size, 0, none⟩ ka.toList (fun j v hj => by
        have h9 := hcl3 j v hj
        rw [Am.add_none] at h9 ⊢
        rw [World.cell?_of_block (hg2.block W.heap.size (by omega) (by simpa using hW0l))]
        exact h9)
      simpa [loadCells, hks] using this
    simp only [Instr.loadAt, loadVar, Instr.sureAddr, Sem.run_bind, Sem.run_pure, Result.andThen_ok, h1, h2, if_true, loadCells, h3]
  obtain ⟨hc2, hf2⟩ := cell_of_box_a hv2
  have hBlt : Bs < W2.heap.size := (Array.getElem?_eq_some_iff.1 hv2).1
  have hl2 : l < W2.heap.size := (Array.getElem?_eq_some_iff.1 hL2).1
  have hDlt : D < W2.heap.size := (Array.getElem?_eq_some_iff.1 hK2).1
  have ne_of : ∀ {j : Nat} {o : Obj}, W2.heap[j]? = some o → (∀ cur, o ≠ .cells cur 23 (0, 0)) → some j ≠ v.ownBlock := fun hj hno => by
    rcases ownsRow_ne_a hrow2 hj hno with e | e
    · rw [e]; simp
    · exact fun e' => e e'.symm
  clear hW2 hld3
  unfold apAssign
  gi_wp2_with gi_round_op_a
  unfold apBody
  gi_wp2_with (first
    | ((with_reducible refine wpListIn_load ?_ 23 (.tmp 5) ?_ ?_ hldW ?_); rfl; rfl; rfl)
    | ((with_reducible refine wpListIn_bsl ?_ 73 (.tmp 9) ?_ ?_ (run_bsl ka hks W2) ?_); rfl; rfl; rfl)
    | (gi_at_builtin; refine wpListIn_append_own _ rfl _ _ 73 rfl w0.heap.size 23 i0 zero23 32 32 (by kernel_rfl) hi hz0 hz1 hz2 rfl (by decide) _ _ _ rfl (hrow2.alloc _) ⟨W2.heap.size, 0, none⟩ 1 1 ka.toList rfl (by simp [hks]) (cells_new _ _ _) hko (by omega) (by omega) (by have := hb2.size; simp; omega) ?_; intro v' w4 hown' hg4 hnil4
       have hv4 : w4.heap[Bs]? = some (.cells #[v] 73 (0, 0)) := (hg4.block Bs (by simp; omega) (ne_of hv2 (fun cur e => by cases e))).trans ((Below.heap_alloc _ _ Bs hBlt).trans hv2)
       obtain ⟨hc4, hf4⟩ := cell_of_box_a hv4
       obtain ⟨g', cap', cur', rfl, hbase', hgb', hr1, hr2, hr3, hr4⟩ : ∃ g' cap' cur', v' = .slice (some ⟨g', 0, none⟩) (ss.length + 1) cap' ∧ w0.heap.size ≤ g' ∧ w4.heap[g']? = some (.cells cur' 23 (0, 0)) ∧ ss.length + 1 ≤ cap' ∧ cap' ≤ maxLen ∧ cur'.size = cap' * 32 ∧ cur'.toList.take ((ss.length + 1) * 32) = rowsK ss ++ ka.toList := by
         rcases hown'.2 with ⟨_, h0⟩ | h'
         · exact absurd h0 (by omega)
         · exact h')
    | gi_round_op_a)
  have hg4' : (W2.alloc (.cells ka 23)).grownBy w4 v.ownBlock := hg4
  have hL4 : w4.heap[l]? = some (.loop { apRec fn sv Bs D .ready none with state := .busy }) := (hg4'.block l (by simp; omega) (ne_of hL2 (fun cur e => by cases e))).trans ((Below.heap_alloc _ _ l hl2).trans hL2)
  have hK4 : w4.heap[D]? = some (.deferred (some [])) := (hg4'.block D (by simp; omega) (ne_of hK2 (fun cur e => by cases e))).trans ((Below.heap_alloc _ _ D hDlt).trans hK2)
  obtain ⟨w5, hw5⟩ : ∃ w5, w4.setCell ⟨Bs, 0, none⟩ (.slice (some ⟨g', 0, none⟩) (ss.length + 1) cap') = w5 := ⟨_, rfl⟩
  rw [hw5]
  have hg5 : w4.grownBy w5 (some Bs) := by rw [← hw5]; exact grownBy_setCell0_a _ _ _
  have hv5 : w5.heap[Bs]? = some (.cells #[.slice (some ⟨g', 0, none⟩) (ss.length + 1) cap'] 73 (0, 0)) := by rw [← hw5]; exact heap_setCell_box_a _ hv4
  have hL5 : w5.heap[l]? = some (.loop { apRec fn sv Bs D .ready none with state := .busy }) := (hg5.block l (Array.getElem?_eq_some_iff.1 hL4).1 (fun e => hBl (by cases e; rfl))).trans hL4
  have hK5 : w5.heap[D]? = some (.deferred (some [])) := (hg5.block D (Array.getElem?_eq_some_iff.1 hK4).1 (fun e => hDB (by cases e; rfl))).trans hK4
  have hrow5 := hown'.kept hg5 (ownsRow_ne_a hown' hv4 (fun cur e => by cases e))
  have hb4 : Below w0.heap.size w0 w4 := (hb2.alloc hb2.size _).grown hg4' (by have := hb2.size; simp; omega) (fun k e => (hrow2.lt k e).1)
  have hb5 : Below w0.heap.size w0 w5 := hb4.grown hg5 hb4.size (fun k e => by cases e; exact h0B)
  have hk5 : KeepsWalks W w5 := ((hk2.trans (KeepsWalks.alloc _ _)).trans (KeepsWalks.of_grownBy hg4' (ownsRow_not_walk_a (hrow2.alloc _)))).trans (by rw [← hw5]; exact KeepsWalks.setCell _ _ _)
  clear hw5
  refine ⟨_, _, run_endRound none hL5, rfl, ⟨⟨_, (World.putObj_heap_other hBl).trans hv5, ?_, by simp⟩, World.putObj_heap_same (Array.getElem?_eq_some_iff.1 hL5).1, (World.putObj_heap_other hDl).trans hK5, hb5.grown (grownBy_putObj_a _ _ _) hb5.size (fun k e => by cases e; exact h0l)⟩, hk5.trans (KeepsWalks.putObj _ hL5 rfl)⟩
  have := hrow5.kept (grownBy_putObj_a w5 l (.loop { { apRec fn sv Bs D .ready none with state := .busy } with state := if (none : Option Code).isNone then .ready else .done, pending := none })) (ownsRow_ne_a hrow5 hL5 (fun cur e => by cases e))
  rw [rowsK_add, hkc]
  simpa using this
end
section
open Go.Proofs Go.RowKit Go.Maps Go.ChangeMaps Go.Shelf
set_option maxRecDepth 100000 in
set_option maxHeartbeats 2000000 in
theorem appendSeq_in {ms : List MapEntry} (hgk : ∀ e ∈ ms, GoodKey 32 e) (F : Fence) (n : Nat) (h100 : F.fn 100) (hro : F.round = none) (hn : 2 ≤ n) (g : Nat) (lb : Array Value) (hFg : F.fn g) (eg : ∀ args w, (callFunc g args).run Tryz.prog w = .ok (.enter g args) w)
    (S : List {e : MapEntry // e ∈ ms} → Prop) (N : Nat) (hN : N ≤ maxLen) (hNb : N * 32 ≤ 140737488355328) (w : World) (hseq : SeqGives F (n - 1) Tryz.prog g lb (fun x : {e : MapEntry // e ∈ ms} => x.1.key) S N w) :
    CallsIn F n Tryz.prog 100 #[.slice none 0 0, .func (.func g) #[] lb] w fun e w' => ∃ (v : Value) (ss : List {e : MapEntry // e ∈ ms}), e = .returned v ∧ S ss ∧ w'.ownsRow w.heap.size 23 32 v ss.length (rowsK ss) ∧ (v = .slice none 0 0 ↔ ss = []) ∧ Below w.heap.size w w' := by
  have h1 : 1 ≤ n := by omega
  refine callsIn_of_wp_marks Tryz.func100 rfl h100 ?_ hro
  simp only [Tryz.ntmps100, List.size_toArray, List.length_cons, List.length_nil, Nat.reduceAdd, Nat.reduceSub, Array.replicate_succ, Array.replicate_zero, List.push_toArray, List.append_toArray, List.nil_append, List.cons_append]
  gi_wp2
  refine wpIn_rangeFunc ?_
  intro fn hfn
  rw [hro]
  obtain ⟨W0, hW0⟩ : ∃ W0, w.alloc (.cells #[.slice none 0 0] 73) = W0 := ⟨_, rfl⟩
  have hs0 : W0.heap.size = w.heap.size + 1 := by rw [← hW0]; simp
  have hv0 : W0.heap[w.heap.size]? = some (.cells #[.slice none 0 0] 73 (0, 0)) := by rw [← hW0]; exact World.alloc_heap_new w _
  have hb0 : Below w.heap.size w W0 := by rw [← hW0]; exact (Below.refl _ w).alloc (Nat.le_refl _) _
  rw [hW0]
  obtain ⟨W1, hW1⟩ : ∃ W1, (W0.alloc (.deferred (some []))).alloc (.loop (apRec fn (.func (.func g) #[] lb) w.heap.size W0.heap.size .ready none)) = W1 := ⟨_, rfl⟩
  have hold : ∀ k, k < W0.heap.size → W1.heap[k]? = W0.heap[k]? := fun k hk => by
    rw [← hW1]; exact (Below.heap_alloc _ _ k (by simp; omega)).trans (Below.heap_alloc _ _ k hk)
  have hb1 : Below w.heap.size w W1 := by rw [← hW1]; exact (hb0.alloc hb0.size _).alloc (by have := hb0.size; simp; omega) _
  have hs1 : W1.heap.size = W0.heap.size + 2 := by rw [← hW1]; simp
  have hM : ApAt (ms := ms) w fn (.func (.func g) #[] lb) w.heap.size (W0.heap.size + 1) W0.heap.size [] W1 :=
    ⟨⟨_, (hold w.heap.size (by omega)).trans hv0, ⟨rfl, .inl ⟨rfl, rfl⟩⟩, by simp⟩,
     by rw [← hW1]; have := World.alloc_heap_new (W0.alloc (.deferred (some []))) (.loop (apRec fn (.func (.func g) #[] lb) w.heap.size W0.heap.size .ready none)); rwa [World.size_alloc] at this,
     by rw [← hW1]; exact (Below.heap_alloc _ _ _ (by simp)).trans (World.alloc_heap_new W0 _), hb1⟩
  refine ⟨W0.heap.size + 1, [{ target := .collected W0.heap.size, args := #[] }], W1, { target := .fn (.func g) lb, args := #[.func (.yield (W0.heap.size + 1)) #[] #[]] }, W1, g,
    #[.func (.yield (W0.heap.size + 1)) #[] #[]] ++ lb, W1, ?_, ?_, ?_, ?_, fun _ => h1, ?_⟩
  · rw [← hW1]; exact run_enterLoop_outer _ _ _ _ _
  · simp [resolve, go_sem]
  · intro f' hf'; simp [Target.leads] at hf'; subst hf'; exact hFg
  · simp [invoke, go_sem, eg]
  · refine (hseq (W0.heap.size + 1) (ApAt w fn (.func (.func g) #[] lb) w.heap.size (W0.heap.size + 1) W0.heap.size) W1 hb1 (ap_abides _ _ _ _ _ _ _ hb1.size)
      (fun pre x W hJ hl => apYield hgk F (n - 1 - 1) w fn hfn _ w.heap.size (W0.heap.size + 1) W0.heap.size (by omega) (by omega) (by omega) (Nat.le_refl _) (by omega) N hN hNb pre x W hJ hl) hM).mono ?_
    rintro e W2 ⟨⟨v0, rfl⟩, ss, hS, h2⟩
    obtain ⟨v, hv, hrow, hnil⟩ := h2.box
    have hend := run_endLoop (P := Tryz.prog) h2.L (by simp [apRec])
    obtain ⟨W3, hW3⟩ : ∃ W3, W2.putObj (W0.heap.size + 1) (.loop { apRec fn (.func (.func g) #[] lb) w.heap.size W0.heap.size .ready none with state := .exhausted }) = W3 := ⟨_, rfl⟩
    rw [hW3] at hend
    have hg3 : W2.grownBy W3 (some (W0.heap.size + 1)) := by rw [← hW3]; exact grownBy_putObj_a _ _ _
    have hv3 : W3.heap[w.heap.size]? = some (.cells #[v] 73 (0, 0)) := by rw [← hW3]; exact (World.putObj_heap_other (by omega)).trans hv
    have hK3 : W3.heap[W0.heap.size]? = some (.deferred (some [])) := by rw [← hW3]; exact (World.putObj_heap_other (by omega)).trans h2.K
    have hrow3 := hrow.kept hg3 (ownsRow_ne_a hrow h2.L (fun cur e => by cases e))
    have hb3 : Below w.heap.size w W3 := h2.below.grown hg3 h2.below.size (fun k e => by cases e; omega)
    obtain ⟨hc3, hf3⟩ := cell_of_box_a hv3
    clear hW3
    refine ⟨none, W3, hend, ?_⟩
    gi_wp2
    rw [← hs0]
    refine ⟨by simp, .inl ⟨_, _, rfl, run_takeDeferred hK3, ?_⟩⟩
    exact ⟨_, results_tmp rfl _ _ _, v, ss, rfl, hS, hrow3.kept (grownBy_putObj_a _ _ _) (ownsRow_ne_a hrow3 hK3 (fun cur e => by cases e)), hnil, hb3.grown (grownBy_putObj_a _ _ _) hb3.size (fun k e => by cases e; omega)⟩
set_option maxHeartbeats 1000000 in
theorem collect_in {ms : List MapEntry} (hgk : ∀ e ∈ ms, GoodKey 32 e) (F : Fence) (n : Nat) (h88 : F.fn 88) (h100 : F.fn 100) (hro : F.round = none) (hn : 3 ≤ n) (g : Nat) (lb : Array Value) (hFg : F.fn g) (eg : ∀ args w, (callFunc g args).run Tryz.prog w = .ok (.enter g args) w)
    (S : List {e : MapEntry // e ∈ ms} → Prop) (N : Nat) (hN : N ≤ maxLen) (hNb : N * 32 ≤ 140737488355328) (w : World) (hseq : SeqGives F (n - 1 - 1) Tryz.prog g lb (fun x : {e : MapEntry // e ∈ ms} => x.1.key) S N w) :
    CallsIn F n Tryz.prog 88 #[.func (.func g) #[] lb] w fun e w' => ∃ (v : Value) (ss : List {e : MapEntry // e ∈ ms}), e = .returned v ∧ S ss ∧ w'.ownsRow w.heap.size 23 32 v ss.length (rowsK ss) ∧ (v = .slice none 0 0 ↔ ss = []) ∧ Below w.heap.size w w' := by
  have h1 : 1 ≤ n := by omega
  have e100 : ∀ args w, (callFunc 100 args).run Tryz.prog w = .ok (.enter 100 args) w := enters_of Tryz.func100 (by kernel_rfl) rfl
  refine callsIn_of_wp Tryz.func88 rfl h88 ?_ hro
  simp only [Tryz.ntmps88, List.size_toArray, List.length_cons, List.length_nil, Nat.reduceAdd, Nat.reduceSub, Array.replicate_succ, Array.replicate_zero, List.push_toArray, List.append_toArray, List.nil_append, List.cons_append]
  gi_wp2_with (gi_at_fn 100; refine (appendSeq_in hgk F (n - 1) h100 hro (by omega) g lb hFg eg S N hN hNb _ hseq).mono ?_; rintro e w' ⟨v, ss, rfl, hS, hrow, hnil, hb⟩)
  go_ret
  exact ⟨v, ss, rfl, hS, hrow, hnil, hb⟩
theorem keys_gives {ms : List MapEntry} (hgk : ∀ e ∈ ms, GoodKey 32 e) {clock : Nat} (hst : Am.Stamped ms clock) (F : Fence) (n : Nat) (h90 : F.fn 90) (hro : F.round = none) (hn : 1 ≤ n) (Bm b : Nat) (w : World) (hBm : Bm < w.heap.size)
    (hm : w.cell? ⟨Bm, 0, none⟩ = some (.map (some b))) (hb : w.heap[b]? = some (.map ms.toArray clock)) :
    SeqGives F n Tryz.prog 90 #[.pointer (some ⟨Bm, 0, none⟩)] (fun x : {e : MapEntry // e ∈ ms} => x.1.key) (fun xs => (xs.map (·.1)).Perm ms) ms.length w := fun l J W hW hJ hY h0 =>
  k90 F n h90 hro hn l Bm b ms clock hst hgk J hY W hJ ((hW.cell (p := ⟨Bm, 0, none⟩) hBm).trans hm) ((hW.block b (Array.getElem?_eq_some_iff.1 hb).1).trans hb) h0
end
section
open Go.Proofs Go.RowKit Go.Maps Go.ChangeMaps Go.Shelf Go.Sort
theorem lt_of_cell {w : World} {b o : Nat} {v : Value} (h : w.cell? ⟨b, o, none⟩ = some v) : b < w.heap.size := by
  unfold World.cell? at h
  cases ho : w.heap[b]? with
  | none => simp only [ho] at h; cases h
  | some x => exact (Array.getElem?_eq_some_iff.1 ho).1
theorem heap_grow_old (w : World) (os : Array Obj) (k : Nat) (hk : k < w.heap.size) : (grow w os).heap[k]? = w.heap[k]? := by
  show (w.heap ++ os)[k]? = _
  rw [Array.getElem?_append_left hk]
theorem wpQuiet_val {P : Program} {ops : Array Oper} {C : World → Prop} {Q : Act → Prop} {a : Act} {o : Oper} {rest : List Oper} (hg : o.guard = none) {v : Value}
    (hrun : ∀ w, C w → (execOp a.eval o).run P w = .ok (.value v) w) (hK : wpQuiet P ops C Q rest (a.put o.dst v)) : wpQuiet P ops C Q (o :: rest) a := by
  refine wpQuiet_step fun K hK' => ?_
  rw [if_pos (by simp [Region.wanted, hg])]
  exact ⟨v, fun w hw => by rw [Oper.quietAt, hrun w hw]; exact ⟨rfl, rfl⟩, hK' _ hK⟩
theorem isNaN91 (x : Int) (w : World) : Calls Tryz.prog 91 #[.int .i64 x] w fun e w' => e = .returned (.bool false) ∧ w' = w := by
  go_enter Tryz.func91, Tryz.ntmps91
  go_wp2
  go_ret
  exact ⟨by simp, rfl⟩
set_option maxHeartbeats 1000000 in
theorem compare73 (x y : Int) (w : World) : Calls Tryz.prog 73 #[.int .i64 x, .int .i64 y] w fun e w' => e = .returned (.int .i64 (Lib.compareInt x y)) ∧ w' = w := by
  have e91 : ∀ args w, (callFunc 91 args).run Tryz.prog w = .ok (.enter 91 args) w := enters_of Tryz.func91 (by kernel_rfl) rfl
  go_enter Tryz.func73, Tryz.ntmps73
  go_wp2_with (go_at_call 91; refine (isNaN91 _ _).mono ?_; rintro e w' ⟨rfl, hw⟩; rw [hw])
  all_goals (go_ret; refine ⟨?_, rfl⟩; unfold Lib.compareInt; (repeat' split) <;> first | rfl | (exfalso; omega))
theorem run_ld23 {w : World} {b : Nat} {ka : Array Value} (hks : ka.size = 32) (h : w.heap[b]? = some (.cells ka 23 (0, 0))) : (Instr.loadAt 23 (.pointer (some ⟨b, 0, none⟩))).run Tryz.prog w = .ok (.agg ka) w := by
  have h1 : ∀ w, (isAgg 23).run Tryz.prog w = .ok true w := fun w => by kernel_rfl
  have h2 : ∀ w, (sizeOf 23).run Tryz.prog w = .ok 32 w := fun w => by kernel_rfl
  have h3 : (loadCellsFrom ⟨b, 0, none⟩ 0 32 #[]).run Tryz.prog w = .ok ka w := by
    have := run_loadCells_list (P := Tryz.prog) w ⟨b, 0, none⟩ ka.toList (fun j v hj => by
      rw [Am.add_none]
      simp only [World.cell?, h, Nat.zero_add]
      simpa using hj)
    simpa [loadCells, hks] using this
  simp only [Instr.loadAt, loadVar, Instr.sureAddr, Sem.run_bind, Sem.run_pure, Result.andThen_ok, h1, h2, if_true, loadCells, h3]
set_option maxRecDepth 100000 in
set_option maxHeartbeats 2000000 in
theorem cmp72 (W : World) (d rb mb : Nat) (o : Obj) (nx ny : Int) (ax ay : Array Value) (hsx : ax.size = 32) (hsy : ay.size = 32) (hd : W.cell? ⟨d, 0, none⟩ = some (.pointer (some ⟨rb, 0, none⟩))) (hr : W.cell? ⟨rb, 0, none⟩ = some (.map (some mb)))
    (hm : W.heap[mb]? = some o) (hlx : ∀ w : World, w.heap[mb]? = some o → (Instr.lookup 84 (.map (some mb)) (.agg ax) false).run Tryz.prog w = .ok (.int .i64 nx) w)
    (hly : ∀ w : World, w.heap[mb]? = some o → (Instr.lookup 84 (.map (some mb)) (.agg ay) false).run Tryz.prog w = .ok (.int .i64 ny) w) :
    Calls Tryz.prog 72 #[.agg ax, .agg ay, .pointer (some ⟨d, 0, none⟩)] W fun e w' => e = .returned (.int .i64 (Lib.compareInt nx ny)) ∧ ∃ q os', w' = grow (W.drewN q) os' := by
  have e73 : ∀ args w, (callFunc 73 args).run Tryz.prog w = .ok (.enter 73 args) w := enters_of Tryz.func73 (by kernel_rfl) rfl
  have hcc := fun W' => compare73 nx ny W'
  generalize Lib.compareInt nx ny = cr at hcc ⊢
  go_enter Tryz.func72, Tryz.ntmps72
  go_wp2
  obtain ⟨W1, hW1⟩ : ∃ W1, (W.alloc (.cells ax 23)).alloc (.cells ay 23) = W1 := ⟨_, rfl⟩
  have hs1 : W1.heap.size = W.heap.size + 2 := by rw [← hW1]; simp
  have hx1 : W1.heap[W.heap.size]? = some (.cells ax 23 (0, 0)) := by
    rw [← hW1]
    exact (Below.heap_alloc _ _ _ (by simp)).trans (MapKept.heap_alloc W _).1
  have hy1 : W1.heap[W.heap.size + 1]? = some (.cells ay 23 (0, 0)) := by
    rw [← hW1]
    have := (MapKept.heap_alloc (W.alloc (.cells ax 23)) (.cells ay 23)).1
    simpa using this
  have hold : ∀ k, k < W.heap.size → W1.heap[k]? = W.heap[k]? := fun k hk => by
    rw [← hW1]
    exact (Below.heap_alloc _ _ k (by simp; omega)).trans (Below.heap_alloc _ _ k hk)
  have hdl : d < W.heap.size := lt_of_cell hd
  have hrl : rb < W.heap.size := lt_of_cell hr
  have hml : mb < W.heap.size := (Array.getElem?_eq_some_iff.1 hm).1
  have hd1 := cell_grown (w := W1) (a := ⟨d, 0, none⟩) (by simp; omega) ((World.cell?_of_block (hold d hdl)).trans hd)
  have hr1 := cell_grown (w := W1) (a := ⟨rb, 0, none⟩) (by simp; omega) ((World.cell?_of_block (hold rb hrl)).trans hr)
  have hgh : ∀ n os k, k < W1.heap.size → (grow (W1.drewN n) os).heap[k]? = W1.heap[k]? := fun n os k hk => heap_grow_old (W1.drewN n) os k hk
  simp only [hW1]
  refine wp_region_quiet_grown (by kernel_rfl) (by kernel_rfl) ?_
  quiet_step (fail)
  quiet_step (fail)
  quiet_step (fail)
  quiet_step (fail)
  refine wpQuiet_val rfl (v := .agg ax) (fun w' hw => ?_) ?_
  · obtain ⟨⟨n, os⟩, rfl⟩ := hw
    have h := run_ld23 (w := grow (W1.drewN n) os) hsx ((hgh n os _ (by omega)).trans hx1)
    simp only [execOp, Sem.run_bind, Sem.run_pure]
    refine (congrArg (fun r => Result.andThen r _) h).trans rfl
  refine wpQuiet_val rfl (v := .int .i64 nx) (fun w' hw => ?_) ?_
  · obtain ⟨⟨n, os⟩, rfl⟩ := hw
    have h := hlx (grow (W1.drewN n) os) ((hgh n os _ (by omega)).trans ((hold mb hml).trans hm))
    simp only [execOp, Sem.run_bind, Sem.run_pure]
    refine (congrArg (fun r => Result.andThen r _) h).trans rfl
  quiet_step (fail)
  quiet_step (fail)
  quiet_step (fail)
  quiet_step (fail)
  refine wpQuiet_val rfl (v := .agg ay) (fun w' hw => ?_) ?_
  · obtain ⟨⟨n, os⟩, rfl⟩ := hw
    have h := run_ld23 (w := grow (W1.drewN n) os) hsy ((hgh n os _ (by omega)).trans hy1)
    simp only [execOp, Sem.run_bind, Sem.run_pure]
    refine (congrArg (fun r => Result.andThen r _) h).trans rfl
  refine wpQuiet_val rfl (v := .int .i64 ny) (fun w' hw => ?_) ?_
  · obtain ⟨⟨n, os⟩, rfl⟩ := hw
    have h := hly (grow (W1.drewN n) os) ((hgh n os _ (by omega)).trans ((hold mb hml).trans hm))
    simp only [execOp, Sem.run_bind, Sem.run_pure]
    refine (congrArg (fun r => Result.andThen r _) h).trans rfl
  quiet_step ((refine (hcc _).mono ?_; rintro e w' ⟨rfl, rfl⟩; exact ⟨rfl, ⟨_, _⟩, rfl⟩))
  quiet_step (fail)
  refine wpQuiet_nil ?_
  intro _ hw'
  obtain ⟨⟨nq, osq⟩, hw''⟩ := hw'
  subst hw''
  have hgr : ∀ n os, grow (W1.drewN n) os = grow (W.drewN n) (#[.cells ax 23, .cells ay 23] ++ os) := fun n os => by
    rw [← hW1, alloc_eq_grow, alloc_eq_grow, grow_grow]
    show grow (grow (W.drewN n) _) os = _
    rw [grow_grow]
    rfl
  go_wp2
  go_ret
  exact ⟨rfl, _, _, hgr _ _⟩
end
section
open Go.Proofs Go.RowKit Go.Maps Go.ChangeMaps Go.Shelf Go.Sort
theorem flat_get {β : Type} (f : β → List Value) (k : Nat) (hk0 : 0 < k) (hf : ∀ x, (f x).length = k) : ∀ (l : List β) (j : Nat), (l.map f).flatten[j]? = (l[j / k]?).bind fun x => (f x)[j % k]?
  | [], j => by simp
  | x :: l, j => by
    simp only [List.map_cons, List.flatten_cons]
    by_cases h : j < k
    · rw [List.getElem?_append_left (by rw [hf]; exact h), Nat.div_eq_of_lt h, Nat.mod_eq_of_lt h]
      rfl
    · have h' : k ≤ j := Nat.le_of_not_lt h
      rw [List.getElem?_append_right (by rw [hf]; exact h'), hf, flat_get f k hk0 hf l (j - k)]
      have e1 : j / k = (j - k) / k + 1 := by
        rw [Nat.div_eq j k, if_pos ⟨hk0, h'⟩]
      have e2 : j % k = (j - k) % k := Nat.mod_eq_sub_mod h'
      rw [e1, e2]
      simp
theorem flat_len {β : Type} (f : β → List Value) (k : Nat) (hf : ∀ x, (f x).length = k) : ∀ (l : List β), (l.map f).flatten.length = l.length * k
  | [] => by simp
  | x :: l => by simp only [List.map_cons, List.flatten_cons, List.length_append, hf, flat_len f k hf l, List.length_cons, Nat.add_mul, Nat.one_mul]; omega
section
variable {ms : List MapEntry}
abbrev Ent (ms : List MapEntry) := {e : MapEntry // e ∈ ms}
def encE (x : Ent ms) : List Value := kc x.1
theorem encE_len (hgk : ∀ e ∈ ms, GoodKey 32 e) (x : Ent ms) : (encE x).length = 32 := by
  obtain ⟨a, h1, h2, _⟩ := hgk x.1 x.2
  rw [encE, kc, h1]; simpa using h2
theorem encE_agg (hgk : ∀ e ∈ ms, GoodKey 32 e) (x : Ent ms) : ∃ a : Array Value, x.1.key = .agg a ∧ encE x = a.toList ∧ a.size = 32 ∧ ∀ v ∈ a.toList, v.oneCell' = true := by
  obtain ⟨a, h1, h2, h3⟩ := hgk x.1 x.2
  exact ⟨a, h1, by rw [encE, kc, h1], h2, h3⟩
theorem flatK_get [Inhabited (Ent ms)] (hgk : ∀ e ∈ ms, GoodKey 32 e) (d : Array (Ent ms)) (j : Nat) (hj : j < d.size * 32) : (d.toList.map encE).flatten[j]? = some (flatK encE 32 d)[j]! := by
  rw [flat_get encE 32 (by omega) (encE_len hgk), get_flatK _ _ _ _ hj]
  have h1 : j / 32 < d.size := by omega
  have h2 : j % 32 < 32 := Nat.mod_lt _ (by omega)
  rw [Array.getElem?_toList, Array.getElem?_eq_getElem h1]
  simp only [Option.bind_some]
  rw [getElem!_pos d (j / 32) h1]
  have h3 : j % 32 < (encE d[j / 32]).length := by rw [encE_len hgk]; exact h2
  rw [List.getElem?_eq_getElem h3, getElem!_pos (encE d[j / 32]) (j % 32) h3]
theorem holds_row [Inhabited (Ent ms)] (hgk : ∀ e ∈ ms, GoodKey 32 e) {W : World} {g : Nat} {cur : Array Value} {d : Array (Ent ms)} (hb : W.heap[g]? = some (.cells cur 23 (0, 0))) (ht : cur.toList.take (d.size * 32) = (d.toList.map encE).flatten) : HoldsK encE 32 W g 0 d := by
  intro j hj
  simp only [size_flatK] at hj
  constructor
  · simp only [World.cell?, hb, Nat.zero_add]
    have h := flatK_get hgk d j hj
    rw [← ht, List.getElem?_take, if_pos hj] at h
    simpa using h
  · unfold World.frozen?
    rw [hb]
    simp
theorem row_of_holds [Inhabited (Ent ms)] (hgk : ∀ e ∈ ms, GoodKey 32 e) {W : World} {g : Nat} {d : Array (Ent ms)} (h : HoldsK encE 32 W g 0 d) : ∀ j u, (d.toList.map encE).flatten[j]? = some u → W.cell? ⟨g, j, none⟩ = some u := by
  intro j u hu
  have hl : (d.toList.map encE).flatten.length = d.size * 32 := by
    simpa using flat_len encE 32 (encE_len hgk) d.toList
  have hj : j < d.size * 32 := by rw [← hl]; exact (List.getElem?_eq_some_iff.1 hu).1
  have h1 := (h j (by simpa using hj)).1
  rw [flatK_get hgk d j hj] at hu
  rw [Nat.zero_add] at h1
  rw [h1, ← hu]
  rfl
theorem grown_sortK [Inhabited (Ent ms)] {w : World} {g n : Nat} {os : Array Obj} (d : Array (Ent ms)) : w.grownBy (sortWorldK encE 32 w g 0 n d os) (some g) := by
  refine ⟨rfl, rfl, rfl, by simp [sortWorldK, putRowK, grow, putRow, mapBlock, Sort.ahead], fun k hk hne => ?_⟩
  unfold sortWorldK putRowK
  rw [heap_grow_old _ _ _ (by simpa [putRow, mapBlock, Sort.ahead] using hk)]
  have : g ≠ k := fun e => hne (by rw [e])
  simp [putRow, mapBlock, Sort.ahead, Array.getElem?_modify, this]
theorem ltN (num : MapEntry → Int) (x y : Ent ms) : ltOf (fun x y : Ent ms => Lib.compareInt (num x.1) (num y.1)) x y = decide (num x.1 < num y.1) := by
  unfold ltOf Lib.compareInt
  by_cases h1 : num x.1 < num y.1
  · simp [h1]
  · by_cases h2 : num y.1 < num x.1 <;> simp [h1, h2]
theorem swoN (num : MapEntry → Int) : SWO (ltOf fun x y : Ent ms => Lib.compareInt (num x.1) (num y.1)) :=
  ⟨fun x => by rw [ltN]; simp, fun x y z h1 h2 => by rw [ltN] at *; simp at *; omega, fun x y z h1 h2 => by rw [ltN] at *; simp at *; omega⟩
end
end
section
open Go.Shelf Go.Proofs
def ren_sort : Ren := ⟨fun | 6 => 89 | 14 => 101 | 15 => 102 | 20 => 110 | 21 => 111 | 22 => 112 | 23 => 113 | 24 => 114 | 25 => 115 | 26 => 116 | 27 => 117 | 28 => 118 | 29 => 119 | 46 => 120 | 47 => 121 | 48 => 122 | 49 => 123 | 50 => 124 | 57 => 125 | n => n, fun | 0 => 0 | 3 => 3 | 4 => 4 | 5 => 5 | 9 => 9 | 22 => 73 | 24 => 23 | 25 => 124 | 39 => 145 | 45 => 155 | 46 => 156 | 50 => 92 | 53 => 24 | 55 => 37 | 66 => 163 | 70 => 167 | 76 => 169 | 77 => 170 | n => n, fun n => n⟩
theorem laid_sort : SlLaysF0.n6 Tryz.prog ren_sort where
  mixed := by kernel_rfl
  f6 := ⟨"slices.SortFunc[[]crawlway/api.Key,crawlway/api.Key]", by decide, Tryz.func89.trans (congrArg some (by kernel_rfl))⟩
  f14 := ⟨"slices.pdqsortCmpFunc[crawlway/api.Key]", by decide, Tryz.func101.trans (congrArg some (by kernel_rfl))⟩
  f15 := Tryz.func102.trans (congrArg some (by kernel_rfl))
  f20 := ⟨"slices.insertionSortCmpFunc[crawlway/api.Key]", by decide, Tryz.func110.trans (congrArg some (by kernel_rfl))⟩
  f21 := ⟨"slices.heapSortCmpFunc[crawlway/api.Key]", by decide, Tryz.func111.trans (congrArg some (by kernel_rfl))⟩
  f22 := ⟨"slices.breakPatternsCmpFunc[crawlway/api.Key]", by decide, Tryz.func112.trans (congrArg some (by kernel_rfl))⟩
  f23 := ⟨"slices.choosePivotCmpFunc[crawlway/api.Key]", by decide, Tryz.func113.trans (congrArg some (by kernel_rfl))⟩
  f24 := ⟨"slices.reverseRangeCmpFunc[crawlway/api.Key]", by decide, Tryz.func114.trans (congrArg some (by kernel_rfl))⟩
  f25 := ⟨"slices.partialInsertionSortCmpFunc[crawlway/api.Key]", by decide, Tryz.func115.trans (congrArg some (by kernel_rfl))⟩
  f26 := ⟨"slices.partitionEqualCmpFunc[crawlway/api.Key]", by decide, Tryz.func116.trans (congrArg some (by kernel_rfl))⟩
  f27 := ⟨"slices.partitionCmpFunc[crawlway/api.Key]", by decide, Tryz.func117.trans (congrArg some (by kernel_rfl))⟩
  f28 := Tryz.func118.trans (congrArg some (by kernel_rfl))
  f29 := Tryz.func119.trans (congrArg some (by kernel_rfl))
  f46 := ⟨"slices.siftDownCmpFunc[crawlway/api.Key]", by decide, Tryz.func120.trans (congrArg some (by kernel_rfl))⟩
  f47 := Tryz.func121.trans (congrArg some (by kernel_rfl))
  f48 := Tryz.func122.trans (congrArg some (by kernel_rfl))
  f49 := ⟨"slices.medianAdjacentCmpFunc[crawlway/api.Key]", by decide, Tryz.func123.trans (congrArg some (by kernel_rfl))⟩
  f50 := ⟨"slices.medianCmpFunc[crawlway/api.Key]", by decide, Tryz.func124.trans (congrArg some (by kernel_rfl))⟩
  f57 := ⟨"slices.order2CmpFunc[crawlway/api.Key]", by decide, Tryz.func125.trans (congrArg some (by kernel_rfl))⟩
  t0 := Tryz.underlying0
  a0 := Tryz.isAgg0
  z0 := Tryz.sizeOf0
  v0 := Tryz.zeroValue0
  t3 := Tryz.underlying3
  a3 := Tryz.isAgg3
  z3 := Tryz.sizeOf3
  v3 := Tryz.zeroValue3
  t4 := Tryz.underlying4
  a4 := Tryz.isAgg4
  z4 := Tryz.sizeOf4
  v4 := Tryz.zeroValue4
  t5 := Tryz.underlying5
  a5 := Tryz.isAgg5
  z5 := Tryz.sizeOf5
  v5 := Tryz.zeroValue5
  t9 := Tryz.underlying9
  a9 := Tryz.isAgg9
  z9 := Tryz.sizeOf9
  v9 := Tryz.zeroValue9
  t22 := Tryz.underlying73
  a22 := Tryz.isAgg73
  z22 := Tryz.sizeOf73
  v22 := Tryz.zeroValue73
  t25 := Tryz.underlying124
  a25 := Tryz.isAgg124
  z25 := Tryz.sizeOf124
  v25 := Tryz.zeroValue124
  t39 := Tryz.underlying145
  a39 := Tryz.isAgg145
  z39 := Tryz.sizeOf145
  v39 := Tryz.zeroValue145
  t45 := Tryz.underlying155
  a45 := Tryz.isAgg155
  z45 := Tryz.sizeOf155
  v45 := Tryz.zeroValue155
  t46 := Tryz.underlying156
  a46 := Tryz.isAgg156
  z46 := Tryz.sizeOf156
  v46 := Tryz.zeroValue156
  t50 := Tryz.underlying92
  a50 := Tryz.isAgg92
  z50 := Tryz.sizeOf92
  v50 := Tryz.zeroValue92
  t53 := Tryz.underlying24
  a53 := Tryz.isAgg24
  z53 := Tryz.sizeOf24
  v53 := Tryz.zeroValue24
  t55 := Tryz.underlying37
  a55 := Tryz.isAgg37
  z55 := Tryz.sizeOf37
  v55 := Tryz.zeroValue37
  t66 := Tryz.underlying163
  a66 := Tryz.isAgg163
  z66 := Tryz.sizeOf163
  v66 := Tryz.zeroValue163
  t70 := Tryz.underlying167
  a70 := Tryz.isAgg167
  z70 := Tryz.sizeOf167
  v70 := Tryz.zeroValue167
  t76 := Tryz.underlying169
  a76 := Tryz.isAgg169
  z76 := Tryz.sizeOf169
  v76 := Tryz.zeroValue169
  t77 := Tryz.underlying170
  a77 := Tryz.isAgg170
  z77 := Tryz.sizeOf170
  v77 := Tryz.zeroValue170
end
section
open Go.Proofs Go.RowKit Go.Maps Go.ChangeMaps Go.Shelf Go.Sort
set_option maxHeartbeats 2000000 in
set_option maxRecDepth 100000 in
theorem ins_nil (c : Value) (w : World) : Calls Tryz.prog 110 #[.slice none 0 0, .int .i64 0, .int .i64 0, c] w fun e w' => e = .returned (.tuple #[]) ∧ w' = w := by
  go_enter Tryz.func110, Tryz.ntmps110
  go_wp2
  refine wp_loop_once ?_
  go_wp2
  go_end0
  exact ⟨rfl, rfl⟩
set_option maxHeartbeats 2000000 in
set_option maxRecDepth 100000 in
theorem pdq_nil (c : Value) (w : World) : Calls Tryz.prog 101 #[.slice none 0 0, .int .i64 0, .int .i64 0, .int .i64 0, c] w fun e w' => e = .returned (.tuple #[]) ∧ w' = w := by
  have e110 : ∀ args w, (callFunc 110 args).run Tryz.prog w = .ok (.enter 110 args) w := enters_of Tryz.func110 (by kernel_rfl) rfl
  go_enter Tryz.func101, Tryz.ntmps101
  go_wp2
  refine wp_loop_once ?_
  go_wp2_with (go_at_call 110; refine (ins_nil _ _).mono ?_; rintro e w' ⟨rfl, rfl⟩)
  refine bodyPost_ret (results_none rfl _ _ _) rfl ?_
  exact ⟨rfl, rfl⟩
set_option maxHeartbeats 2000000 in
theorem sort_nil (c : Value) (w : World) : Calls Tryz.prog 89 #[.slice none 0 0, c] w fun e w' => e = .returned (.tuple #[]) ∧ w' = w := by
  have e101 : ∀ args w, (callFunc 101 args).run Tryz.prog w = .ok (.enter 101 args) w := enters_of Tryz.func101 (by kernel_rfl) rfl
  have e102 : ∀ args w, (callFunc 102 args).run Tryz.prog w = .ok (.enter 102 args) w := enters_of laid_sort.f15 (by kernel_rfl) rfl
  have hl : Calls Tryz.prog 102 #[.int .u64 0] w fun e w' => e = .returned (.int .i64 0) ∧ w' = w := by
    have h := Any.bits_Len (SlLaysF0.n15.bits (P := Tryz.prog) (ρ := ren_sort) { laid_sort with }) 0 w (by omega) (by omega)
    exact h
  go_enter Tryz.func89, Tryz.ntmps89
  go_wp2_with (first | (go_at_call 102; refine hl.mono ?_; rintro e w' ⟨rfl, rfl⟩) | (go_at_call 101; refine (pdq_nil _ _).mono ?_; rintro e w' ⟨rfl, rfl⟩))
  go_end0
  exact ⟨rfl, rfl⟩
end
section
open Go.Proofs Go.RowKit Go.Maps Go.ChangeMaps Go.Shelf Go.Sort
theorem cmpLays {ms : List MapEntry} (hgk : ∀ e ∈ ms, GoodKey 32 e) {clock : Nat} (num : MapEntry → Int) (w : World) (g size mb d rb : Nat)
    (hm : w.heap[mb]? = some (.map ms.toArray clock)) (hd : w.cell? ⟨d, 0, none⟩ = some (.pointer (some ⟨rb, 0, none⟩))) (hr : w.cell? ⟨rb, 0, none⟩ = some (.map (some mb)))
    (hl : ∀ e ∈ ms, ∀ a, e.key = .agg a → ∀ w : World, w.heap[mb]? = some (.map ms.toArray clock) → (Instr.lookup 84 (.map (some mb)) (.agg a) false).run Tryz.prog w = .ok (.int .i64 (num e)) w)
    (h1 : mb ≠ g) (h2 : d ≠ g) (h3 : rb ≠ g) [Inhabited (Ent ms)] :
    CmpLays Tryz.prog 72 #[.pointer (some ⟨d, 0, none⟩)] (encE (ms := ms)) 32 (fun x y => Lib.compareInt (num x.1) (num y.1)) g 0 size w := by
  intro m os dk hs x y
  obtain ⟨ax, hax, hex, hsx, _⟩ := encE_agg hgk x
  obtain ⟨ay, hay, hey, hsy, _⟩ := encE_agg hgk y
  have hg := grown_sortK (w := w) (g := g) (n := m) (os := os) dk
  rw [hex, hey]
  have hb : ∀ k, k < w.heap.size → k ≠ g → (sortWorldK encE 32 w g 0 m dk os).heap[k]? = w.heap[k]? := fun k hk hne => hg.block k hk (by simpa using hne)
  have := cmp72 (sortWorldK encE 32 w g 0 m dk os) d rb mb (.map ms.toArray clock) (num x.1) (num y.1) ax ay hsx hsy
    ((World.cell?_of_block (hb d (lt_of_cell hd) h2)).trans hd) ((World.cell?_of_block (hb rb (lt_of_cell hr) h3)).trans hr)
    ((hb mb (Array.getElem?_eq_some_iff.1 hm).1 h1).trans hm) (hl x.1 x.2 ax hax) (hl y.1 y.2 ay hay)
  simpa using this
set_option maxHeartbeats 2000000 in
theorem sortedK {ms : List MapEntry} (hgk : ∀ e ∈ ms, GoodKey 32 e) {clock : Nat} (hst : Am.Stamped ms clock) (num : MapEntry → Int) (W : World) (B mb d rb : Nat) (hlen : ms.length ≤ 1000)
    (hB : W.cell? ⟨B, 0, none⟩ = some (.map (some mb))) (hm : W.heap[mb]? = some (.map ms.toArray clock)) (hd : W.cell? ⟨d, 0, none⟩ = some (.pointer (some ⟨rb, 0, none⟩))) (hr : W.cell? ⟨rb, 0, none⟩ = some (.map (some mb)))
    (hl : ∀ e ∈ ms, ∀ a, e.key = .agg a → ∀ w : World, w.heap[mb]? = some (.map ms.toArray clock) → (Instr.lookup 84 (.map (some mb)) (.agg a) false).run Tryz.prog w = .ok (.int .i64 (num e)) w) :
    Calls Tryz.prog 70 #[.func (.func 90) #[] #[.pointer (some ⟨B, 0, none⟩)], .func (.func 72) #[] #[.pointer (some ⟨d, 0, none⟩)]] W fun e w' => ∃ (v : Value) (L : List MapEntry), e = .returned v ∧ L.Perm ms ∧ L.Pairwise (fun a b => num a ≤ num b) ∧
      ((L = [] ∧ v = .slice none 0 0) ∨ ∃ g cap, v = .slice (some ⟨g, 0, none⟩) L.length cap ∧ L ≠ [] ∧ L.length ≤ cap ∧ W.heap.size ≤ g ∧ g < w'.heap.size ∧ ∀ j u, (L.map kc).flatten[j]? = some u → w'.cell? ⟨g, j, none⟩ = some u) ∧ RowKit.Below W.heap.size W w' := by
  have e88 : ∀ args w, (callFunc 88 args).run Tryz.prog w = .ok (.enter 88 args) w := enters_of Tryz.func88 (by kernel_rfl) rfl
  have e89 : ∀ args w, (callFunc 89 args).run Tryz.prog w = .ok (.enter 89 args) w := enters_of Tryz.func89 (by kernel_rfl) rfl
  have e90 : ∀ args w, (callFunc 90 args).run Tryz.prog w = .ok (.enter 90 args) w := enters_of Tryz.func90 (by kernel_rfl) rfl
  have e72 : ∀ args w, (callFunc 72 args).run Tryz.prog w = .ok (.enter 72 args) w := enters_of Tryz.func72 (by kernel_rfl) rfl
  have hcol := callsIn_wide.1 (collect_in hgk Fence.wide 3 trivial trivial rfl (by omega) 90 #[.pointer (some ⟨B, 0, none⟩)] trivial e90 (fun xs => (xs.map (·.1)).Perm ms) ms.length (by simp only [maxLen]; omega) (by omega) W
    (keys_gives hgk hst Fence.wide 1 trivial rfl (by omega) B mb W (lt_of_cell hB) hB hm))
  go_enter Tryz.func70, Tryz.ntmps70
  go_wp2_with (go_at_call 88; refine hcol.mono ?_; rintro e w1 ⟨v, ss, rfl, hS, hrow, hnil, hb⟩)
  have hm1 : w1.heap[mb]? = some (.map ms.toArray clock) := (hb.block mb (Array.getElem?_eq_some_iff.1 hm).1).trans hm
  have hd1 := (hb.cell (p := ⟨d, 0, none⟩) (lt_of_cell hd)).trans hd
  have hr1 := (hb.cell (p := ⟨rb, 0, none⟩) (lt_of_cell hr)).trans hr
  rcases hrow.2 with ⟨rfl, hz⟩ | ⟨g, cap, cur, rfl, hbase, hgb, r1, r2, r3, r4⟩
  · have hss : ss = [] := List.eq_nil_of_length_eq_zero hz
    subst hss
    go_wp2_with (go_at_call 89; refine (sort_nil _ w1).mono ?_; rintro e w' ⟨rfl, rfl⟩)
    go_ret
    exact ⟨_, [], rfl, by simpa using hS, .nil, .inl ⟨rfl, rfl⟩, hb⟩
  · cases ss with
    | nil => exact absurd (hnil.2 rfl) (by simp)
    | cons s0 sr =>
      generalize hss : s0 :: sr = ss at *
      haveI : Inhabited (Ent ms) := ⟨s0⟩
      have hH : HoldsK encE 32 w1 g 0 ss.toArray := holds_row hgk hgb (by simpa [rowsK, encE] using r4)
      have hC := cmpLays hgk num w1 g ss.toArray.size mb d rb hm1 hd1 hr1 hl (by have := (Array.getElem?_eq_some_iff.1 hm).1; omega) (by have := lt_of_cell hd; omega) (by have := lt_of_cell hr; omega)
      have hsl : ss.length ≤ 1000 := by have := hS.length_eq; simp at this; omega
      have hcon := AnyQ.slices_SortFunc laid_sort 32 (fun w => by kernel_rfl) (fun w => by kernel_rfl) encE (encE_len hgk) (fun x v hv => by obtain ⟨a, _, h2, _, h4⟩ := encE_agg hgk x; rw [h2] at hv; exact h4 v hv) (fun x y : Ent ms => Lib.compareInt (num x.1) (num y.1)) (swoN num) 72 #[.pointer (some ⟨d, 0, none⟩)] g 0 cap ss.toArray w1 e72 hC hH (Array.getElem?_eq_some_iff.1 hgb).1 (by simp; omega)
      change Calls Tryz.prog 89 _ _ _ at hcon
      simp only [List.size_toArray] at hcon
      have keep : ∀ (d' : Array (Ent ms)) (n : Nat) (os : Array Obj), d'.size = ss.toArray.size → HoldsK encE 32 (sortWorldK encE 32 w1 g 0 n d' os) g 0 d' := fun d' n os h => holdsK_sortWorldK_c encE 32 w1 g 0 ss.toArray d' n os hH (Array.getElem?_eq_some_iff.1 hgb).1 h
      clear hH hC
      go_wp2_with (go_at_call 89; refine hcon.mono ?_; rintro e w' ⟨rfl, d', n, os, hp, hs, rfl⟩)
      go_ret
      obtain ⟨hp1, _, hp3⟩ := hp
      have hK := keep d' n os hp1
      have hsz : d'.size = ss.length := by simpa using hp1
      have hg := grown_sortK (w := w1) (g := g) (n := n) (os := os) d'
      refine ⟨_, d'.toList.map (·.1), rfl, ?_, ?_, .inr ⟨g, cap, by simp [hsz], fun e => by have := congrArg List.length e; simp [hsz, ← hss] at this, by simp [hsz]; omega, hbase, ?_, ?_⟩, hb.grown hg hb.size (fun k e => by cases e; exact hbase)⟩
      · have h1 : (d'.extract 0 ss.length).toList = d'.toList := by rw [← hsz]; simp
        have h2 : (ss.toArray.extract 0 ss.length).toList = ss := by simp
        rw [h1, h2] at hp3
        exact (hp3.map _).trans hS
      · rw [List.pairwise_map, List.pairwise_iff_getElem]
        intro i j hi hj hij
        simp only [Array.length_toList] at hi hj
        have := hs i j (Nat.zero_le _) hij (by omega)
        rw [ltN, getElem!_pos d' i hi, getElem!_pos d' j hj] at this
        simp only [Array.getElem_toList]
        have := of_decide_eq_false this
        omega
      · exact Nat.lt_of_lt_of_le (Array.getElem?_eq_some_iff.1 hgb).1 hg.size
      · intro j u hj
        rw [List.map_map] at hj
        exact row_of_holds hgk hK j u hj
end
section
open Go.RowKit
set_option maxHeartbeats 2000000 in
set_option maxRecDepth 1000000 in
theorem cc_maps_Clone_map_api_Key_int_api_Key_int (b : Nat) (es : Array MapEntry) (clock : Nat) (w : World) (hb : w.heap[b]? = some (.map es clock)) :
    Calls Tryz.prog 79 #[.map (some b)] w fun e w' => e = .returned (.map (some w.heap.size)) ∧ w' = w.alloc (.map es clock) := by
  have hq := fun w => run_eql_map_nil_sl (P := Tryz.prog) w 84 23 3 (some b) (by kernel_rfl)
  go_enter Tryz.func79, Tryz.ntmps79
  go_wp2
  rw [run_callFunc_extern Tryz.func81 (by kernel_rfl) (by kernel_rfl) (by kernel_rfl) (e := Extern.MapsClone.clone) (by kernel_rfl), run_maps_clone_sl w 84 hb]
  simp only [Result.andThen]
  rw [Oper.upon_value]
  go_wp2
  rw [run_typeAssert_map_sl _ 84 20 23 3 _ (by kernel_rfl)]
  simp only [Result.andThen]
  rw [Oper.upon_value]
  go_wp2
  go_ret
  exact ⟨rfl, rfl⟩
set_option maxHeartbeats 2000000 in
set_option maxRecDepth 1000000 in
theorem cn_maps_Clone_map_api_Key_int_api_Key_int (w : World) : Calls Tryz.prog 79 #[.map none] w fun e w' => e = .returned (.map none) ∧ w' = w := by
  have hq := fun w => run_eql_map_nil_sl (P := Tryz.prog) w 84 23 3 none (by kernel_rfl)
  go_enter Tryz.func79, Tryz.ntmps79
  go_wp2
  go_ret
  exact ⟨rfl, rfl⟩
theorem cl_maps_Clone_map_api_Key_int_api_Key_int : Am.CloneRuns Tryz.prog 79 := ⟨fun b es clock w hb => cc_maps_Clone_map_api_Key_int_api_Key_int b es clock w hb, cn_maps_Clone_map_api_Key_int_api_Key_int⟩
end
section
open Go.RowKit
set_option maxHeartbeats 2000000 in
set_option maxRecDepth 1000000 in
theorem cc_maps_Clone_map_int_state_peer_int_state_peer (b : Nat) (es : Array MapEntry) (clock : Nat) (w : World) (hb : w.heap[b]? = some (.map es clock)) :
    Calls Tryz.prog 60 #[.map (some b)] w fun e w' => e = .returned (.map (some w.heap.size)) ∧ w' = w.alloc (.map es clock) := by
  have hq := fun w => run_eql_map_nil_sl (P := Tryz.prog) w 68 3 95 (some b) (by kernel_rfl)
  go_enter Tryz.func60, Tryz.ntmps60
  go_wp2
  rw [run_callFunc_extern Tryz.func81 (by kernel_rfl) (by kernel_rfl) (by kernel_rfl) (e := Extern.MapsClone.clone) (by kernel_rfl), run_maps_clone_sl w 68 hb]
  simp only [Result.andThen]
  rw [Oper.upon_value]
  go_wp2
  rw [run_typeAssert_map_sl _ 68 20 3 95 _ (by kernel_rfl)]
  simp only [Result.andThen]
  rw [Oper.upon_value]
  go_wp2
  go_ret
  exact ⟨rfl, rfl⟩
set_option maxHeartbeats 2000000 in
set_option maxRecDepth 1000000 in
theorem cn_maps_Clone_map_int_state_peer_int_state_peer (w : World) : Calls Tryz.prog 60 #[.map none] w fun e w' => e = .returned (.map none) ∧ w' = w := by
  have hq := fun w => run_eql_map_nil_sl (P := Tryz.prog) w 68 3 95 none (by kernel_rfl)
  go_enter Tryz.func60, Tryz.ntmps60
  go_wp2
  go_ret
  exact ⟨rfl, rfl⟩
theorem cl_maps_Clone_map_int_state_peer_int_state_peer : Am.CloneRuns Tryz.prog 60 := ⟨fun b es clock w hb => cc_maps_Clone_map_int_state_peer_int_state_peer b es clock w hb, cn_maps_Clone_map_int_state_peer_int_state_peer⟩
end
theorem sort_runs : Am.SortRuns Tryz.prog 84 70 90 72 32 := fun ms clock num W B mb d rb h1 h2 h3 h4 h5 h6 h7 h8 => sortedK h1 h2 num W B mb d rb h3 h4 h5 h6 h7 h8
end Go.Proofs.YtoegmdfkcaojlaaGreat.Ks
end
section
set_option linter.unusedVariables false
set_option maxRecDepth 100000
set_option maxHeartbeats 4000000
namespace Go.Proofs.YtoegmdfkcaojlaaGreat.Am
open Go.Proofs
theorem k0_all : fnl0.all (fun x => okFn (okOp Tryz.prog) Tryz.prog x.2 x.1) = true := by kernel_rfl
theorem e0_slices_SortedFunc_api_Key : entB Tryz.prog fn_slices_SortedFunc_api_Key = true := by kernel_rfl
theorem e0_maps_Clone_map_api_Key_int_api_Key_int : entB Tryz.prog fn_maps_Clone_map_api_Key_int_api_Key_int = true := by kernel_rfl
theorem e0_maps_Clone_map_int_state_peer_int_state_peer : entB Tryz.prog fn_maps_Clone_map_int_state_peer_int_state_peer = true := by kernel_rfl
theorem e0_internal_bytealg_Compare : ext? Tryz.prog fn_internal_bytealg_Compare = some Extern.BytealgCompare.compare := by kernel_rfl
theorem fits0 : Fits (okOp Tryz.prog) Tryz.prog tb0 := by
  refine ⟨by kernel_rfl, fun ao o h => okOp_spec ao o h, fun _ _ _ h => okOp_alloc h, fun g p h => ?_, fun g cs h => (by cases h), fun g fn h => ?_⟩
  · have hm := look_mem h
    have all : ∀ x ∈ prl0, CallsOk Tryz.prog tb0 fun g args h => if g = x.1 then x.2 args h else none := by
      simp only [prl0, List.forall_mem_cons]
      exact ⟨prim_sorted (t := 84) (kt := 23) (et := 3) e0_slices_SortedFunc_api_Key (by kernel_rfl) (by kernel_rfl) Ks.sort_runs, prim_clone e0_maps_Clone_map_api_Key_int_api_Key_int Ks.cl_maps_Clone_map_api_Key_int_api_Key_int, prim_clone e0_maps_Clone_map_int_state_peer_int_state_peer Ks.cl_maps_Clone_map_int_state_peer_int_state_peer, prim_compare e0_internal_bytealg_Compare, fun x h => (by cases h)⟩
    exact all _ hm
  have hm := look_mem h
  exact List.all_eq_true.1 k0_all _ hm
theorem ans_l34_alive : CallsOk Tryz.prog tb fun g args h => if g = fn_l34_alive then pAns (.b true) args h else none := prim_ansD (tb := tb) fits0 rfl rfl (by kernel_rfl) rfl (runK_den run_l34_alive)
end Go.Proofs.YtoegmdfkcaojlaaGreat.Am
end
section
set_option linter.unusedVariables false
set_option maxRecDepth 100000
set_option maxHeartbeats 4000000
namespace Go.Proofs.YtoegmdfkcaojlaaGreat.Am
open Go.Proofs
theorem k_all : fnl.all (fun x => okFn (okOp Tryz.prog) Tryz.prog x.2 x.1) = true := by kernel_rfl
theorem k_internal_bytealg_Compare : ext? Tryz.prog fn_internal_bytealg_Compare = some Extern.BytealgCompare.compare := by kernel_rfl
theorem fits : Fits (okOp Tryz.prog) Tryz.prog tb := by
  refine ⟨by kernel_rfl, fun ao o h => okOp_spec ao o h, fun _ _ _ h => okOp_alloc h, fun g p h => ?_, fun g cs h => (by cases h), fun g fn h => ?_⟩
  · have hm := look_mem h
    have all : ∀ x ∈ prl, CallsOk Tryz.prog tb fun g args h => if g = x.1 then x.2 args h else none := by
      simp only [prl, List.forall_mem_cons]
      exact ⟨prim_compare k_internal_bytealg_Compare, ans_l34_alive, fun x h => (by cases h)⟩
    exact all _ hm
  have hm := look_mem h
  exact List.all_eq_true.1 k_all _ hm
end Go.Proofs.YtoegmdfkcaojlaaGreat.Am
end
namespace Go.Proofs.YtoegmdfkcaojlaaGreat.Am
theorem wrapI {x : Int} (h0 : -9223372036854775808 ≤ x) (h1 : x < 9223372036854775808) : IntKind.i64.wrap x = x := by
  simp only [IntKind.wrap, IntKind.bits, IntKind.signed]; simp; omega
theorem wrapN {m : Nat} (h : m < 9223372036854775808) : IntKind.i64.wrap (m : Int) = m := wrapI (by omega) (by omega)
section
variable {α : Type}
theorem idx_nat {l : List α} {n : Nat} : idx l (n : Int) = l[n]? := by simp [idx]
theorem idxN_nat {n k : Nat} (h : n < k) : idxN k (n : Int) = some n := by simp [idxN, h]
theorem apG_one {bytes : Nat} {g : GS α} {x : α} (h : (g.l.length + 1) * bytes ≤ most) : apG bytes g [x] = some (.mk (g.l ++ [x])) := by
  unfold apG
  rw [if_pos (by simpa using h)]
  cases g <;> rfl
@[simp] theorem GS.l_mk {l : List α} : (GS.mk l).l = l := rfl
@[simp] theorem GS.l_nil : (GS.nil : GS α).l = [] := rfl
theorem iter_ind {σ β : Type} {F : σ → Option (σ ⊕ β)} (m : σ → Nat) (I : σ → Prop) (Q : β → Prop)
    (step : ∀ s, I s → (∃ s', F s = some (.inl s') ∧ I s' ∧ m s' < m s) ∨ ∃ b, F s = some (.inr b) ∧ Q b) : ∀ {s}, I s → ∃ b, iter F s = some b ∧ Q b := by
  have key : ∀ n s, m s < n → I s → ∃ b, iter F s = some b ∧ Q b := by
    intro n
    induction n with
    | zero => intro s h; omega
    | succ n ih =>
      intro s h hI
      rcases step s hI with ⟨s', e, hI', hm⟩ | ⟨b, e, hq⟩
      · rw [iter_next e]; exact ih s' (by omega) hI'
      · exact ⟨b, iter_last e, hq⟩
  intro s hI
  exact key _ s (Nat.lt_succ_self _) hI
theorem iter_then {σ β γ : Type} {F : σ → Option (σ ⊕ β)} {K : β → Option γ} {r : Option γ} {s : σ} (m : σ → Nat) (I : σ → Prop) (Q : β → Prop) (h : I s)
    (step : ∀ s, I s → (∃ s', F s = some (.inl s') ∧ I s' ∧ m s' < m s) ∨ ∃ b, F s = some (.inr b) ∧ Q b) (fin : ∀ b, Q b → K b = r) : (iter F s).bind K = r := by
  obtain ⟨b, e, hb⟩ := iter_ind m I Q step h
  rw [e]; exact fin b hb
theorem iter_val {σ β : Type} {F : σ → Option (σ ⊕ β)} {b : β} (m : σ → Nat) (I : σ → Prop)
    (step : ∀ s, I s → (∃ s', F s = some (.inl s') ∧ I s' ∧ m s' < m s) ∨ F s = some (.inr b)) {s : σ} (h : I s) : iter F s = some b := by
  obtain ⟨b', e, rfl⟩ := iter_ind m I (fun b' => b' = b) (fun s hs => (step s hs).imp_right fun e => ⟨b, e, rfl⟩) h
  exact e
end
end Go.Proofs.YtoegmdfkcaojlaaGreat.Am
section
set_option linter.unusedVariables false
set_option maxRecDepth 100000
set_option maxHeartbeats 4000000
namespace Go.Proofs.YtoegmdfkcaojlaaGreat.Am
def internal_bytealg_Compare (a0 : GS UInt8) (a1 : GS UInt8) : Option Int := some (cmpBy a0.l a1.l)
theorem sp_internal_bytealg_Compare : Spec tb fn_internal_bytealg_Compare [T.sl T.u8, T.sl T.u8] [T.int .i64] (fun a => internal_bytealg_Compare a.1 a.2) := Spec.cmp rfl
def l34_alive (_ : Unit) : Option Bool := some true
theorem sp_l34_alive : Spec tb fn_l34_alive [] [T.b] (fun _ => l34_alive ()) := Spec.ans rfl
noncomputable def r34_Large (a0 : S_api_Conf) : Option Bool :=
 if (decide (20 < (a0.Peers.l.length : Int))) = true then
 some true
 else
 (iter (fun (s4 : Int) =>
 if (decide (s4 < (a0.Peers.l.length : Int))) = true then
 (idx a0.Peers.l s4).bind fun x10 =>
 if (decide (80 < (x10.Allowed.l.length : Int))) = true then
 (some true).map fun r => .inr (.inr r)
 else
 some (.inl (IntKind.i64.wrap (s4 + 1)))
 else
 some (.inr (.inl ()))) 0).bind (Sum.elim (fun (p5 : Unit) =>
 some false) some)
noncomputable def sim_r34_Large (a : Res [T_api_Conf]) : SimF tb c_r34_Large [T_api_Conf] [T.b] a :=
 Sim.seqI <| Sim.opMV (M_box (t := T_api_Conf) 1 r_ r_ o_T) fun _ =>
 Sim.op1 (h_mv o_b) <|
 Sim.dsI <| Sim.seqI <| Sim.op1 (h_faC o_T) <|
 Sim.opn (h_ldC (t := T_api_Conf) (u := (T.sl T_api_Peer)) o_T r_ r_ F_api_Conf_Peers r_ r_) fun x1 =>
 Sim.opV (h_len o_T) fun x2 =>
 Sim.opV (h_cmpI r_ o_T o_i) fun x3 =>
 Sim.doneS <| Sim.cond o_T (
 Sim.seqI <| Sim.op1 (h_mv o_b) <|
 Sim.doneS <| Sim.ret (.one (res_t r_))) (
 Sim.skip <| Sim.dsI <| Sim.seqI <| Sim.op1 (h_mv o_i) <|
 Sim.doneS <| Sim.blkI <| Sim.loop (id := 0) (σ := Int) (τ := Unit) (fun s4 => ⟨[(1, .cp 1 0), (3, .val (T.int .i64) s4)], [(1, .cells [(35, .val T_api_Conf a)])]⟩) (fun p5 => ⟨[], []⟩) 0 sB (fun _ => r_) (fun s4 =>
 Sim.seqI <| Sim.seqI <| Sim.mvT r_ <|
 Sim.op1 (h_faC o_T) <|
 Sim.opn (h_ldC (t := T_api_Conf) (u := (T.sl T_api_Peer)) o_T r_ r_ F_api_Conf_Peers r_ r_) fun x6 =>
 Sim.opV (h_len o_T) fun x7 =>
 Sim.opV (h_cmpI r_ o_T o_T) fun x8 =>
 Sim.doneS <| Sim.cond o_T (
 Sim.skip <| Sim.dsI <| Sim.blkI <| Sim.seqI <| Sim.op1 (h_faC o_T) <|
 Sim.opn (h_ldC (t := T_api_Conf) (u := (T.sl T_api_Peer)) o_T r_ r_ F_api_Conf_Peers r_ r_) fun x9 =>
 Sim.mvT r_ <|
 Sim.op (h_ias r_ o_T o_T) fun x10 =>
 Sim.opr (h_fa F_api_Peer_Allowed o_T) fun x11 =>
 Sim.opn (h_ld r_ r_ o_T) fun x12 =>
 Sim.opV (h_len o_T) fun x13 =>
 Sim.opV (h_cmpI r_ o_T o_i) fun x14 =>
 Sim.doneS <| Sim.cond o_T (
 Sim.seqI <| Sim.op1 (h_mv o_b) <|
 Sim.doneS <| Sim.outRet <| Sim.ret (.one (res_t r_))) (
 Sim.skip <| Sim.doneB <| Sim.doneS <| Sim.mvT r_ <|
 Sim.opV (h_add (I := (IT.int .i64)) o_T o_i) fun x15 =>
 Sim.mvT r_ <|
 Sim.next x15 sB)) (
 Sim.exitS <| Sim.out () sB)) (fun p5 =>
 Sim.exitB <| Sim.dsI <| Sim.op1 (h_mv o_b) <|
 Sim.doneS <| Sim.ret (.one (res_t r_))))
theorem sp_r34_Large : Spec tb fn_r34_Large [T_api_Conf] [T.b] (fun a => r34_Large a) :=
  Spec.of f_r34_Large r_ r_ r_ sim_r34_Large
noncomputable def slices_Clone_api_Prefix (a0 : (GS S_api_Prefix)) : Option (GS S_api_Prefix) :=
 if a0.isN = true then
 some .nil
 else
 (apG 32 (GS.mk []) a0.l).bind fun x3 =>
 some x3
noncomputable def sim_slices_Clone_api_Prefix (a : Res [(T.sl T_api_Prefix)]) : SimF tb c_slices_Clone_api_Prefix [(T.sl T_api_Prefix)] [(T.sl T_api_Prefix)] a :=
 Sim.seqI <| Sim.op1 (h_mv (o_nils (t := T_api_Prefix))) <| Sim.turn (born (n := 2) (j := 1002) r_ r_) <|
 Sim.dsI <| Sim.seqI <| Sim.mvT r_ <|
 Sim.opV (h_isnilN (neg := false) o_T) fun x1 =>
 Sim.doneS <| Sim.cond o_T (
 Sim.seqI <| Sim.op1 (h_mv (o_nils (t := T_api_Prefix))) <| Sim.turn (born (n := 2) (j := 2002) r_ r_) <|
 Sim.doneS <| Sim.frzRow 2002 r_ r_ <| Sim.ret (.one (res_t r_))) (
 Sim.skip <| Sim.dsI <| Sim.opMV (M_bls (t := T_api_Prefix) (n := 0) 2002 r_ r_ (.nil _) r_) fun x2 =>
 Sim.mvT r_ <|
 Sim.opM (M_app r_ o_T r_ (n_sl o_T)) fun x3 =>
 Sim.mvT r_ <|
 Sim.doneS <| Sim.frzRow 2002 r_ r_ <| Sim.ret (.one (res_t r_)))
theorem sp_slices_Clone_api_Prefix : Spec tb fn_slices_Clone_api_Prefix [(T.sl T_api_Prefix)] [(T.sl T_api_Prefix)] (fun a => slices_Clone_api_Prefix a) :=
  Spec.of f_slices_Clone_api_Prefix r_ r_ r_ sim_slices_Clone_api_Prefix
noncomputable def view_Bare (a0 : S_api_Conf) : Option S_api_Conf :=
 (iter (fun (s4 : (Int × (GS S_api_Peer))) =>
 if (decide (s4.1 < (a0.Peers.l.length : Int))) = true then
 (idx a0.Peers.l s4.1).bind fun x7 =>
 (slices_Clone_api_Prefix x7.Allowed).bind fun x12 =>
 let x14 := { { x7 with Sent := (0 : UInt64) } with Got := (0 : UInt64) }
 (apG 144 s4.2 [({ x14 with Allowed := x12 })]).bind fun x18 =>
 some (.inl (IntKind.i64.wrap (s4.1 + 1), x18))
 else
 some (.inr (.inl s4.2))) (0, .nil)).bind (Sum.elim (fun (p5 : (GS S_api_Peer)) =>
 some ({ a0 with Peers := p5 })) some)
noncomputable def sim_view_Bare (a : Res [T_api_Conf]) : SimF tb c_view_Bare [T_api_Conf] [T_api_Conf] a :=
 Sim.seqI <| Sim.opMV (M_box (t := T_api_Conf) 1 r_ r_ o_T) fun _ =>
 Sim.opMV (M_alloc (t := T_api_Conf) 2 r_ r_) fun x1 =>
 Sim.dsI <| Sim.op1 (h_mv (o_nils (t := T_api_Peer))) <| Sim.turn (born (n := 3) (j := 1003) r_ r_) <|
 Sim.dsI <| Sim.seqI <| Sim.op1 (h_faC o_T) <|
 Sim.opn (h_ldC (t := T_api_Conf) (u := (T.sl T_api_Peer)) o_T r_ r_ F_api_Conf_Peers r_ r_) fun x2 =>
 Sim.opV (h_len o_T) fun x3 =>
 Sim.op1 (h_mv o_i) <|
 Sim.doneS <| Sim.blkI <| Sim.loop (id := 0) (σ := (Int × (GS S_api_Peer))) (τ := (GS S_api_Peer)) (fun s4 => ⟨[(1, .cp 1 0), (2, .cp 2 0), (3, .own 1003), (7, .val (T.sl T_api_Peer) x2), (8, .val (T.int .i64) x3), (9, .val (T.int .i64) s4.1)], [(1, .cells [(35, .val T_api_Conf a)]), (2, .cells [(35, .val T_api_Conf x1)]), (1003, .row T_api_Peer s4.2)]⟩) (fun p5 => ⟨[(1, .cp 1 0), (2, .cp 2 0), (3, .own 1003)], [(1, .cells [(35, .val T_api_Conf a)]), (2, .cells [(35, .val T_api_Conf x1)]), (1003, .row T_api_Peer p5)]⟩) (0, .nil) sB (fun _ => r_) (fun s4 =>
 Sim.seqI <| Sim.opV (h_cmpI r_ o_T o_T) fun x6 =>
 Sim.dsI <| Sim.cond o_T (
 Sim.skip <| Sim.dsI <| Sim.blkI <| Sim.seqI <| Sim.op (h_ias r_ o_T o_T) fun x7 =>
 Sim.opn (h_ld r_ r_ o_T) fun x8 =>
 Sim.opMV (M_alloc (t := T_api_Peer) 5 r_ r_) fun x9 =>
 Sim.opMV (M_stC o_T o_T r_ r_ (Fld.id _) r_) fun x10 =>
 Sim.dsI <| Sim.op1 (h_faC o_T) <|
 Sim.opn (h_ldC (t := T_api_Peer) (u := (T.sl T_api_Prefix)) o_T r_ r_ F_api_Peer_Allowed r_ r_) fun x11 =>
 Sim.op (h_call1 sp_slices_Clone_api_Prefix (.one o_T)) fun x12 =>
 Sim.op1 (h_faC o_T) <|
 Sim.opMV (M_stC o_T (o_u64 0 r_) r_ r_ F_api_Peer_Sent r_) fun x13 =>
 Sim.op1 (h_faC o_T) <|
 Sim.opMV (M_stC o_T (o_u64 0 r_) r_ r_ F_api_Peer_Got r_) fun x14 =>
 Sim.op1 (h_faC o_T) <|
 Sim.opMV (M_stC o_T o_T r_ r_ F_api_Peer_Allowed r_) fun x15 =>
 Sim.doneS <| Sim.mvT r_ <|
 Sim.opn (h_ldC (t := T_api_Peer) (u := T_api_Peer) o_T r_ r_ (Fld.id _) r_ r_) fun x16 =>
 Sim.opV (h_bll (t := T_api_Peer) (n := 1) r_ r_ (.cons r_ o_T <| .nil _)) fun x17 =>
 Sim.opM (M_app r_ o_T r_ (n_sl o_T)) fun x18 =>
 Sim.mvT r_ <|
 Sim.doneB <| Sim.doneS <| Sim.opV (h_add (I := (IT.int .i64)) o_T o_i) fun x19 =>
 Sim.mvT r_ <|
 Sim.next (x19, x18) sB) (
 Sim.exitS <| Sim.out s4.2 sB)) (fun p5 =>
 Sim.exitB <| Sim.dsI <| Sim.mvT r_ <|
 Sim.op1 (h_faC o_T) <|
 Sim.frzRow 1003 r_ r_ <| Sim.opMV (M_stC o_T o_T r_ r_ F_api_Conf_Peers r_) fun x20 =>
 Sim.dsI <| Sim.opn (h_ldC (t := T_api_Conf) (u := T_api_Conf) o_T r_ r_ (Fld.id _) r_ r_) fun x21 =>
 Sim.opMV (M_stC o_T o_T r_ r_ (Fld.id _) r_) fun x22 =>
 Sim.doneS <| Sim.ret (.one (res_c r_ r_ r_ (Fld.id _) r_ r_)))
theorem sp_view_Bare : Spec tb fn_view_Bare [T_api_Conf] [T_api_Conf] (fun a => view_Bare a) :=
  Spec.of f_view_Bare r_ r_ r_ sim_view_Bare
noncomputable def view_short (a0 : Int) : Option Bool :=
 (andO (decide (0 ≤ a0)) (some (decide (a0 ≤ 65535)))).bind fun x3 =>
 some x3
noncomputable def sim_view_short (a : Res [(T.int .i64)]) : SimF tb c_view_short [(T.int .i64)] [T.b] a :=
 Sim.seqI <| Sim.op1 (h_mv o_b) <|
 Sim.dsI <| Sim.mvT r_ <|
 Sim.opV (h_cmpI r_ o_T o_i) fun x1 =>
 Sim.mvT r_ <|
 Sim.and 2 r_ r_ r_ (Grp.op1 (h_mv (o_t r_)) <|
 Grp.opV (h_cmpI r_ o_T o_i) fun x2 =>
 Grp.nil o_T) fun x3 =>
 Sim.mvT r_ <|
 Sim.doneS <| Sim.ret (.one (res_t r_))
theorem sp_view_short : Spec tb fn_view_short [(T.int .i64)] [T.b] (fun a => view_short a) :=
  Spec.of f_view_short r_ r_ r_ sim_view_short
noncomputable def addr_Four (a0 : (Ar UInt8 4)) : Option S_api_Addr :=
 (if 0 + 4 ≤ 4 then cpyA ((⟨4, (T.arr 16 T.u8).z⟩ : S_api_Addr).B) 0 16 ((a0.l.drop 0).take 4) else none).bind fun x5 =>
 let x6 := ({ (⟨4, (T.arr 16 T.u8).z⟩ : S_api_Addr) with B := x5 })
 some x6
noncomputable def sim_addr_Four (a : Res [(T.arr 4 T.u8)]) : SimF tb c_addr_Four [(T.arr 4 T.u8)] [T_api_Addr] a :=
 Sim.seqI <| Sim.opMV (M_box (t := (T.arr 4 T.u8)) 1 r_ r_ o_T) fun _ =>
 Sim.opMV (M_alloc (t := T_api_Addr) 2 r_ r_) fun x1 =>
 Sim.dsI <| Sim.opV (h_bld r_ r_ (.cons F_api_Addr_V r_ o_i <| .nil _)) fun x2 =>
 Sim.opMV (M_alloc (t := T_api_Addr) 3 r_ r_) fun x3 =>
 Sim.opMV (M_stC o_T o_T r_ r_ (Fld.id _) r_) fun x4 =>
 Sim.dsI <| Sim.regd 1 <| SimD.op1 r_ (h_faC o_T) <|
 SimD.op1 r_ (h_slaL (k := 0) (m := 16) r_ r_ o_T .none .none r_ r_ r_) <|
 SimD.op1 r_ (h_slaL (k := 0) (m := 4) r_ r_ o_T .none .none r_ r_ r_) <|
 SimD.opM r_ (fun _ => .nil) (.nil) (M_if (c := 0 + 4 ≤ 4) fun hc => M_cpyD (t := T.u8) (s := T_api_Addr) (o := 1) (k := 0) F_api_Addr_B r_ o_T (n_oc (o := 0) (k := 0) (m := 4) (n := 4) (Fld.id _) r_ o_T r_ r_ hc) r_ r_) fun x5 =>
 SimD.done <| Sim.dsI <| Sim.opn (h_ldC (t := T_api_Addr) (u := T_api_Addr) o_T r_ r_ (Fld.id _) r_ r_) fun x6 =>
 Sim.opMV (M_stC o_T o_T r_ r_ (Fld.id _) r_) fun x7 =>
 Sim.doneS <| Sim.ret (.one (res_c r_ r_ r_ (Fld.id _) r_ r_))
theorem sp_addr_Four : Spec tb fn_addr_Four [(T.arr 4 T.u8)] [T_api_Addr] (fun a => addr_Four a) :=
  Spec.of f_addr_Four r_ r_ r_ sim_addr_Four
noncomputable def addr_Right (a0 : S_api_Addr) : Option Bool :=
 (orO (decide (a0.V = 6)) ((andO (decide (a0.V = 4)) (let x6 := (⟨(a0.B.l.drop 0).take 4, by rw [List.length_take, List.length_drop, Ar.len]; rfl⟩ : (Ar UInt8 4))
 (addr_Four x6).bind fun x7 =>
 some (cmpB C_api_Addr a0 x7))).bind fun x9 =>
 some x9)).bind fun x10 =>
 some x10
noncomputable def sim_addr_Right (a : Res [T_api_Addr]) : SimF tb c_addr_Right [T_api_Addr] [T.b] a :=
 Sim.seqI <| Sim.opMV (M_box (t := T_api_Addr) 1 r_ r_ o_T) fun _ =>
 Sim.op1 (h_mv o_b) <|
 Sim.dsI <| Sim.op1 (h_faC o_T) <|
 Sim.opn (h_ldC (t := T_api_Addr) (u := (T.int .i64)) o_T r_ r_ F_api_Addr_V r_ r_) fun x1 =>
 Sim.opV (h_cmpI r_ o_T o_i) fun x2 =>
 Sim.mvT r_ <|
 Sim.or 12 r_ r_ r_ (Grp.op1 (h_faC o_T) <|
 Grp.opn (h_ldC (t := T_api_Addr) (u := (T.int .i64)) o_T r_ r_ F_api_Addr_V r_ r_) fun x3 =>
 Grp.opV (h_cmpI r_ o_T o_i) fun x4 =>
 Grp.op1 (h_mv (o_t r_)) <|
 Grp.and 7 r_ r_ r_ r_ r_ (Grp.opn (h_ldC (t := T_api_Addr) (u := T_api_Addr) o_T r_ r_ (Fld.id _) r_ r_) fun x5 =>
 Grp.op1 (h_faC o_T) <|
 Grp.op1 (h_slaL (k := 0) (m := 4) r_ r_ o_T .none (.some o_i) r_ r_ r_) <|
 Grp.op1 (h_s2aC o_T r_) <|
 Grp.opn (h_ldC (t := T_api_Addr) (u := (T.arr 4 T.u8)) o_T r_ r_ (Fld.comp F_api_Addr_B (Fld.piece 16 T.u8 0 4 (by decide))) r_ r_) fun x6 =>
 Grp.op (h_call1 sp_addr_Four (.one o_T)) fun x7 =>
 Grp.opV (h_eq C_api_Addr r_ r_ o_T o_T) fun x8 =>
 Grp.nil o_T) fun x9 =>
 Grp.nil o_T) fun x10 =>
 Sim.mvT r_ <|
 Sim.doneS <| Sim.ret (.one (res_t r_))
theorem sp_addr_Right : Spec tb fn_addr_Right [T_api_Addr] [T.b] (fun a => addr_Right a) :=
  Spec.of f_addr_Right r_ r_ r_ sim_addr_Right
noncomputable def addr_Width (a0 : S_api_Addr) : Option Int :=
 (addr_Right a0).bind fun x2 =>
 if (!x2) = true then
 some 0
 else
 if (decide (a0.V = 4)) = true then
 some 32
 else
 some 128
noncomputable def sim_addr_Width (a : Res [T_api_Addr]) : SimF tb c_addr_Width [T_api_Addr] [(T.int .i64)] a :=
 Sim.seqI <| Sim.opMV (M_box (t := T_api_Addr) 1 r_ r_ o_T) fun _ =>
 Sim.op1 (h_mv o_i) <|
 Sim.dsI <| Sim.blkI <| Sim.seqI <| Sim.opn (h_ldC (t := T_api_Addr) (u := T_api_Addr) o_T r_ r_ (Fld.id _) r_ r_) fun x1 =>
 Sim.op (h_call1 sp_addr_Right (.one o_T)) fun x2 =>
 Sim.opV (h_not o_T) fun x3 =>
 Sim.mvT r_ <|
 Sim.doneS <| Sim.cond o_T (
 Sim.seqI <| Sim.op1 (h_mv o_i) <|
 Sim.doneS <| Sim.ret (.one (res_t r_))) (
 Sim.seqI <| Sim.op1 (h_faC o_T) <|
 Sim.opn (h_ldC (t := T_api_Addr) (u := (T.int .i64)) o_T r_ r_ F_api_Addr_V r_ r_) fun x4 =>
 Sim.opV (h_cmpI r_ o_T o_i) fun x5 =>
 Sim.mvT r_ <|
 Sim.doneS <| Sim.cond o_T (
 Sim.seqI <| Sim.op1 (h_mv o_i) <|
 Sim.doneS <| Sim.ret (.one (res_t r_))) (
 Sim.skip <| Sim.doneB <| Sim.dsI <| Sim.op1 (h_mv o_i) <|
 Sim.doneS <| Sim.ret (.one (res_t r_))))
theorem sp_addr_Width : Spec tb fn_addr_Width [T_api_Addr] [(T.int .i64)] (fun a => addr_Width a) :=
  Spec.of f_addr_Width r_ r_ r_ sim_addr_Width
noncomputable def addr_Mask (a0 : S_api_Addr) (a1 : Int) : Option S_api_Addr :=
 (addr_Right a0).bind fun x3 =>
 if (!x3) = true then
 some (⟨0, (T.arr 16 T.u8).z⟩ : S_api_Addr)
 else
 (iter (fun (s7 : (Int × S_api_Addr)) =>
 if (decide (s7.1 < 16)) = true then
 let x11 := IntKind.i64.wrap (a1 - IntKind.i64.wrap (8 * s7.1))
 let x13 := if 8 < if 0 > x11 then 0 else x11 then 8 else if 0 > x11 then 0 else x11
 (if (decide (a1 < 0)) = true then
 some (.inl 0)
 else
 some (.inl x13) : Option (Int ⊕ _)).bind (Sum.elim (fun (p15 : Int) =>
 (idxN 16 s7.1).bind fun x17 =>
 (s7.2.B.l[x17]?).bind fun x18 =>
 (if ((ofU64 (IntKind.i64.wrap (8 - p15))).toNat : Int) < 0 then none else some (ofU8 (((255 : UInt8).toNat : Int) * 2 ^ (min ((ofU64 (IntKind.i64.wrap (8 - p15))).toNat : Int).toNat 8)))).bind fun x21 =>
 let x22 := ofU8 (bitsR .and .u8 (x18.toNat : Int) (x21.toNat : Int))
 (idxN 16 s7.1).bind fun x23 =>
 (if x23 < 16 then some ({ s7.2 with B := s7.2.B.set x23 x22 }) else none).bind fun x24 =>
 some (.inl (IntKind.i64.wrap (s7.1 + 1), x24))) some)
 else
 some (.inr (.inl s7.2))) (0, a0)).bind (Sum.elim (fun (p8 : S_api_Addr) =>
 some p8) some)
noncomputable def sim_addr_Mask (a : Res [T_api_Addr, (T.int .i64)]) : SimF tb c_addr_Mask [T_api_Addr, (T.int .i64)] [T_api_Addr] a :=
 Sim.seqI <| Sim.opMV (M_box (t := T_api_Addr) 2 r_ r_ o_T) fun _ =>
 Sim.opMV (M_alloc (t := T_api_Addr) 4 r_ r_) fun x1 =>
 Sim.dsI <| Sim.seqI <| Sim.opn (h_ldC (t := T_api_Addr) (u := T_api_Addr) o_T r_ r_ (Fld.id _) r_ r_) fun x2 =>
 Sim.op (h_call1 sp_addr_Right (.one o_T)) fun x3 =>
 Sim.opV (h_not o_T) fun x4 =>
 Sim.doneS <| Sim.cond o_T (
 Sim.seqI <| Sim.opV (h_bld r_ r_ (.nil _)) fun x5 =>
 Sim.opMV (M_stC o_T o_T r_ r_ (Fld.id _) r_) fun x6 =>
 Sim.doneS <| Sim.ret (.one (res_c r_ r_ r_ (Fld.id _) r_ r_))) (
 Sim.skip <| Sim.dsI <| Sim.seqI <| Sim.op1 (h_mv o_i) <|
 Sim.doneS <| Sim.blkI <| Sim.loop (id := 0) (σ := (Int × S_api_Addr)) (τ := S_api_Addr) (fun s7 => ⟨[(1, .val (T.int .i64) a.2), (2, .cp 2 0), (4, .cp 4 0), (11, .val (T.int .i64) s7.1)], [(2, .cells [(17, .val T_api_Addr s7.2)]), (4, .cells [(17, .val T_api_Addr x1)])]⟩) (fun p8 => ⟨[(2, .cp 2 0), (4, .cp 4 0)], [(2, .cells [(17, .val T_api_Addr p8)]), (4, .cells [(17, .val T_api_Addr x1)])]⟩) (0, a.1) sB (fun _ => r_) (fun s7 =>
 Sim.seqI <| Sim.opV (h_cmpI r_ o_T o_i) fun x9 =>
 Sim.dsI <| Sim.cond o_T (
 Sim.skip <| Sim.dsI <| Sim.blkI <| Sim.seqI <| Sim.mvT r_ <|
 Sim.mvT r_ <|
 Sim.dsI <| Sim.mvT r_ <|
 Sim.mvT r_ <|
 Sim.opV (h_mul (I := (IT.int .i64)) o_i o_T) fun x10 =>
 Sim.opV (h_sub (I := (IT.int .i64)) o_T o_T) fun x11 =>
 Sim.opV (h_max (I := (IT.int .i64)) (mx := true) o_T o_i) fun x12 =>
 Sim.opV (h_max (I := (IT.int .i64)) (mx := false) o_T o_i) fun x13 =>
 Sim.mvT r_ <|
 Sim.dsI <| Sim.seqI <| Sim.mvT r_ <|
 Sim.opV (h_cmpI r_ o_T o_i) fun x14 =>
 Sim.doneS <| Sim.joinS (τ := Int) (fun p15 => ⟨[(1, .val (T.int .i64) a.2), (2, .cp 2 0), (4, .cp 4 0), (5, .val (T.int .i64) s7.1), (6, .val (T.int .i64) p15), (11, .val (T.int .i64) s7.1)], [(2, .cells [(17, .val T_api_Addr s7.2)]), (4, .cells [(17, .val T_api_Addr x1)])]⟩) (fun p15 =>
 Sim.doneS <| Sim.mvT r_ <|
 Sim.op1 (h_faC o_T) <|
 Sim.op (h_iaaC o_T o_T) fun x17 =>
 Sim.op (h_ldA F_api_Addr_B r_ r_ o_T r_ r_) fun x18 =>
 Sim.mvT r_ <|
 Sim.opV (h_sub (I := (IT.int .i64)) o_i o_T) fun x19 =>
 Sim.opV (h_cvi (I := (IT.int .i64)) (J := IT.u64) r_ o_T) fun x20 =>
 Sim.op (h_shl (I := IT.u8) (J := IT.u64) (o_u8 255 r_) o_T) fun x21 =>
 Sim.opV (h_and (I := IT.u8) o_T o_T) fun x22 =>
 Sim.op1 (h_faC o_T) <|
 Sim.op (h_iaaC o_T o_T) fun x23 =>
 Sim.opM (M_stA (s := T_api_Addr) F_api_Addr_B r_ o_T o_T r_ r_) fun x24 =>
 Sim.doneB <| Sim.doneS <| Sim.opV (h_add (I := (IT.int .i64)) o_T o_i) fun x25 =>
 Sim.mvT r_ <|
 Sim.next (x25, x24) sB) <| Sim.cond o_T (
 Sim.op1 (h_mv o_i) <|
 Sim.jn 0 sB) (
 Sim.skip <| Sim.jn x13 sB)) (
 Sim.exitS <| Sim.out s7.2 sB)) (fun p8 =>
 Sim.exitB <| Sim.dsI <| Sim.opn (h_ldC (t := T_api_Addr) (u := T_api_Addr) o_T r_ r_ (Fld.id _) r_ r_) fun x26 =>
 Sim.opMV (M_stC o_T o_T r_ r_ (Fld.id _) r_) fun x27 =>
 Sim.doneS <| Sim.ret (.one (res_c r_ r_ r_ (Fld.id _) r_ r_))))
theorem sp_addr_Mask : Spec tb fn_addr_Mask [T_api_Addr, (T.int .i64)] [T_api_Addr] (fun a => addr_Mask a.1 a.2) :=
  Spec.of f_addr_Mask r_ r_ r_ sim_addr_Mask
noncomputable def cidr_Of (a0 : S_api_Addr) (a1 : Int) : Option (S_api_Prefix × Int) :=
 (addr_Right a0).bind fun x3 =>
 if (!x3) = true then
 some ((⟨T_api_Addr.z, 0⟩ : S_api_Prefix), 1)
 else
 (orO (decide (a1 < 0)) ((addr_Width a0).bind fun x9 =>
 some (decide (x9 < a1)))).bind fun x11 =>
 if x11 = true then
 some ((⟨T_api_Addr.z, 0⟩ : S_api_Prefix), 6)
 else
 (addr_Mask a0 a1).bind fun x15 =>
 some ((⟨x15, a1⟩ : S_api_Prefix), 0)
noncomputable def sim_cidr_Of (a : Res [T_api_Addr, (T.int .i64)]) : SimF tb c_cidr_Of [T_api_Addr, (T.int .i64)] [T_api_Prefix, (T.int .i64)] a :=
 Sim.seqI <| Sim.opMV (M_box (t := T_api_Addr) 2 r_ r_ o_T) fun _ =>
 Sim.opMV (M_alloc (t := T_api_Prefix) 4 r_ r_) fun x1 =>
 Sim.op1 (h_mv o_i) <|
 Sim.dsI <| Sim.blkI <| Sim.seqI <| Sim.opn (h_ldC (t := T_api_Addr) (u := T_api_Addr) o_T r_ r_ (Fld.id _) r_ r_) fun x2 =>
 Sim.op (h_call1 sp_addr_Right (.one o_T)) fun x3 =>
 Sim.opV (h_not o_T) fun x4 =>
 Sim.mvT r_ <|
 Sim.doneS <| Sim.cond o_T (
 Sim.seqI <| Sim.opV (h_bld r_ r_ (.nil _)) fun x5 =>
 Sim.opMV (M_stC o_T o_T r_ r_ (Fld.id _) r_) fun x6 =>
 Sim.op1 (h_mv o_i) <|
 Sim.doneS <| Sim.ret (.cons (res_c r_ r_ r_ (Fld.id _) r_ r_) <| .one (res_t r_))) (
 Sim.seqI <| Sim.mvT r_ <|
 Sim.opV (h_cmpI r_ o_T o_i) fun x7 =>
 Sim.mvT r_ <|
 Sim.or 4 r_ r_ r_ (Grp.op1 (h_mv (o_t r_)) <|
 Grp.opn (h_ldC (t := T_api_Addr) (u := T_api_Addr) o_T r_ r_ (Fld.id _) r_ r_) fun x8 =>
 Grp.op (h_call1 sp_addr_Width (.one o_T)) fun x9 =>
 Grp.opV (h_cmpI r_ o_T o_T) fun x10 =>
 Grp.nil o_T) fun x11 =>
 Sim.mvT r_ <|
 Sim.doneS <| Sim.cond o_T (
 Sim.seqI <| Sim.opV (h_bld r_ r_ (.nil _)) fun x12 =>
 Sim.opMV (M_stC o_T o_T r_ r_ (Fld.id _) r_) fun x13 =>
 Sim.op1 (h_mv o_i) <|
 Sim.doneS <| Sim.ret (.cons (res_c r_ r_ r_ (Fld.id _) r_ r_) <| .one (res_t r_))) (
 Sim.skip <| Sim.doneB <| Sim.dsI <| Sim.opn (h_ldC (t := T_api_Addr) (u := T_api_Addr) o_T r_ r_ (Fld.id _) r_ r_) fun x14 =>
 Sim.mvT r_ <|
 Sim.op (h_call1 sp_addr_Mask (.cons o_T <| .one o_T)) fun x15 =>
 Sim.mvT r_ <|
 Sim.opV (h_bld r_ r_ (.cons F_api_Prefix_A r_ o_T <| .cons F_api_Prefix_Bits r_ o_T <| .nil _)) fun x16 =>
 Sim.opMV (M_stC o_T o_T r_ r_ (Fld.id _) r_) fun x17 =>
 Sim.op1 (h_mv o_i) <|
 Sim.doneS <| Sim.ret (.cons (res_c r_ r_ r_ (Fld.id _) r_ r_) <| .one (res_t r_))))
theorem sp_cidr_Of : Spec tb fn_cidr_Of [T_api_Addr, (T.int .i64)] [T_api_Prefix, (T.int .i64)] (fun a => cidr_Of a.1 a.2) :=
  Spec.of f_cidr_Of r_ r_ r_ sim_cidr_Of
noncomputable def cidr_Right (a0 : S_api_Prefix) : Option Bool :=
 (cidr_Of a0.A a0.Bits).bind fun x3 =>
 (andO (decide (x3.2 = 0)) (some (cmpB C_api_Prefix x3.1 a0))).bind fun x12 =>
 some x12
noncomputable def sim_cidr_Right (a : Res [T_api_Prefix]) : SimF tb c_cidr_Right [T_api_Prefix] [T.b] a :=
 Sim.seqI <| Sim.opMV (M_box (t := T_api_Prefix) 1 r_ r_ o_T) fun _ =>
 Sim.op1 (h_mv o_b) <|
 Sim.dsI <| Sim.op1 (h_faC o_T) <|
 Sim.opn (h_ldC (t := T_api_Prefix) (u := T_api_Addr) o_T r_ r_ F_api_Prefix_A r_ r_) fun x1 =>
 Sim.op1 (h_faC o_T) <|
 Sim.opn (h_ldC (t := T_api_Prefix) (u := (T.int .i64)) o_T r_ r_ F_api_Prefix_Bits r_ r_) fun x2 =>
 Sim.op (h_callN sp_cidr_Of (.cons o_T <| .one o_T)) fun x3 =>
 Sim.mvT r_ <|
 Sim.opn (h_ext o_T r_) fun x4 =>
 Sim.opn (h_ext o_T r_) fun x5 =>
 Sim.opMV (M_alloc (t := T_api_Prefix) 3 r_ r_) fun x6 =>
 Sim.opMV (M_stC o_T o_T r_ r_ (Fld.id _) r_) fun x7 =>
 Sim.mvT r_ <|
 Sim.dsI <| Sim.mvT r_ <|
 Sim.opV (h_cmpI r_ o_T o_i) fun x8 =>
 Sim.mvT r_ <|
 Sim.and 3 r_ r_ r_ (Grp.opn (h_ldC (t := T_api_Prefix) (u := T_api_Prefix) o_T r_ r_ (Fld.id _) r_ r_) fun x9 =>
 Grp.opn (h_ldC (t := T_api_Prefix) (u := T_api_Prefix) o_T r_ r_ (Fld.id _) r_ r_) fun x10 =>
 Grp.opV (h_eq C_api_Prefix r_ r_ o_T o_T) fun x11 =>
 Grp.nil o_T) fun x12 =>
 Sim.mvT r_ <|
 Sim.doneS <| Sim.ret (.one (res_t r_))
theorem sp_cidr_Right : Spec tb fn_cidr_Right [T_api_Prefix] [T.b] (fun a => cidr_Right a) :=
  Spec.of f_cidr_Right r_ r_ r_ sim_cidr_Right
noncomputable def bytes_Compare (a0 : (GS UInt8)) (a1 : (GS UInt8)) : Option Int :=
 (internal_bytealg_Compare a0 a1).bind fun x1 =>
 some x1
noncomputable def sim_bytes_Compare (a : Res [(T.sl T.u8), (T.sl T.u8)]) : SimF tb c_bytes_Compare [(T.sl T.u8), (T.sl T.u8)] [(T.int .i64)] a :=
 Sim.seqI <| Sim.op1 (h_mv o_i) <|
 Sim.dsI <| Sim.mvT r_ <|
 Sim.mvT r_ <|
 Sim.op (h_call1 sp_internal_bytealg_Compare (.cons o_T <| .one o_T)) fun x1 =>
 Sim.mvT r_ <|
 Sim.doneS <| Sim.ret (.one (res_t r_))
theorem sp_bytes_Compare : Spec tb fn_bytes_Compare [(T.sl T.u8), (T.sl T.u8)] [(T.int .i64)] (fun a => bytes_Compare a.1 a.2) :=
  Spec.of f_bytes_Compare r_ r_ r_ sim_bytes_Compare
noncomputable def addr_Less (a0 : S_api_Addr) (a1 : S_api_Addr) : Option Bool :=
 if (!decide (a0.V = a1.V)) = true then
 some (decide (a0.V < a1.V))
 else
 (if 0 + 16 ≤ 16 ∧ 0 + 16 ≤ 16 then bytes_Compare (GS.mk ((a0.B.l.drop 0).take 16)) (GS.mk ((a1.B.l.drop 0).take 16)) else none).bind fun x7 =>
 some (decide (x7 < 0))
noncomputable def sim_addr_Less (a : Res [T_api_Addr, T_api_Addr]) : SimF tb c_addr_Less [T_api_Addr, T_api_Addr] [T.b] a :=
 Sim.seqI <| Sim.opMV (M_box (t := T_api_Addr) 2 r_ r_ o_T) fun _ =>
 Sim.opMV (M_box (t := T_api_Addr) 3 r_ r_ o_T) fun _ =>
 Sim.op1 (h_mv o_b) <|
 Sim.dsI <| Sim.seqI <| Sim.op1 (h_faC o_T) <|
 Sim.opn (h_ldC (t := T_api_Addr) (u := (T.int .i64)) o_T r_ r_ F_api_Addr_V r_ r_) fun x1 =>
 Sim.op1 (h_faC o_T) <|
 Sim.opn (h_ldC (t := T_api_Addr) (u := (T.int .i64)) o_T r_ r_ F_api_Addr_V r_ r_) fun x2 =>
 Sim.opV (h_cmpI r_ o_T o_T) fun x3 =>
 Sim.doneS <| Sim.cond o_T (
 Sim.seqI <| Sim.op1 (h_faC o_T) <|
 Sim.opn (h_ldC (t := T_api_Addr) (u := (T.int .i64)) o_T r_ r_ F_api_Addr_V r_ r_) fun x4 =>
 Sim.op1 (h_faC o_T) <|
 Sim.opn (h_ldC (t := T_api_Addr) (u := (T.int .i64)) o_T r_ r_ F_api_Addr_V r_ r_) fun x5 =>
 Sim.opV (h_cmpI r_ o_T o_T) fun x6 =>
 Sim.mvT r_ <|
 Sim.doneS <| Sim.ret (.one (res_t r_))) (
 Sim.skip <| Sim.dsI <| Sim.op1 (h_faC o_T) <|
 Sim.op1 (h_slaL (k := 0) (m := 16) r_ r_ o_T .none .none r_ r_ r_) <|
 Sim.op1 (h_faC o_T) <|
 Sim.op1 (h_slaL (k := 0) (m := 16) r_ r_ o_T .none .none r_ r_ r_) <|
 Sim.op (h_callRc1 (c := 0 + 16 ≤ 16 ∧ 0 + 16 ≤ 16) sp_bytes_Compare (.cons flat_int .nil) (fun hc => .cons (a_s (o := 1) (k := 0) (m := 16) (n := 16) F_api_Addr_B r_ o_T r_ r_ hc.1) <| .one (a_s (o := 1) (k := 0) (m := 16) (n := 16) F_api_Addr_B r_ o_T r_ r_ hc.2))) fun x7 =>
 Sim.opV (h_cmpI r_ o_T o_i) fun x8 =>
 Sim.mvT r_ <|
 Sim.doneS <| Sim.ret (.one (res_t r_)))
theorem sp_addr_Less : Spec tb fn_addr_Less [T_api_Addr, T_api_Addr] [T.b] (fun a => addr_Less a.1 a.2) :=
  Spec.of f_addr_Less r_ r_ r_ sim_addr_Less
noncomputable def cidr_Less (a0 : S_api_Prefix) (a1 : S_api_Prefix) : Option Bool :=
 if (cmpB C_api_Addr a0.A a1.A) = true then
 some (decide (a0.Bits < a1.Bits))
 else
 (addr_Less a0.A a1.A).bind fun x9 =>
 some x9
noncomputable def sim_cidr_Less (a : Res [T_api_Prefix, T_api_Prefix]) : SimF tb c_cidr_Less [T_api_Prefix, T_api_Prefix] [T.b] a :=
 Sim.seqI <| Sim.opMV (M_box (t := T_api_Prefix) 2 r_ r_ o_T) fun _ =>
 Sim.opMV (M_box (t := T_api_Prefix) 3 r_ r_ o_T) fun _ =>
 Sim.op1 (h_mv o_b) <|
 Sim.dsI <| Sim.seqI <| Sim.op1 (h_faC o_T) <|
 Sim.opn (h_ldC (t := T_api_Prefix) (u := T_api_Addr) o_T r_ r_ F_api_Prefix_A r_ r_) fun x1 =>
 Sim.op1 (h_faC o_T) <|
 Sim.opn (h_ldC (t := T_api_Prefix) (u := T_api_Addr) o_T r_ r_ F_api_Prefix_A r_ r_) fun x2 =>
 Sim.opV (h_eq C_api_Addr r_ r_ o_T o_T) fun x3 =>
 Sim.doneS <| Sim.cond o_T (
 Sim.seqI <| Sim.op1 (h_faC o_T) <|
 Sim.opn (h_ldC (t := T_api_Prefix) (u := (T.int .i64)) o_T r_ r_ F_api_Prefix_Bits r_ r_) fun x4 =>
 Sim.op1 (h_faC o_T) <|
 Sim.opn (h_ldC (t := T_api_Prefix) (u := (T.int .i64)) o_T r_ r_ F_api_Prefix_Bits r_ r_) fun x5 =>
 Sim.opV (h_cmpI r_ o_T o_T) fun x6 =>
 Sim.mvT r_ <|
 Sim.doneS <| Sim.ret (.one (res_t r_))) (
 Sim.skip <| Sim.dsI <| Sim.op1 (h_faC o_T) <|
 Sim.opn (h_ldC (t := T_api_Prefix) (u := T_api_Addr) o_T r_ r_ F_api_Prefix_A r_ r_) fun x7 =>
 Sim.op1 (h_faC o_T) <|
 Sim.opn (h_ldC (t := T_api_Prefix) (u := T_api_Addr) o_T r_ r_ F_api_Prefix_A r_ r_) fun x8 =>
 Sim.op (h_call1 sp_addr_Less (.cons o_T <| .one o_T)) fun x9 =>
 Sim.mvT r_ <|
 Sim.doneS <| Sim.ret (.one (res_t r_)))
theorem sp_cidr_Less : Spec tb fn_cidr_Less [T_api_Prefix, T_api_Prefix] [T.b] (fun a => cidr_Less a.1 a.2) :=
  Spec.of f_cidr_Less r_ r_ r_ sim_cidr_Less
noncomputable def view_rising (a0 : (GS S_api_Prefix)) : Option Bool :=
 (iter (fun (s2 : Int) =>
 if (decide (s2 < (a0.l.length : Int))) = true then
 (idx a0.l s2).bind fun x5 =>
 (cidr_Right x5).bind fun x10 =>
 (orO (!x10) ((andO (decide (0 < s2)) ((idx a0.l (IntKind.i64.wrap (s2 - 1))).bind fun x14 =>
 (cidr_Less x14 x5).bind fun x17 =>
 some (!x17))).bind fun x19 =>
 some x19)).bind fun x20 =>
 if x20 = true then
 (some false).map fun r => .inr (.inr r)
 else
 some (.inl (IntKind.i64.wrap (s2 + 1)))
 else
 some (.inr (.inl ()))) 0).bind (Sum.elim (fun (p3 : Unit) =>
 some true) some)
noncomputable def sim_view_rising (a : Res [(T.sl T_api_Prefix)]) : SimF tb c_view_rising [(T.sl T_api_Prefix)] [T.b] a :=
 Sim.seqI <| Sim.op1 (h_mv o_b) <|
 Sim.dsI <| Sim.seqI <| Sim.mvT r_ <|
 Sim.opV (h_len o_T) fun x1 =>
 Sim.op1 (h_mv o_i) <|
 Sim.doneS <| Sim.blkI <| Sim.loop (id := 0) (σ := Int) (τ := Unit) (fun s2 => ⟨[(0, .val (T.sl T_api_Prefix) a), (5, .val (T.sl T_api_Prefix) a), (6, .val (T.int .i64) x1), (7, .val (T.int .i64) s2)], []⟩) (fun p3 => ⟨[], []⟩) 0 sB (fun _ => r_) (fun s2 =>
 Sim.seqI <| Sim.opV (h_cmpI r_ o_T o_T) fun x4 =>
 Sim.dsI <| Sim.cond o_T (
 Sim.skip <| Sim.dsI <| Sim.blkI <| Sim.seqI <| Sim.mvT r_ <|
 Sim.op (h_ias r_ o_T o_T) fun x5 =>
 Sim.opn (h_ld r_ r_ o_T) fun x6 =>
 Sim.opMV (M_alloc (t := T_api_Prefix) 4 r_ r_) fun x7 =>
 Sim.mvT r_ <|
 Sim.opMV (M_stC o_T o_T r_ r_ (Fld.id _) r_) fun x8 =>
 Sim.dsI <| Sim.opn (h_ldC (t := T_api_Prefix) (u := T_api_Prefix) o_T r_ r_ (Fld.id _) r_ r_) fun x9 =>
 Sim.op (h_call1 sp_cidr_Right (.one o_T)) fun x10 =>
 Sim.opV (h_not o_T) fun x11 =>
 Sim.mvT r_ <|
 Sim.or 12 r_ r_ r_ (Grp.op1 (h_mv (o_t r_)) <|
 Grp.opV (h_cmpI r_ o_T o_i) fun x12 =>
 Grp.op1 (h_mv (o_t r_)) <|
 Grp.and 8 r_ r_ r_ r_ r_ (Grp.op1 (h_mv (o_t r_)) <|
 Grp.op1 (h_mv (o_t r_)) <|
 Grp.opV (h_sub (I := (IT.int .i64)) o_T o_i) fun x13 =>
 Grp.op (h_ias r_ o_T o_T) fun x14 =>
 Grp.opn (h_ld r_ r_ o_T) fun x15 =>
 Grp.opn (h_ldC (t := T_api_Prefix) (u := T_api_Prefix) o_T r_ r_ (Fld.id _) r_ r_) fun x16 =>
 Grp.op (h_call1 sp_cidr_Less (.cons o_T <| .one o_T)) fun x17 =>
 Grp.opV (h_not o_T) fun x18 =>
 Grp.nil o_T) fun x19 =>
 Grp.nil o_T) fun x20 =>
 Sim.doneS <| Sim.cond o_T (
 Sim.seqI <| Sim.op1 (h_mv o_b) <|
 Sim.doneS <| Sim.outRet <| Sim.ret (.one (res_t r_))) (
 Sim.skip <| Sim.doneB <| Sim.doneS <| Sim.opV (h_add (I := (IT.int .i64)) o_T o_i) fun x21 =>
 Sim.mvT r_ <|
 Sim.next x21 sB)) (
 Sim.exitS <| Sim.out () sB)) (fun p3 =>
 Sim.exitB <| Sim.dsI <| Sim.op1 (h_mv o_b) <|
 Sim.doneS <| Sim.ret (.one (res_t r_)))
theorem sp_view_rising : Spec tb fn_view_rising [(T.sl T_api_Prefix)] [T.b] (fun a => view_rising a) :=
  Spec.of f_view_rising r_ r_ r_ sim_view_rising
noncomputable def hostport_None (a0 : S_api_Endpoint) : Option Bool :=
 let x3 := (cmpB C_api_Endpoint a0 (⟨T_api_Addr.z, 0⟩ : S_api_Endpoint))
 some x3
noncomputable def sim_hostport_None (a : Res [T_api_Endpoint]) : SimF tb c_hostport_None [T_api_Endpoint] [T.b] a :=
 Sim.seqI <| Sim.opMV (M_box (t := T_api_Endpoint) 1 r_ r_ o_T) fun _ =>
 Sim.op1 (h_mv o_b) <|
 Sim.dsI <| Sim.opn (h_ldC (t := T_api_Endpoint) (u := T_api_Endpoint) o_T r_ r_ (Fld.id _) r_ r_) fun x1 =>
 Sim.opV (h_bld r_ r_ (.nil _)) fun x2 =>
 Sim.opV (h_eq C_api_Endpoint r_ r_ o_T o_T) fun x3 =>
 Sim.mvT r_ <|
 Sim.doneS <| Sim.ret (.one (res_t r_))
theorem sp_hostport_None : Spec tb fn_hostport_None [T_api_Endpoint] [T.b] (fun a => hostport_None a) :=
  Spec.of f_hostport_None r_ r_ r_ sim_hostport_None
noncomputable def hostport_Right (a0 : S_api_Endpoint) : Option Bool :=
 (addr_Right a0.A).bind fun x2 =>
 (andO x2 (some (decide (1 ≤ a0.Port)))).bind fun x5 =>
 (andO x5 (some (decide (a0.Port ≤ 65535)))).bind fun x8 =>
 some x8
noncomputable def sim_hostport_Right (a : Res [T_api_Endpoint]) : SimF tb c_hostport_Right [T_api_Endpoint] [T.b] a :=
 Sim.seqI <| Sim.opMV (M_box (t := T_api_Endpoint) 1 r_ r_ o_T) fun _ =>
 Sim.op1 (h_mv o_b) <|
 Sim.dsI <| Sim.op1 (h_faC o_T) <|
 Sim.opn (h_ldC (t := T_api_Endpoint) (u := T_api_Addr) o_T r_ r_ F_api_Endpoint_A r_ r_) fun x1 =>
 Sim.op (h_call1 sp_addr_Right (.one o_T)) fun x2 =>
 Sim.mvT r_ <|
 Sim.and 3 r_ r_ r_ (Grp.op1 (h_faC o_T) <|
 Grp.opn (h_ldC (t := T_api_Endpoint) (u := (T.int .i64)) o_T r_ r_ F_api_Endpoint_Port r_ r_) fun x3 =>
 Grp.opV (h_cmpI r_ o_T o_i) fun x4 =>
 Grp.nil o_T) fun x5 =>
 Sim.mvT r_ <|
 Sim.and 3 r_ r_ r_ (Grp.op1 (h_faC o_T) <|
 Grp.opn (h_ldC (t := T_api_Endpoint) (u := (T.int .i64)) o_T r_ r_ F_api_Endpoint_Port r_ r_) fun x6 =>
 Grp.opV (h_cmpI r_ o_T o_i) fun x7 =>
 Grp.nil o_T) fun x8 =>
 Sim.mvT r_ <|
 Sim.doneS <| Sim.ret (.one (res_t r_))
theorem sp_hostport_Right : Spec tb fn_hostport_Right [T_api_Endpoint] [T.b] (fun a => hostport_Right a) :=
  Spec.of f_hostport_Right r_ r_ r_ sim_hostport_Right
noncomputable def view_Right (a0 : S_api_Conf) : Option Bool :=
 (view_short a0.Port).bind fun x2 =>
 (orO (!x2) (some (decide (16 < (a0.Peers.l.length : Int))))).bind fun x7 =>
 if x7 = true then
 some false
 else
 let x8 := (⟨[0, 0, 0, 0, 0, 0, 0, 0, 0, 0, 0, 0, 0, 0, 0, 0, 0, 0, 0, 0, 0, 0, 0, 0, 0, 0, 0, 0, 0, 0, 0, 0], rfl⟩ : (Ar UInt8 32))
 let x9 := mset (κ := (Ar UInt8 32)) (ν := Bool) eq_32_u8 ([] : List ((Ar UInt8 32) × Bool)) x8 true
 (iter (fun (s12 : (Int × (List ((Ar UInt8 32) × Bool)) × (List (S_api_Prefix × Bool)))) =>
 if (decide (s12.1 < (a0.Peers.l.length : Int))) = true then
 (idx a0.Peers.l s12.1).bind fun x15 =>
 let x20 := (mget (κ := (Ar UInt8 32)) (ν := Bool) eq_32_u8 s12.2.1 x15.Key).getD false
 (orO x20 ((view_short x15.Keep).bind fun x22 =>
 some (!x22))).bind fun x24 =>
 (orO x24 ((view_rising x15.Allowed).bind fun x26 =>
 some (!x26))).bind fun x28 =>
 if x28 = true then
 (some false).map fun r => .inr (.inr r)
 else
 (hostport_None x15.End).bind fun x30 =>
 (andO (!x30) ((hostport_Right x15.End).bind fun x33 =>
 some (!x33))).bind fun x35 =>
 if x35 = true then
 (some false).map fun r => .inr (.inr r)
 else
 let x37 := mset (κ := (Ar UInt8 32)) (ν := Bool) eq_32_u8 s12.2.1 x15.Key true
 (iter (fun (s40 : (Int × (List (S_api_Prefix × Bool)))) =>
 if (decide (s40.1 < (x15.Allowed.l.length : Int))) = true then
 (idx x15.Allowed.l s40.1).bind fun x43 =>
 let x48 := (mget (κ := S_api_Prefix) (ν := Bool) eq_api_Prefix s40.2 x43).getD false
 if x48 = true then
 ((some false).map fun r => .inr (.inr r)).map fun r => .inr (.inr r)
 else
 let x50 := mset (κ := S_api_Prefix) (ν := Bool) eq_api_Prefix s40.2 x43 true
 some (.inl (IntKind.i64.wrap (s40.1 + 1), x50))
 else
 some (.inr (.inl s40.2))) (0, s12.2.2)).bind (Sum.elim (fun (p41 : (List (S_api_Prefix × Bool))) =>
 some (.inl (IntKind.i64.wrap (s12.1 + 1), x37, p41))) some)
 else
 some (.inr (.inl s12.2.2))) (0, x9, ([] : List (S_api_Prefix × Bool)))).bind (Sum.elim (fun (p13 : (List (S_api_Prefix × Bool))) =>
 some (decide ((p13.length : Int) ≤ 64))) some)
noncomputable def sim_view_Right (a : Res [T_api_Conf]) : SimF tb c_view_Right [T_api_Conf] [T.b] a :=
 Sim.seqI <| Sim.opMV (M_box (t := T_api_Conf) 1 r_ r_ o_T) fun _ =>
 Sim.op1 (h_mv o_b) <|
 Sim.dsI <| Sim.seqI <| Sim.op1 (h_faC o_T) <|
 Sim.opn (h_ldC (t := T_api_Conf) (u := (T.int .i64)) o_T r_ r_ F_api_Conf_Port r_ r_) fun x1 =>
 Sim.op (h_call1 sp_view_short (.one o_T)) fun x2 =>
 Sim.opV (h_not o_T) fun x3 =>
 Sim.mvT r_ <|
 Sim.or 4 r_ r_ r_ (Grp.op1 (h_faC o_T) <|
 Grp.opn (h_ldC (t := T_api_Conf) (u := (T.sl T_api_Peer)) o_T r_ r_ F_api_Conf_Peers r_ r_) fun x4 =>
 Grp.opV (h_len o_T) fun x5 =>
 Grp.opV (h_cmpI r_ o_T o_i) fun x6 =>
 Grp.nil o_T) fun x7 =>
 Sim.doneS <| Sim.cond o_T (
 Sim.seqI <| Sim.op1 (h_mv o_b) <|
 Sim.doneS <| Sim.ret (.one (res_t r_))) (
 Sim.skip <| Sim.dsI <| Sim.opMV (M_mkm (K := (T.arr 32 T.u8)) (V := T.b) 1019 r_) fun _ =>
 Sim.opn (h_bldA (t := T.u8) (⟨[0, 0, 0, 0, 0, 0, 0, 0, 0, 0, 0, 0, 0, 0, 0, 0, 0, 0, 0, 0, 0, 0, 0, 0, 0, 0, 0, 0, 0, 0, 0, 0], r_⟩ : (Ar UInt8 32)) r_ (.nil _)) fun x8 =>
 Sim.opMV (M_mup (K := (T.arr 32 T.u8)) (V := T.b) ⟨_, (CmpC.arr 32 CmpC.u8), .inl ⟨r_, r_⟩⟩ o_T r_ o_T o_b) fun x9 =>
 Sim.mvT r_ <|
 Sim.opMV (M_mkm (K := T_api_Prefix) (V := T.b) 1022 r_) fun _ =>
 Sim.mvT r_ <|
 Sim.mvT r_ <|
 Sim.dsI <| Sim.seqI <| Sim.op1 (h_faC o_T) <|
 Sim.opn (h_ldC (t := T_api_Conf) (u := (T.sl T_api_Peer)) o_T r_ r_ F_api_Conf_Peers r_ r_) fun x10 =>
 Sim.opV (h_len o_T) fun x11 =>
 Sim.op1 (h_mv o_i) <|
 Sim.doneS <| Sim.blkI <| Sim.loop (id := 0) (σ := (Int × (List ((Ar UInt8 32) × Bool)) × (List (S_api_Prefix × Bool)))) (τ := (List (S_api_Prefix × Bool))) (fun s12 => ⟨[(3, .own 1019), (4, .own 1022), (24, .val (T.sl T_api_Peer) x10), (25, .val (T.int .i64) x11), (26, .val (T.int .i64) s12.1)], [(1019, .dom (DMap (T.arr 32 T.u8) T.b) s12.2.1), (1022, .dom (DMap T_api_Prefix T.b) s12.2.2)]⟩) (fun p13 => ⟨[(4, .own 1022)], [(1022, .dom (DMap T_api_Prefix T.b) p13)]⟩) (0, x9, ([] : List (S_api_Prefix × Bool))) sB (fun _ => r_) (fun s12 =>
 Sim.seqI <| Sim.opV (h_cmpI r_ o_T o_T) fun x14 =>
 Sim.dsI <| Sim.cond o_T (
 Sim.skip <| Sim.dsI <| Sim.blkI <| Sim.seqI <| Sim.op (h_ias r_ o_T o_T) fun x15 =>
 Sim.opn (h_ld r_ r_ o_T) fun x16 =>
 Sim.opMV (M_alloc (t := T_api_Peer) 6 r_ r_) fun x17 =>
 Sim.opMV (M_stC o_T o_T r_ r_ (Fld.id _) r_) fun x18 =>
 Sim.dsI <| Sim.seqI <| Sim.mvT r_ <|
 Sim.op1 (h_faC o_T) <|
 Sim.opn (h_ldC (t := T_api_Peer) (u := (T.arr 32 T.u8)) o_T r_ r_ F_api_Peer_Key r_ r_) fun x19 =>
 Sim.opV (h_lkp (K := (T.arr 32 T.u8)) (V := T.b) ⟨_, (CmpC.arr 32 CmpC.u8), .inl ⟨r_, r_⟩⟩ (.inr ⟨r_, r_⟩) o_T r_ o_T) fun x20 =>
 Sim.mvT r_ <|
 Sim.or 4 r_ r_ r_ (Grp.op1 (h_faC o_T) <|
 Grp.opn (h_ldC (t := T_api_Peer) (u := (T.int .i64)) o_T r_ r_ F_api_Peer_Keep r_ r_) fun x21 =>
 Grp.op (h_call1 sp_view_short (.one o_T)) fun x22 =>
 Grp.opV (h_not o_T) fun x23 =>
 Grp.nil o_T) fun x24 =>
 Sim.mvT r_ <|
 Sim.or 4 r_ r_ r_ (Grp.op1 (h_faC o_T) <|
 Grp.opn (h_ldC (t := T_api_Peer) (u := (T.sl T_api_Prefix)) o_T r_ r_ F_api_Peer_Allowed r_ r_) fun x25 =>
 Grp.op (h_call1 sp_view_rising (.one o_T)) fun x26 =>
 Grp.opV (h_not o_T) fun x27 =>
 Grp.nil o_T) fun x28 =>
 Sim.doneS <| Sim.cond o_T (
 Sim.seqI <| Sim.op1 (h_mv o_b) <|
 Sim.doneS <| Sim.outRet <| Sim.ret (.one (res_t r_))) (
 Sim.skip <| Sim.dsI <| Sim.seqI <| Sim.op1 (h_faC o_T) <|
 Sim.opn (h_ldC (t := T_api_Peer) (u := T_api_Endpoint) o_T r_ r_ F_api_Peer_End r_ r_) fun x29 =>
 Sim.op (h_call1 sp_hostport_None (.one o_T)) fun x30 =>
 Sim.opV (h_not o_T) fun x31 =>
 Sim.mvT r_ <|
 Sim.and 4 r_ r_ r_ (Grp.op1 (h_faC o_T) <|
 Grp.opn (h_ldC (t := T_api_Peer) (u := T_api_Endpoint) o_T r_ r_ F_api_Peer_End r_ r_) fun x32 =>
 Grp.op (h_call1 sp_hostport_Right (.one o_T)) fun x33 =>
 Grp.opV (h_not o_T) fun x34 =>
 Grp.nil o_T) fun x35 =>
 Sim.doneS <| Sim.cond o_T (
 Sim.seqI <| Sim.op1 (h_mv o_b) <|
 Sim.doneS <| Sim.outRet <| Sim.ret (.one (res_t r_))) (
 Sim.skip <| Sim.dsI <| Sim.mvT r_ <|
 Sim.op1 (h_faC o_T) <|
 Sim.opn (h_ldC (t := T_api_Peer) (u := (T.arr 32 T.u8)) o_T r_ r_ F_api_Peer_Key r_ r_) fun x36 =>
 Sim.opMV (M_mup (K := (T.arr 32 T.u8)) (V := T.b) ⟨_, (CmpC.arr 32 CmpC.u8), .inl ⟨r_, r_⟩⟩ o_T r_ o_T o_b) fun x37 =>
 Sim.dsI <| Sim.op1 (h_faC o_T) <|
 Sim.opn (h_ldC (t := T_api_Peer) (u := (T.sl T_api_Prefix)) o_T r_ r_ F_api_Peer_Allowed r_ r_) fun x38 =>
 Sim.opV (h_len o_T) fun x39 =>
 Sim.op1 (h_mv o_i) <|
 Sim.doneS <| Sim.blkI <| Sim.loop (id := 2) (σ := (Int × (List (S_api_Prefix × Bool)))) (τ := (List (S_api_Prefix × Bool))) (fun s40 => ⟨[(3, .own 1019), (4, .own 1022), (24, .val (T.sl T_api_Peer) x10), (25, .val (T.int .i64) x11), (26, .val (T.int .i64) s12.1), (60, .val (T.sl T_api_Prefix) x38), (61, .val (T.int .i64) x39), (62, .val (T.int .i64) s40.1)], [(1019, .dom (DMap (T.arr 32 T.u8) T.b) x37), (1022, .dom (DMap T_api_Prefix T.b) s40.2)]⟩) (fun p41 => ⟨[(3, .own 1019), (4, .own 1022), (24, .val (T.sl T_api_Peer) x10), (25, .val (T.int .i64) x11), (26, .val (T.int .i64) s12.1)], [(1019, .dom (DMap (T.arr 32 T.u8) T.b) x37), (1022, .dom (DMap T_api_Prefix T.b) p41)]⟩) (0, s12.2.2) sB (fun _ => r_) (fun s40 =>
 Sim.seqI <| Sim.opV (h_cmpI r_ o_T o_T) fun x42 =>
 Sim.dsI <| Sim.cond o_T (
 Sim.skip <| Sim.dsI <| Sim.blkI <| Sim.seqI <| Sim.op (h_ias r_ o_T o_T) fun x43 =>
 Sim.opn (h_ld r_ r_ o_T) fun x44 =>
 Sim.opMV (M_alloc (t := T_api_Prefix) 8 r_ r_) fun x45 =>
 Sim.opMV (M_stC o_T o_T r_ r_ (Fld.id _) r_) fun x46 =>
 Sim.dsI <| Sim.seqI <| Sim.mvT r_ <|
 Sim.opn (h_ldC (t := T_api_Prefix) (u := T_api_Prefix) o_T r_ r_ (Fld.id _) r_ r_) fun x47 =>
 Sim.opV (h_lkp (K := T_api_Prefix) (V := T.b) ⟨_, C_api_Prefix, .inl ⟨r_, r_⟩⟩ (.inr ⟨r_, r_⟩) o_T r_ o_T) fun x48 =>
 Sim.doneS <| Sim.cond o_T (
 Sim.seqI <| Sim.op1 (h_mv o_b) <|
 Sim.doneS <| Sim.outRet <| Sim.outRet <| Sim.ret (.one (res_t r_))) (
 Sim.skip <| Sim.doneS <| Sim.mvT r_ <|
 Sim.opn (h_ldC (t := T_api_Prefix) (u := T_api_Prefix) o_T r_ r_ (Fld.id _) r_ r_) fun x49 =>
 Sim.opMV (M_mup (K := T_api_Prefix) (V := T.b) ⟨_, C_api_Prefix, .inl ⟨r_, r_⟩⟩ o_T r_ o_T o_b) fun x50 =>
 Sim.doneB <| Sim.doneS <| Sim.opV (h_add (I := (IT.int .i64)) o_T o_i) fun x51 =>
 Sim.mvT r_ <|
 Sim.next (x51, x50) sB)) (
 Sim.exitS <| Sim.out s40.2 sB)) (fun p41 =>
 Sim.exitB <| Sim.doneB <| Sim.doneS <| Sim.opV (h_add (I := (IT.int .i64)) o_T o_i) fun x52 =>
 Sim.mvT r_ <|
 Sim.next (x52, x37, p41) sB)))) (
 Sim.exitS <| Sim.out s12.2.2 sB)) (fun p13 =>
 Sim.exitB <| Sim.dsI <| Sim.mvT r_ <|
 Sim.opV (h_lenm (K := T_api_Prefix) (V := T.b) o_T r_) fun x53 =>
 Sim.opV (h_cmpI r_ o_T o_i) fun x54 =>
 Sim.mvT r_ <|
 Sim.doneS <| Sim.ret (.one (res_t r_))))
theorem sp_view_Right : Spec tb fn_view_Right [T_api_Conf] [T.b] (fun a => view_Right a) :=
  Spec.of f_view_Right r_ r_ r_ sim_view_Right
noncomputable def r34_from (a0 : Int) : Option Bool :=
 (andO (decide (0 ≤ a0)) (some (decide (a0 ≤ 65535)))).bind fun x3 =>
 some x3
noncomputable def sim_r34_from (a : Res [(T.int .i64)]) : SimF tb c_r34_from [(T.int .i64)] [T.b] a :=
 Sim.seqI <| Sim.op1 (h_mv o_b) <|
 Sim.dsI <| Sim.mvT r_ <|
 Sim.opV (h_cmpI r_ o_T o_i) fun x1 =>
 Sim.mvT r_ <|
 Sim.and 2 r_ r_ r_ (Grp.op1 (h_mv (o_t r_)) <|
 Grp.opV (h_cmpI r_ o_T o_i) fun x2 =>
 Grp.nil o_T) fun x3 =>
 Sim.mvT r_ <|
 Sim.doneS <| Sim.ret (.one (res_t r_))
theorem sp_r34_from : Spec tb fn_r34_from [(T.int .i64)] [T.b] (fun a => r34_from a) :=
  Spec.of f_r34_from r_ r_ r_ sim_r34_from
noncomputable def r10_Right (a0 : S_api_Addr) : Option Bool :=
 if (decide (a0.V = 6)) = true then
 some true
 else
 (iter (fun (s3 : Int) =>
 if (decide (s3 < 16)) = true then
 (idxN 16 s3).bind fun x6 =>
 (a0.B.l[x6]?).bind fun x7 =>
 let x8 := !decide ((x7.toNat : Int) = ((0 : UInt8).toNat : Int))
 if x8 = true then
 (some false).map fun r => .inr (.inr r)
 else
 some (.inl (IntKind.i64.wrap (s3 + 1)))
 else
 some (.inr (.inl ()))) 4).bind (Sum.elim (fun (p4 : Unit) =>
 some (decide (a0.V = 4))) some)
noncomputable def sim_r10_Right (a : Res [T_api_Addr]) : SimF tb c_r10_Right [T_api_Addr] [T.b] a :=
 Sim.seqI <| Sim.opMV (M_box (t := T_api_Addr) 1 r_ r_ o_T) fun _ =>
 Sim.op1 (h_mv o_b) <|
 Sim.dsI <| Sim.seqI <| Sim.op1 (h_faC o_T) <|
 Sim.opn (h_ldC (t := T_api_Addr) (u := (T.int .i64)) o_T r_ r_ F_api_Addr_V r_ r_) fun x1 =>
 Sim.opV (h_cmpI r_ o_T o_i) fun x2 =>
 Sim.doneS <| Sim.cond o_T (
 Sim.seqI <| Sim.op1 (h_mv o_b) <|
 Sim.doneS <| Sim.ret (.one (res_t r_))) (
 Sim.skip <| Sim.dsI <| Sim.seqI <| Sim.op1 (h_mv o_i) <|
 Sim.doneS <| Sim.blkI <| Sim.loop (id := 0) (σ := Int) (τ := Unit) (fun s3 => ⟨[(1, .cp 1 0), (3, .val (T.int .i64) s3)], [(1, .cells [(17, .val T_api_Addr a)])]⟩) (fun p4 => ⟨[(1, .cp 1 0)], [(1, .cells [(17, .val T_api_Addr a)])]⟩) 4 sB (fun _ => r_) (fun s3 =>
 Sim.seqI <| Sim.seqI <| Sim.mvT r_ <|
 Sim.opV (h_cmpI r_ o_T o_i) fun x5 =>
 Sim.doneS <| Sim.cond o_T (
 Sim.skip <| Sim.dsI <| Sim.blkI <| Sim.seqI <| Sim.mvT r_ <|
 Sim.op1 (h_faC o_T) <|
 Sim.op (h_iaaC o_T o_T) fun x6 =>
 Sim.op (h_ldA F_api_Addr_B r_ r_ o_T r_ r_) fun x7 =>
 Sim.opV (h_cmp (I := IT.u8) r_ o_T (o_u8 0 r_)) fun x8 =>
 Sim.doneS <| Sim.cond o_T (
 Sim.seqI <| Sim.op1 (h_mv o_b) <|
 Sim.doneS <| Sim.outRet <| Sim.ret (.one (res_t r_))) (
 Sim.skip <| Sim.doneB <| Sim.doneS <| Sim.mvT r_ <|
 Sim.opV (h_add (I := (IT.int .i64)) o_T o_i) fun x9 =>
 Sim.mvT r_ <|
 Sim.next x9 sB)) (
 Sim.exitS <| Sim.out () sB)) (fun p4 =>
 Sim.exitB <| Sim.dsI <| Sim.op1 (h_faC o_T) <|
 Sim.opn (h_ldC (t := T_api_Addr) (u := (T.int .i64)) o_T r_ r_ F_api_Addr_V r_ r_) fun x10 =>
 Sim.opV (h_cmpI r_ o_T o_i) fun x11 =>
 Sim.mvT r_ <|
 Sim.doneS <| Sim.ret (.one (res_t r_))))
theorem sp_r10_Right : Spec tb fn_r10_Right [T_api_Addr] [T.b] (fun a => r10_Right a) :=
  Spec.of f_r10_Right r_ r_ r_ sim_r10_Right
noncomputable def r12_Right (a0 : S_api_Endpoint) : Option Bool :=
 (r10_Right a0.A).bind fun x2 =>
 (andO x2 (some (decide (1 ≤ a0.Port)))).bind fun x5 =>
 (andO x5 (some (decide (a0.Port ≤ 65535)))).bind fun x8 =>
 some x8
noncomputable def sim_r12_Right (a : Res [T_api_Endpoint]) : SimF tb c_r12_Right [T_api_Endpoint] [T.b] a :=
 Sim.seqI <| Sim.opMV (M_box (t := T_api_Endpoint) 1 r_ r_ o_T) fun _ =>
 Sim.op1 (h_mv o_b) <|
 Sim.dsI <| Sim.op1 (h_faC o_T) <|
 Sim.opn (h_ldC (t := T_api_Endpoint) (u := T_api_Addr) o_T r_ r_ F_api_Endpoint_A r_ r_) fun x1 =>
 Sim.op (h_call1 sp_r10_Right (.one o_T)) fun x2 =>
 Sim.mvT r_ <|
 Sim.and 3 r_ r_ r_ (Grp.op1 (h_faC o_T) <|
 Grp.opn (h_ldC (t := T_api_Endpoint) (u := (T.int .i64)) o_T r_ r_ F_api_Endpoint_Port r_ r_) fun x3 =>
 Grp.opV (h_cmpI r_ o_T o_i) fun x4 =>
 Grp.nil o_T) fun x5 =>
 Sim.mvT r_ <|
 Sim.and 3 r_ r_ r_ (Grp.op1 (h_faC o_T) <|
 Grp.opn (h_ldC (t := T_api_Endpoint) (u := (T.int .i64)) o_T r_ r_ F_api_Endpoint_Port r_ r_) fun x6 =>
 Grp.opV (h_cmpI r_ o_T o_i) fun x7 =>
 Grp.nil o_T) fun x8 =>
 Sim.mvT r_ <|
 Sim.doneS <| Sim.ret (.one (res_t r_))
theorem sp_r12_Right : Spec tb fn_r12_Right [T_api_Endpoint] [T.b] (fun a => r12_Right a) :=
  Spec.of f_r12_Right r_ r_ r_ sim_r12_Right
noncomputable def r10_Width (a0 : S_api_Addr) : Option Int :=
 (r10_Right a0).bind fun x2 =>
 if (!x2) = true then
 some 0
 else
 if (decide (a0.V = 4)) = true then
 some 32
 else
 some 128
noncomputable def sim_r10_Width (a : Res [T_api_Addr]) : SimF tb c_r10_Width [T_api_Addr] [(T.int .i64)] a :=
 Sim.seqI <| Sim.opMV (M_box (t := T_api_Addr) 1 r_ r_ o_T) fun _ =>
 Sim.op1 (h_mv o_i) <|
 Sim.dsI <| Sim.seqI <| Sim.opn (h_ldC (t := T_api_Addr) (u := T_api_Addr) o_T r_ r_ (Fld.id _) r_ r_) fun x1 =>
 Sim.op (h_call1 sp_r10_Right (.one o_T)) fun x2 =>
 Sim.opV (h_not o_T) fun x3 =>
 Sim.doneS <| Sim.cond o_T (
 Sim.seqI <| Sim.op1 (h_mv o_i) <|
 Sim.doneS <| Sim.ret (.one (res_t r_))) (
 Sim.skip <| Sim.dsI <| Sim.seqI <| Sim.op1 (h_faC o_T) <|
 Sim.opn (h_ldC (t := T_api_Addr) (u := (T.int .i64)) o_T r_ r_ F_api_Addr_V r_ r_) fun x4 =>
 Sim.opV (h_cmpI r_ o_T o_i) fun x5 =>
 Sim.doneS <| Sim.cond o_T (
 Sim.seqI <| Sim.op1 (h_mv o_i) <|
 Sim.doneS <| Sim.ret (.one (res_t r_))) (
 Sim.skip <| Sim.dsI <| Sim.op1 (h_mv o_i) <|
 Sim.doneS <| Sim.ret (.one (res_t r_))))
theorem sp_r10_Width : Spec tb fn_r10_Width [T_api_Addr] [(T.int .i64)] (fun a => r10_Width a) :=
  Spec.of f_r10_Width r_ r_ r_ sim_r10_Width
noncomputable def r10_digit (a0 : S_api_Addr) (a1 : Int) : Option Int :=
 (if 8 = 0 then none else some (IntKind.i64.wrap (Int.tdiv a1 8))).bind fun x1 =>
 (idxN 16 x1).bind fun x2 =>
 (a0.B.l[x2]?).bind fun x3 =>
 (iter (fun (s5 : (Int × Int)) =>
 (if 8 = 0 then none else some (Int.tmod a1 8)).bind fun x7 =>
 if (decide (x7 < s5.2)) = true then
 (if 2 = 0 then none else some (IntKind.i64.wrap (Int.tdiv s5.1 2))).bind fun x9 =>
 some (.inl (x9, IntKind.i64.wrap (s5.2 - 1)))
 else
 some (.inr (.inl s5.1))) (IntKind.i64.wrap (x3.toNat : Int), 7)).bind (Sum.elim (fun (p6 : Int) =>
 (if 2 = 0 then none else some (Int.tmod p6 2)).bind fun x11 =>
 some x11) some)
noncomputable def sim_r10_digit (a : Res [T_api_Addr, (T.int .i64)]) : SimF tb c_r10_digit [T_api_Addr, (T.int .i64)] [(T.int .i64)] a :=
 Sim.seqI <| Sim.opMV (M_box (t := T_api_Addr) 2 r_ r_ o_T) fun _ =>
 Sim.op1 (h_mv o_i) <|
 Sim.dsI <| Sim.mvT r_ <|
 Sim.op (h_quo (I := (IT.int .i64)) o_T o_i) fun x1 =>
 Sim.op1 (h_faC o_T) <|
 Sim.op (h_iaaC o_T o_T) fun x2 =>
 Sim.op (h_ldA F_api_Addr_B r_ r_ o_T r_ r_) fun x3 =>
 Sim.opV (h_cvi (I := IT.u8) (J := (IT.int .i64)) r_ o_T) fun x4 =>
 Sim.mvT r_ <|
 Sim.dsI <| Sim.seqI <| Sim.op1 (h_mv o_i) <|
 Sim.doneS <| Sim.blkI <| Sim.loop (id := 0) (σ := (Int × Int)) (τ := Int) (fun s5 => ⟨[(1, .val (T.int .i64) a.2), (5, .val (T.int .i64) s5.1), (6, .val (T.int .i64) s5.2)], []⟩) (fun p6 => ⟨[(5, .val (T.int .i64) p6)], []⟩) (x4, 7) sB (fun _ => r_) (fun s5 =>
 Sim.seqI <| Sim.seqI <| Sim.mvT r_ <|
 Sim.mvT r_ <|
 Sim.op (h_rem o_T o_i) fun x7 =>
 Sim.opV (h_cmpI r_ o_T o_T) fun x8 =>
 Sim.doneS <| Sim.cond o_T (
 Sim.skip <| Sim.dsI <| Sim.blkI <| Sim.mvT r_ <|
 Sim.op (h_quo (I := (IT.int .i64)) o_T o_i) fun x9 =>
 Sim.mvT r_ <|
 Sim.doneB <| Sim.doneS <| Sim.mvT r_ <|
 Sim.opV (h_sub (I := (IT.int .i64)) o_T o_i) fun x10 =>
 Sim.mvT r_ <|
 Sim.next (x9, x10) sB) (
 Sim.exitS <| Sim.out s5.1 sB)) (fun p6 =>
 Sim.exitB <| Sim.dsI <| Sim.mvT r_ <|
 Sim.op (h_rem o_T o_i) fun x11 =>
 Sim.mvT r_ <|
 Sim.doneS <| Sim.ret (.one (res_t r_)))
theorem sp_r10_digit : Spec tb fn_r10_digit [T_api_Addr, (T.int .i64)] [(T.int .i64)] (fun a => r10_digit a.1 a.2) :=
  Spec.of f_r10_digit r_ r_ r_ sim_r10_digit
noncomputable def r10_Mask (a0 : S_api_Addr) (a1 : Int) : Option S_api_Addr :=
 (r10_Right a0).bind fun x3 =>
 if (!x3) = true then
 some (⟨0, (T.arr 16 T.u8).z⟩ : S_api_Addr)
 else
 (r10_Width a0).bind fun x12 =>
 (iter (fun (s13 : (Int × S_api_Addr)) =>
 (andO (decide (s13.1 < x12)) (some (decide (s13.1 < a1)))).bind fun x17 =>
 if x17 = true then
 (r10_digit a0 s13.1).bind fun x19 =>
 if (decide (x19 = 1)) = true then
 (iter (fun (s21 : (Int × Int)) =>
 (if 8 = 0 then none else some (Int.tmod s13.1 8)).bind fun x23 =>
 if (decide (s21.2 < x23)) = true then
 (if 2 = 0 then none else some (IntKind.i64.wrap (Int.tdiv s21.1 2))).bind fun x25 =>
 some (.inl (x25, IntKind.i64.wrap (s21.2 + 1)))
 else
 some (.inr (.inl s21.1))) (128, 0)).bind (Sum.elim (fun (p22 : Int) =>
 (if 8 = 0 then none else some (IntKind.i64.wrap (Int.tdiv s13.1 8))).bind fun x27 =>
 (if 8 = 0 then none else some (IntKind.i64.wrap (Int.tdiv s13.1 8))).bind fun x28 =>
 (idxN 16 x28).bind fun x29 =>
 (s13.2.B.l[x29]?).bind fun x30 =>
 let x32 := ofU8 ((x30.toNat : Int) + ((ofU8 p22).toNat : Int))
 (idxN 16 x27).bind fun x33 =>
 (if x33 < 16 then some ({ s13.2 with B := s13.2.B.set x33 x32 }) else none).bind fun x34 =>
 some (.inl (IntKind.i64.wrap (s13.1 + 1), x34))) some)
 else
 some (.inl (IntKind.i64.wrap (s13.1 + 1), s13.2))
 else
 some (.inr (.inl s13.2))) (0, (⟨a0.V, (T.arr 16 T.u8).z⟩ : S_api_Addr))).bind (Sum.elim (fun (p14 : S_api_Addr) =>
 some p14) some)
noncomputable def sim_r10_Mask (a : Res [T_api_Addr, (T.int .i64)]) : SimF tb c_r10_Mask [T_api_Addr, (T.int .i64)] [T_api_Addr] a :=
 Sim.seqI <| Sim.opMV (M_box (t := T_api_Addr) 2 r_ r_ o_T) fun _ =>
 Sim.opMV (M_alloc (t := T_api_Addr) 4 r_ r_) fun x1 =>
 Sim.dsI <| Sim.seqI <| Sim.opn (h_ldC (t := T_api_Addr) (u := T_api_Addr) o_T r_ r_ (Fld.id _) r_ r_) fun x2 =>
 Sim.op (h_call1 sp_r10_Right (.one o_T)) fun x3 =>
 Sim.opV (h_not o_T) fun x4 =>
 Sim.doneS <| Sim.cond o_T (
 Sim.seqI <| Sim.opV (h_bld r_ r_ (.nil _)) fun x5 =>
 Sim.opMV (M_stC o_T o_T r_ r_ (Fld.id _) r_) fun x6 =>
 Sim.doneS <| Sim.ret (.one (res_c r_ r_ r_ (Fld.id _) r_ r_))) (
 Sim.skip <| Sim.dsI <| Sim.op1 (h_faC o_T) <|
 Sim.opn (h_ldC (t := T_api_Addr) (u := (T.int .i64)) o_T r_ r_ F_api_Addr_V r_ r_) fun x7 =>
 Sim.opV (h_bld r_ r_ (.cons F_api_Addr_V r_ o_T <| .nil _)) fun x8 =>
 Sim.opMV (M_alloc (t := T_api_Addr) 5 r_ r_) fun x9 =>
 Sim.opMV (M_stC o_T o_T r_ r_ (Fld.id _) r_) fun x10 =>
 Sim.dsI <| Sim.opn (h_ldC (t := T_api_Addr) (u := T_api_Addr) o_T r_ r_ (Fld.id _) r_ r_) fun x11 =>
 Sim.op (h_call1 sp_r10_Width (.one o_T)) fun x12 =>
 Sim.mvT r_ <|
 Sim.dsI <| Sim.seqI <| Sim.op1 (h_mv o_i) <|
 Sim.doneS <| Sim.blkI <| Sim.loop (id := 0) (σ := (Int × S_api_Addr)) (τ := S_api_Addr) (fun s13 => ⟨[(1, .val (T.int .i64) a.2), (2, .cp 2 0), (4, .cp 4 0), (5, .cp 5 0), (6, .val (T.int .i64) x12), (7, .val (T.int .i64) s13.1)], [(2, .cells [(17, .val T_api_Addr a.1)]), (4, .cells [(17, .val T_api_Addr x1)]), (5, .cells [(17, .val T_api_Addr s13.2)])]⟩) (fun p14 => ⟨[(4, .cp 4 0), (5, .cp 5 0)], [(4, .cells [(17, .val T_api_Addr x1)]), (5, .cells [(17, .val T_api_Addr p14)])]⟩) (0, x10) sB (fun _ => r_) (fun s13 =>
 Sim.seqI <| Sim.seqI <| Sim.mvT r_ <|
 Sim.mvT r_ <|
 Sim.opV (h_cmpI r_ o_T o_T) fun x15 =>
 Sim.mvT r_ <|
 Sim.and 3 r_ r_ r_ (Grp.op1 (h_mv (o_t r_)) <|
 Grp.op1 (h_mv (o_t r_)) <|
 Grp.opV (h_cmpI r_ o_T o_T) fun x16 =>
 Grp.nil o_T) fun x17 =>
 Sim.doneS <| Sim.cond o_T (
 Sim.skip <| Sim.dsI <| Sim.blkI <| Sim.seqI <| Sim.opn (h_ldC (t := T_api_Addr) (u := T_api_Addr) o_T r_ r_ (Fld.id _) r_ r_) fun x18 =>
 Sim.mvT r_ <|
 Sim.op (h_call1 sp_r10_digit (.cons o_T <| .one o_T)) fun x19 =>
 Sim.opV (h_cmpI r_ o_T o_i) fun x20 =>
 Sim.doneS <| Sim.cond o_T (
 Sim.seqI <| Sim.op1 (h_mv o_i) <|
 Sim.dsI <| Sim.seqI <| Sim.op1 (h_mv o_i) <|
 Sim.doneS <| Sim.blkI <| Sim.loop (id := 2) (σ := (Int × Int)) (τ := Int) (fun s21 => ⟨[(1, .val (T.int .i64) a.2), (2, .cp 2 0), (4, .cp 4 0), (5, .cp 5 0), (6, .val (T.int .i64) x12), (7, .val (T.int .i64) s13.1), (8, .val (T.int .i64) s21.1), (9, .val (T.int .i64) s21.2)], [(2, .cells [(17, .val T_api_Addr a.1)]), (4, .cells [(17, .val T_api_Addr x1)]), (5, .cells [(17, .val T_api_Addr s13.2)])]⟩) (fun p22 => ⟨[(1, .val (T.int .i64) a.2), (2, .cp 2 0), (4, .cp 4 0), (5, .cp 5 0), (6, .val (T.int .i64) x12), (7, .val (T.int .i64) s13.1), (8, .val (T.int .i64) p22)], [(2, .cells [(17, .val T_api_Addr a.1)]), (4, .cells [(17, .val T_api_Addr x1)]), (5, .cells [(17, .val T_api_Addr s13.2)])]⟩) (128, 0) sB (fun _ => r_) (fun s21 =>
 Sim.seqI <| Sim.seqI <| Sim.mvT r_ <|
 Sim.mvT r_ <|
 Sim.op (h_rem o_T o_i) fun x23 =>
 Sim.opV (h_cmpI r_ o_T o_T) fun x24 =>
 Sim.doneS <| Sim.cond o_T (
 Sim.skip <| Sim.dsI <| Sim.blkI <| Sim.mvT r_ <|
 Sim.op (h_quo (I := (IT.int .i64)) o_T o_i) fun x25 =>
 Sim.mvT r_ <|
 Sim.doneB <| Sim.doneS <| Sim.mvT r_ <|
 Sim.opV (h_add (I := (IT.int .i64)) o_T o_i) fun x26 =>
 Sim.mvT r_ <|
 Sim.next (x25, x26) sB) (
 Sim.exitS <| Sim.out s21.1 sB)) (fun p22 =>
 Sim.exitB <| Sim.doneS <| Sim.mvT r_ <|
 Sim.op (h_quo (I := (IT.int .i64)) o_T o_i) fun x27 =>
 Sim.mvT r_ <|
 Sim.op (h_quo (I := (IT.int .i64)) o_T o_i) fun x28 =>
 Sim.op1 (h_faC o_T) <|
 Sim.op (h_iaaC o_T o_T) fun x29 =>
 Sim.op (h_ldA F_api_Addr_B r_ r_ o_T r_ r_) fun x30 =>
 Sim.mvT r_ <|
 Sim.opV (h_cvi (I := (IT.int .i64)) (J := IT.u8) r_ o_T) fun x31 =>
 Sim.opV (h_add (I := IT.u8) o_T o_T) fun x32 =>
 Sim.op1 (h_faC o_T) <|
 Sim.op (h_iaaC o_T o_T) fun x33 =>
 Sim.opM (M_stA (s := T_api_Addr) F_api_Addr_B r_ o_T o_T r_ r_) fun x34 =>
 Sim.doneB <| Sim.doneS <| Sim.mvT r_ <|
 Sim.opV (h_add (I := (IT.int .i64)) o_T o_i) fun x35 =>
 Sim.mvT r_ <|
 Sim.next (x35, x34) sB)) (
 Sim.skip <| Sim.doneB <| Sim.doneS <| Sim.mvT r_ <|
 Sim.opV (h_add (I := (IT.int .i64)) o_T o_i) fun x36 =>
 Sim.mvT r_ <|
 Sim.next (x36, s13.2) sB)) (
 Sim.exitS <| Sim.out s13.2 sB)) (fun p14 =>
 Sim.exitB <| Sim.dsI <| Sim.opn (h_ldC (t := T_api_Addr) (u := T_api_Addr) o_T r_ r_ (Fld.id _) r_ r_) fun x37 =>
 Sim.opMV (M_stC o_T o_T r_ r_ (Fld.id _) r_) fun x38 =>
 Sim.doneS <| Sim.ret (.one (res_c r_ r_ r_ (Fld.id _) r_ r_))))
theorem sp_r10_Mask : Spec tb fn_r10_Mask [T_api_Addr, (T.int .i64)] [T_api_Addr] (fun a => r10_Mask a.1 a.2) :=
  Spec.of f_r10_Mask r_ r_ r_ sim_r10_Mask
noncomputable def r11_Right (a0 : S_api_Prefix) : Option Bool :=
 (r10_Right a0.A).bind fun x2 =>
 (orO (!x2) (some (decide (a0.Bits < 0)))).bind fun x6 =>
 (orO x6 ((r10_Width a0.A).bind fun x9 =>
 some (decide (x9 < a0.Bits)))).bind fun x11 =>
 if x11 = true then
 some false
 else
 (r10_Mask a0.A a0.Bits).bind fun x15 =>
 some (cmpB C_api_Addr a0.A x15)
noncomputable def sim_r11_Right (a : Res [T_api_Prefix]) : SimF tb c_r11_Right [T_api_Prefix] [T.b] a :=
 Sim.seqI <| Sim.opMV (M_box (t := T_api_Prefix) 1 r_ r_ o_T) fun _ =>
 Sim.op1 (h_mv o_b) <|
 Sim.dsI <| Sim.seqI <| Sim.op1 (h_faC o_T) <|
 Sim.opn (h_ldC (t := T_api_Prefix) (u := T_api_Addr) o_T r_ r_ F_api_Prefix_A r_ r_) fun x1 =>
 Sim.op (h_call1 sp_r10_Right (.one o_T)) fun x2 =>
 Sim.opV (h_not o_T) fun x3 =>
 Sim.mvT r_ <|
 Sim.or 3 r_ r_ r_ (Grp.op1 (h_faC o_T) <|
 Grp.opn (h_ldC (t := T_api_Prefix) (u := (T.int .i64)) o_T r_ r_ F_api_Prefix_Bits r_ r_) fun x4 =>
 Grp.opV (h_cmpI r_ o_T o_i) fun x5 =>
 Grp.nil o_T) fun x6 =>
 Sim.mvT r_ <|
 Sim.or 6 r_ r_ r_ (Grp.op1 (h_faC o_T) <|
 Grp.opn (h_ldC (t := T_api_Prefix) (u := (T.int .i64)) o_T r_ r_ F_api_Prefix_Bits r_ r_) fun x7 =>
 Grp.op1 (h_faC o_T) <|
 Grp.opn (h_ldC (t := T_api_Prefix) (u := T_api_Addr) o_T r_ r_ F_api_Prefix_A r_ r_) fun x8 =>
 Grp.op (h_call1 sp_r10_Width (.one o_T)) fun x9 =>
 Grp.opV (h_cmpI r_ o_T o_T) fun x10 =>
 Grp.nil o_T) fun x11 =>
 Sim.doneS <| Sim.cond o_T (
 Sim.seqI <| Sim.op1 (h_mv o_b) <|
 Sim.doneS <| Sim.ret (.one (res_t r_))) (
 Sim.skip <| Sim.dsI <| Sim.op1 (h_faC o_T) <|
 Sim.opn (h_ldC (t := T_api_Prefix) (u := T_api_Addr) o_T r_ r_ F_api_Prefix_A r_ r_) fun x12 =>
 Sim.op1 (h_faC o_T) <|
 Sim.opn (h_ldC (t := T_api_Prefix) (u := T_api_Addr) o_T r_ r_ F_api_Prefix_A r_ r_) fun x13 =>
 Sim.op1 (h_faC o_T) <|
 Sim.opn (h_ldC (t := T_api_Prefix) (u := (T.int .i64)) o_T r_ r_ F_api_Prefix_Bits r_ r_) fun x14 =>
 Sim.op (h_call1 sp_r10_Mask (.cons o_T <| .one o_T)) fun x15 =>
 Sim.opV (h_eq C_api_Addr r_ r_ o_T o_T) fun x16 =>
 Sim.mvT r_ <|
 Sim.doneS <| Sim.ret (.one (res_t r_)))
theorem sp_r11_Right : Spec tb fn_r11_Right [T_api_Prefix] [T.b] (fun a => r11_Right a) :=
  Spec.of f_r11_Right r_ r_ r_ sim_r11_Right
noncomputable def r10_Less (a0 : S_api_Addr) (a1 : S_api_Addr) : Option Bool :=
 if (!decide (a0.V = a1.V)) = true then
 some (decide (a0.V < a1.V))
 else
 (iter (fun (s7 : Int) =>
 if (decide (s7 < 16)) = true then
 (idxN 16 s7).bind fun x10 =>
 (a0.B.l[x10]?).bind fun x11 =>
 (idxN 16 s7).bind fun x12 =>
 (a1.B.l[x12]?).bind fun x13 =>
 if (!decide ((x11.toNat : Int) = (x13.toNat : Int))) = true then
 (idxN 16 s7).bind fun x15 =>
 (a0.B.l[x15]?).bind fun x16 =>
 (idxN 16 s7).bind fun x17 =>
 (a1.B.l[x17]?).bind fun x18 =>
 (some (decide ((x16.toNat : Int) < (x18.toNat : Int)))).map fun r => .inr (.inr r)
 else
 some (.inl (IntKind.i64.wrap (s7 + 1)))
 else
 some (.inr (.inl ()))) 0).bind (Sum.elim (fun (p8 : Unit) =>
 some false) some)
noncomputable def sim_r10_Less (a : Res [T_api_Addr, T_api_Addr]) : SimF tb c_r10_Less [T_api_Addr, T_api_Addr] [T.b] a :=
 Sim.seqI <| Sim.opMV (M_box (t := T_api_Addr) 2 r_ r_ o_T) fun _ =>
 Sim.opMV (M_box (t := T_api_Addr) 3 r_ r_ o_T) fun _ =>
 Sim.op1 (h_mv o_b) <|
 Sim.dsI <| Sim.seqI <| Sim.op1 (h_faC o_T) <|
 Sim.opn (h_ldC (t := T_api_Addr) (u := (T.int .i64)) o_T r_ r_ F_api_Addr_V r_ r_) fun x1 =>
 Sim.op1 (h_faC o_T) <|
 Sim.opn (h_ldC (t := T_api_Addr) (u := (T.int .i64)) o_T r_ r_ F_api_Addr_V r_ r_) fun x2 =>
 Sim.opV (h_cmpI r_ o_T o_T) fun x3 =>
 Sim.doneS <| Sim.cond o_T (
 Sim.seqI <| Sim.op1 (h_faC o_T) <|
 Sim.opn (h_ldC (t := T_api_Addr) (u := (T.int .i64)) o_T r_ r_ F_api_Addr_V r_ r_) fun x4 =>
 Sim.op1 (h_faC o_T) <|
 Sim.opn (h_ldC (t := T_api_Addr) (u := (T.int .i64)) o_T r_ r_ F_api_Addr_V r_ r_) fun x5 =>
 Sim.opV (h_cmpI r_ o_T o_T) fun x6 =>
 Sim.mvT r_ <|
 Sim.doneS <| Sim.ret (.one (res_t r_))) (
 Sim.skip <| Sim.dsI <| Sim.seqI <| Sim.op1 (h_mv o_i) <|
 Sim.doneS <| Sim.blkI <| Sim.loop (id := 0) (σ := Int) (τ := Unit) (fun s7 => ⟨[(2, .cp 2 0), (3, .cp 3 0), (5, .val (T.int .i64) s7)], [(2, .cells [(17, .val T_api_Addr a.1)]), (3, .cells [(17, .val T_api_Addr a.2)])]⟩) (fun p8 => ⟨[], []⟩) 0 sB (fun _ => r_) (fun s7 =>
 Sim.seqI <| Sim.seqI <| Sim.mvT r_ <|
 Sim.opV (h_cmpI r_ o_T o_i) fun x9 =>
 Sim.doneS <| Sim.cond o_T (
 Sim.skip <| Sim.dsI <| Sim.blkI <| Sim.seqI <| Sim.mvT r_ <|
 Sim.op1 (h_faC o_T) <|
 Sim.op (h_iaaC o_T o_T) fun x10 =>
 Sim.op (h_ldA F_api_Addr_B r_ r_ o_T r_ r_) fun x11 =>
 Sim.mvT r_ <|
 Sim.op1 (h_faC o_T) <|
 Sim.op (h_iaaC o_T o_T) fun x12 =>
 Sim.op (h_ldA F_api_Addr_B r_ r_ o_T r_ r_) fun x13 =>
 Sim.opV (h_cmp (I := IT.u8) r_ o_T o_T) fun x14 =>
 Sim.doneS <| Sim.cond o_T (
 Sim.seqI <| Sim.mvT r_ <|
 Sim.op1 (h_faC o_T) <|
 Sim.op (h_iaaC o_T o_T) fun x15 =>
 Sim.op (h_ldA F_api_Addr_B r_ r_ o_T r_ r_) fun x16 =>
 Sim.mvT r_ <|
 Sim.op1 (h_faC o_T) <|
 Sim.op (h_iaaC o_T o_T) fun x17 =>
 Sim.op (h_ldA F_api_Addr_B r_ r_ o_T r_ r_) fun x18 =>
 Sim.opV (h_cmp (I := IT.u8) r_ o_T o_T) fun x19 =>
 Sim.mvT r_ <|
 Sim.doneS <| Sim.outRet <| Sim.ret (.one (res_t r_))) (
 Sim.skip <| Sim.doneB <| Sim.doneS <| Sim.mvT r_ <|
 Sim.opV (h_add (I := (IT.int .i64)) o_T o_i) fun x20 =>
 Sim.mvT r_ <|
 Sim.next x20 sB)) (
 Sim.exitS <| Sim.out () sB)) (fun p8 =>
 Sim.exitB <| Sim.dsI <| Sim.op1 (h_mv o_b) <|
 Sim.doneS <| Sim.ret (.one (res_t r_))))
theorem sp_r10_Less : Spec tb fn_r10_Less [T_api_Addr, T_api_Addr] [T.b] (fun a => r10_Less a.1 a.2) :=
  Spec.of f_r10_Less r_ r_ r_ sim_r10_Less
noncomputable def r11_Less (a0 : S_api_Prefix) (a1 : S_api_Prefix) : Option Bool :=
 if (!(cmpB C_api_Addr a0.A a1.A)) = true then
 (r10_Less a0.A a1.A).bind fun x6 =>
 some x6
 else
 some (decide (a0.Bits < a1.Bits))
noncomputable def sim_r11_Less (a : Res [T_api_Prefix, T_api_Prefix]) : SimF tb c_r11_Less [T_api_Prefix, T_api_Prefix] [T.b] a :=
 Sim.seqI <| Sim.opMV (M_box (t := T_api_Prefix) 2 r_ r_ o_T) fun _ =>
 Sim.opMV (M_box (t := T_api_Prefix) 3 r_ r_ o_T) fun _ =>
 Sim.op1 (h_mv o_b) <|
 Sim.dsI <| Sim.seqI <| Sim.op1 (h_faC o_T) <|
 Sim.opn (h_ldC (t := T_api_Prefix) (u := T_api_Addr) o_T r_ r_ F_api_Prefix_A r_ r_) fun x1 =>
 Sim.op1 (h_faC o_T) <|
 Sim.opn (h_ldC (t := T_api_Prefix) (u := T_api_Addr) o_T r_ r_ F_api_Prefix_A r_ r_) fun x2 =>
 Sim.opV (h_eq C_api_Addr r_ r_ o_T o_T) fun x3 =>
 Sim.doneS <| Sim.cond o_T (
 Sim.seqI <| Sim.op1 (h_faC o_T) <|
 Sim.opn (h_ldC (t := T_api_Prefix) (u := T_api_Addr) o_T r_ r_ F_api_Prefix_A r_ r_) fun x4 =>
 Sim.op1 (h_faC o_T) <|
 Sim.opn (h_ldC (t := T_api_Prefix) (u := T_api_Addr) o_T r_ r_ F_api_Prefix_A r_ r_) fun x5 =>
 Sim.op (h_call1 sp_r10_Less (.cons o_T <| .one o_T)) fun x6 =>
 Sim.mvT r_ <|
 Sim.doneS <| Sim.ret (.one (res_t r_))) (
 Sim.skip <| Sim.dsI <| Sim.op1 (h_faC o_T) <|
 Sim.opn (h_ldC (t := T_api_Prefix) (u := (T.int .i64)) o_T r_ r_ F_api_Prefix_Bits r_ r_) fun x7 =>
 Sim.op1 (h_faC o_T) <|
 Sim.opn (h_ldC (t := T_api_Prefix) (u := (T.int .i64)) o_T r_ r_ F_api_Prefix_Bits r_ r_) fun x8 =>
 Sim.opV (h_cmpI r_ o_T o_T) fun x9 =>
 Sim.mvT r_ <|
 Sim.doneS <| Sim.ret (.one (res_t r_)))
theorem sp_r11_Less : Spec tb fn_r11_Less [T_api_Prefix, T_api_Prefix] [T.b] (fun a => r11_Less a.1 a.2) :=
  Spec.of f_r11_Less r_ r_ r_ sim_r11_Less
noncomputable def r34_Right (a0 : S_api_Conf) : Option Bool :=
 (r34_from a0.Port).bind fun x2 =>
 (orO (!x2) (some (decide (16 < (a0.Peers.l.length : Int))))).bind fun x7 =>
 if x7 = true then
 some false
 else
 (iter (fun (s8 : (Int × (GS S_api_Prefix))) =>
 if (decide (s8.1 < (a0.Peers.l.length : Int))) = true then
 (idx a0.Peers.l s8.1).bind fun x14 =>
 let x19 := (⟨[0, 0, 0, 0, 0, 0, 0, 0, 0, 0, 0, 0, 0, 0, 0, 0, 0, 0, 0, 0, 0, 0, 0, 0, 0, 0, 0, 0, 0, 0, 0, 0], rfl⟩ : (Ar UInt8 32))
 (orO (cmpB (CmpC.arr 32 CmpC.u8) x14.Key x19) ((r34_from x14.Keep).bind fun x22 =>
 some (!x22))).bind fun x24 =>
 (orO x24 (let x27 := !(cmpB C_api_Endpoint x14.End (⟨T_api_Addr.z, 0⟩ : S_api_Endpoint))
 (andO x27 ((r12_Right x14.End).bind fun x29 =>
 some (!x29))).bind fun x31 =>
 some x31)).bind fun x32 =>
 if x32 = true then
 (some false).map fun r => .inr (.inr r)
 else
 (iter (fun (s33 : Int) =>
 if (decide (s33 < s8.1)) = true then
 (idx a0.Peers.l s33).bind fun x37 =>
 if (cmpB (CmpC.arr 32 CmpC.u8) x37.Key x14.Key) = true then
 ((some false).map fun r => .inr (.inr r)).map fun r => .inr (.inr r)
 else
 some (.inl (IntKind.i64.wrap (s33 + 1)))
 else
 some (.inr (.inl ()))) 0).bind (Sum.elim (fun (p34 : Unit) =>
 (iter (fun (s43 : (Int × (GS S_api_Prefix))) =>
 if (decide (s43.1 < (x14.Allowed.l.length : Int))) = true then
 (idx x14.Allowed.l s43.1).bind fun x49 =>
 (r11_Right x49).bind fun x54 =>
 (orO (!x54) ((andO (decide (0 < s43.1)) ((idx x14.Allowed.l (IntKind.i64.wrap (s43.1 - 1))).bind fun x59 =>
 (r11_Less x59 x49).bind fun x62 =>
 some (!x62))).bind fun x64 =>
 some x64)).bind fun x65 =>
 if x65 = true then
 ((some false).map fun r => .inr (.inr r)).map fun r => .inr (.inr r)
 else
 (iter (fun (s66 : Int) =>
 if (decide (s66 < (s43.2.l.length : Int))) = true then
 (idxN s43.2.l.length s66).bind fun x70 =>
 (s43.2.l[x70]?.map fun x => x).bind fun x71 =>
 if (cmpB C_api_Prefix x71 x49) = true then
 (((some false).map fun r => .inr (.inr r)).map fun r => .inr (.inr r)).map fun r => .inr (.inr r)
 else
 some (.inl (IntKind.i64.wrap (s66 + 1)))
 else
 some (.inr (.inl ()))) 0).bind (Sum.elim (fun (p67 : Unit) =>
 (apG 32 s43.2 [x49]).bind fun x77 =>
 some (.inl (IntKind.i64.wrap (s43.1 + 1), x77))) some)
 else
 some (.inr (.inl s43.2))) (0, s8.2)).bind (Sum.elim (fun (p44 : (GS S_api_Prefix)) =>
 some (.inl (IntKind.i64.wrap (s8.1 + 1), p44))) some)) some)
 else
 some (.inr (.inl s8.2))) (0, .nil)).bind (Sum.elim (fun (p9 : (GS S_api_Prefix)) =>
 some (decide ((p9.l.length : Int) ≤ 64))) some)
noncomputable def sim_r34_Right (a : Res [T_api_Conf]) : SimF tb c_r34_Right [T_api_Conf] [T.b] a :=
 Sim.seqI <| Sim.opMV (M_box (t := T_api_Conf) 1 r_ r_ o_T) fun _ =>
 Sim.op1 (h_mv o_b) <|
 Sim.dsI <| Sim.seqI <| Sim.op1 (h_faC o_T) <|
 Sim.opn (h_ldC (t := T_api_Conf) (u := (T.int .i64)) o_T r_ r_ F_api_Conf_Port r_ r_) fun x1 =>
 Sim.op (h_call1 sp_r34_from (.one o_T)) fun x2 =>
 Sim.opV (h_not o_T) fun x3 =>
 Sim.mvT r_ <|
 Sim.or 4 r_ r_ r_ (Grp.op1 (h_faC o_T) <|
 Grp.opn (h_ldC (t := T_api_Conf) (u := (T.sl T_api_Peer)) o_T r_ r_ F_api_Conf_Peers r_ r_) fun x4 =>
 Grp.opV (h_len o_T) fun x5 =>
 Grp.opV (h_cmpI r_ o_T o_i) fun x6 =>
 Grp.nil o_T) fun x7 =>
 Sim.doneS <| Sim.cond o_T (
 Sim.seqI <| Sim.op1 (h_mv o_b) <|
 Sim.doneS <| Sim.ret (.one (res_t r_))) (
 Sim.skip <| Sim.dsI <| Sim.op1 (h_mv (o_nils (t := T_api_Prefix))) <| Sim.turn (born (n := 3) (j := 1003) r_ r_) <|
 Sim.dsI <| Sim.seqI <| Sim.op1 (h_mv o_i) <|
 Sim.doneS <| Sim.blkI <| Sim.loop (id := 0) (σ := (Int × (GS S_api_Prefix))) (τ := (GS S_api_Prefix)) (fun s8 => ⟨[(1, .cp 1 0), (3, .own 1003), (4, .val (T.int .i64) s8.1)], [(1, .cells [(35, .val T_api_Conf a)]), (1003, .row T_api_Prefix s8.2)]⟩) (fun p9 => ⟨[(3, .own 1003)], [(1003, .row T_api_Prefix p9)]⟩) (0, .nil) sB (fun _ => r_) (fun s8 =>
 Sim.seqI <| Sim.seqI <| Sim.mvT r_ <|
 Sim.op1 (h_faC o_T) <|
 Sim.opn (h_ldC (t := T_api_Conf) (u := (T.sl T_api_Peer)) o_T r_ r_ F_api_Conf_Peers r_ r_) fun x10 =>
 Sim.opV (h_len o_T) fun x11 =>
 Sim.opV (h_cmpI r_ o_T o_T) fun x12 =>
 Sim.doneS <| Sim.cond o_T (
 Sim.skip <| Sim.dsI <| Sim.blkI <| Sim.seqI <| Sim.op1 (h_faC o_T) <|
 Sim.opn (h_ldC (t := T_api_Conf) (u := (T.sl T_api_Peer)) o_T r_ r_ F_api_Conf_Peers r_ r_) fun x13 =>
 Sim.mvT r_ <|
 Sim.op (h_ias r_ o_T o_T) fun x14 =>
 Sim.opn (h_ld r_ r_ o_T) fun x15 =>
 Sim.opMV (M_alloc (t := T_api_Peer) 5 r_ r_) fun x16 =>
 Sim.opMV (M_stC o_T o_T r_ r_ (Fld.id _) r_) fun x17 =>
 Sim.dsI <| Sim.seqI <| Sim.op1 (h_faC o_T) <|
 Sim.opn (h_ldC (t := T_api_Peer) (u := (T.arr 32 T.u8)) o_T r_ r_ F_api_Peer_Key r_ r_) fun x18 =>
 Sim.opn (h_bldA (t := T.u8) (⟨[0, 0, 0, 0, 0, 0, 0, 0, 0, 0, 0, 0, 0, 0, 0, 0, 0, 0, 0, 0, 0, 0, 0, 0, 0, 0, 0, 0, 0, 0, 0, 0], r_⟩ : (Ar UInt8 32)) r_ (.nil _)) fun x19 =>
 Sim.opV (h_eq (CmpC.arr 32 CmpC.u8) r_ r_ o_T o_T) fun x20 =>
 Sim.mvT r_ <|
 Sim.or 4 r_ r_ r_ (Grp.op1 (h_faC o_T) <|
 Grp.opn (h_ldC (t := T_api_Peer) (u := (T.int .i64)) o_T r_ r_ F_api_Peer_Keep r_ r_) fun x21 =>
 Grp.op (h_call1 sp_r34_from (.one o_T)) fun x22 =>
 Grp.opV (h_not o_T) fun x23 =>
 Grp.nil o_T) fun x24 =>
 Sim.mvT r_ <|
 Sim.or 10 r_ r_ r_ (Grp.op1 (h_faC o_T) <|
 Grp.opn (h_ldC (t := T_api_Peer) (u := T_api_Endpoint) o_T r_ r_ F_api_Peer_End r_ r_) fun x25 =>
 Grp.opV (h_bld r_ r_ (.nil _)) fun x26 =>
 Grp.opV (h_eq C_api_Endpoint r_ r_ o_T o_T) fun x27 =>
 Grp.op1 (h_mv (o_t r_)) <|
 Grp.and 4 r_ r_ r_ r_ r_ (Grp.op1 (h_faC o_T) <|
 Grp.opn (h_ldC (t := T_api_Peer) (u := T_api_Endpoint) o_T r_ r_ F_api_Peer_End r_ r_) fun x28 =>
 Grp.op (h_call1 sp_r12_Right (.one o_T)) fun x29 =>
 Grp.opV (h_not o_T) fun x30 =>
 Grp.nil o_T) fun x31 =>
 Grp.nil o_T) fun x32 =>
 Sim.doneS <| Sim.cond o_T (
 Sim.seqI <| Sim.op1 (h_mv o_b) <|
 Sim.doneS <| Sim.outRet <| Sim.ret (.one (res_t r_))) (
 Sim.skip <| Sim.dsI <| Sim.seqI <| Sim.op1 (h_mv o_i) <|
 Sim.doneS <| Sim.blkI <| Sim.loop (id := 2) (σ := Int) (τ := Unit) (fun s33 => ⟨[(1, .cp 1 0), (3, .own 1003), (4, .val (T.int .i64) s8.1), (5, .cp 5 0), (6, .val (T.int .i64) s33)], [(1, .cells [(35, .val T_api_Conf a)]), (5, .cells [(86, .val T_api_Peer x17)]), (1003, .row T_api_Prefix s8.2)]⟩) (fun p34 => ⟨[(1, .cp 1 0), (3, .own 1003), (4, .val (T.int .i64) s8.1), (5, .cp 5 0)], [(1, .cells [(35, .val T_api_Conf a)]), (5, .cells [(86, .val T_api_Peer x17)]), (1003, .row T_api_Prefix s8.2)]⟩) 0 sB (fun _ => r_) (fun s33 =>
 Sim.seqI <| Sim.seqI <| Sim.mvT r_ <|
 Sim.mvT r_ <|
 Sim.opV (h_cmpI r_ o_T o_T) fun x35 =>
 Sim.doneS <| Sim.cond o_T (
 Sim.skip <| Sim.dsI <| Sim.blkI <| Sim.seqI <| Sim.op1 (h_faC o_T) <|
 Sim.opn (h_ldC (t := T_api_Conf) (u := (T.sl T_api_Peer)) o_T r_ r_ F_api_Conf_Peers r_ r_) fun x36 =>
 Sim.mvT r_ <|
 Sim.op (h_ias r_ o_T o_T) fun x37 =>
 Sim.opr (h_fa F_api_Peer_Key o_T) fun x38 =>
 Sim.opn (h_ld r_ r_ o_T) fun x39 =>
 Sim.op1 (h_faC o_T) <|
 Sim.opn (h_ldC (t := T_api_Peer) (u := (T.arr 32 T.u8)) o_T r_ r_ F_api_Peer_Key r_ r_) fun x40 =>
 Sim.opV (h_eq (CmpC.arr 32 CmpC.u8) r_ r_ o_T o_T) fun x41 =>
 Sim.doneS <| Sim.cond o_T (
 Sim.seqI <| Sim.op1 (h_mv o_b) <|
 Sim.doneS <| Sim.outRet <| Sim.outRet <| Sim.ret (.one (res_t r_))) (
 Sim.skip <| Sim.doneB <| Sim.doneS <| Sim.mvT r_ <|
 Sim.opV (h_add (I := (IT.int .i64)) o_T o_i) fun x42 =>
 Sim.mvT r_ <|
 Sim.next x42 sB)) (
 Sim.exitS <| Sim.out () sB)) (fun p34 =>
 Sim.exitB <| Sim.dsI <| Sim.op1 (h_mv o_i) <|
 Sim.doneS <| Sim.blkI <| Sim.loop (id := 4) (σ := (Int × (GS S_api_Prefix))) (τ := (GS S_api_Prefix)) (fun s43 => ⟨[(1, .cp 1 0), (3, .own 1003), (4, .val (T.int .i64) s8.1), (5, .cp 5 0), (7, .val (T.int .i64) s43.1)], [(1, .cells [(35, .val T_api_Conf a)]), (5, .cells [(86, .val T_api_Peer x17)]), (1003, .row T_api_Prefix s43.2)]⟩) (fun p44 => ⟨[(1, .cp 1 0), (3, .own 1003), (4, .val (T.int .i64) s8.1)], [(1, .cells [(35, .val T_api_Conf a)]), (1003, .row T_api_Prefix p44)]⟩) (0, s8.2) sB (fun _ => r_) (fun s43 =>
 Sim.seqI <| Sim.seqI <| Sim.mvT r_ <|
 Sim.op1 (h_faC o_T) <|
 Sim.opn (h_ldC (t := T_api_Peer) (u := (T.sl T_api_Prefix)) o_T r_ r_ F_api_Peer_Allowed r_ r_) fun x45 =>
 Sim.opV (h_len o_T) fun x46 =>
 Sim.opV (h_cmpI r_ o_T o_T) fun x47 =>
 Sim.doneS <| Sim.cond o_T (
 Sim.skip <| Sim.dsI <| Sim.blkI <| Sim.seqI <| Sim.op1 (h_faC o_T) <|
 Sim.opn (h_ldC (t := T_api_Peer) (u := (T.sl T_api_Prefix)) o_T r_ r_ F_api_Peer_Allowed r_ r_) fun x48 =>
 Sim.mvT r_ <|
 Sim.op (h_ias r_ o_T o_T) fun x49 =>
 Sim.opn (h_ld r_ r_ o_T) fun x50 =>
 Sim.opMV (M_alloc (t := T_api_Prefix) 8 r_ r_) fun x51 =>
 Sim.opMV (M_stC o_T o_T r_ r_ (Fld.id _) r_) fun x52 =>
 Sim.dsI <| Sim.seqI <| Sim.opn (h_ldC (t := T_api_Prefix) (u := T_api_Prefix) o_T r_ r_ (Fld.id _) r_ r_) fun x53 =>
 Sim.op (h_call1 sp_r11_Right (.one o_T)) fun x54 =>
 Sim.opV (h_not o_T) fun x55 =>
 Sim.mvT r_ <|
 Sim.or 13 r_ r_ r_ (Grp.op1 (h_mv (o_t r_)) <|
 Grp.opV (h_cmpI r_ o_T o_i) fun x56 =>
 Grp.op1 (h_mv (o_t r_)) <|
 Grp.and 9 r_ r_ r_ r_ r_ (Grp.op1 (h_faC o_T) <|
 Grp.opn (h_ldC (t := T_api_Peer) (u := (T.sl T_api_Prefix)) o_T r_ r_ F_api_Peer_Allowed r_ r_) fun x57 =>
 Grp.op1 (h_mv (o_t r_)) <|
 Grp.opV (h_sub (I := (IT.int .i64)) o_T o_i) fun x58 =>
 Grp.op (h_ias r_ o_T o_T) fun x59 =>
 Grp.opn (h_ld r_ r_ o_T) fun x60 =>
 Grp.opn (h_ldC (t := T_api_Prefix) (u := T_api_Prefix) o_T r_ r_ (Fld.id _) r_ r_) fun x61 =>
 Grp.op (h_call1 sp_r11_Less (.cons o_T <| .one o_T)) fun x62 =>
 Grp.opV (h_not o_T) fun x63 =>
 Grp.nil o_T) fun x64 =>
 Grp.nil o_T) fun x65 =>
 Sim.doneS <| Sim.cond o_T (
 Sim.seqI <| Sim.op1 (h_mv o_b) <|
 Sim.doneS <| Sim.outRet <| Sim.outRet <| Sim.ret (.one (res_t r_))) (
 Sim.skip <| Sim.dsI <| Sim.seqI <| Sim.op1 (h_mv o_i) <|
 Sim.doneS <| Sim.blkI <| Sim.loop (id := 6) (σ := Int) (τ := Unit) (fun s66 => ⟨[(1, .cp 1 0), (3, .own 1003), (4, .val (T.int .i64) s8.1), (5, .cp 5 0), (7, .val (T.int .i64) s43.1), (8, .cp 8 0), (9, .val (T.int .i64) s66)], [(1, .cells [(35, .val T_api_Conf a)]), (5, .cells [(86, .val T_api_Peer x17)]), (8, .cells [(18, .val T_api_Prefix x52)]), (1003, .row T_api_Prefix s43.2)]⟩) (fun p67 => ⟨[(1, .cp 1 0), (3, .own 1003), (4, .val (T.int .i64) s8.1), (5, .cp 5 0), (7, .val (T.int .i64) s43.1), (8, .cp 8 0)], [(1, .cells [(35, .val T_api_Conf a)]), (5, .cells [(86, .val T_api_Peer x17)]), (8, .cells [(18, .val T_api_Prefix x52)]), (1003, .row T_api_Prefix s43.2)]⟩) 0 sB (fun _ => r_) (fun s66 =>
 Sim.seqI <| Sim.seqI <| Sim.mvT r_ <|
 Sim.mvT r_ <|
 Sim.opV (h_lenO o_T r_) fun x68 =>
 Sim.opV (h_cmpI r_ o_T o_T) fun x69 =>
 Sim.doneS <| Sim.cond o_T (
 Sim.skip <| Sim.dsI <| Sim.blkI <| Sim.seqI <| Sim.mvT r_ <|
 Sim.mvT r_ <|
 Sim.op (h_iasO r_ o_T r_ o_T) fun x70 =>
 Sim.op (h_ldE (t := T_api_Prefix) (u := T_api_Prefix) r_ r_ (Fld.id _) o_T r_) fun x71 =>
 Sim.opn (h_ldC (t := T_api_Prefix) (u := T_api_Prefix) o_T r_ r_ (Fld.id _) r_ r_) fun x72 =>
 Sim.opV (h_eq C_api_Prefix r_ r_ o_T o_T) fun x73 =>
 Sim.doneS <| Sim.cond o_T (
 Sim.seqI <| Sim.op1 (h_mv o_b) <|
 Sim.doneS <| Sim.outRet <| Sim.outRet <| Sim.outRet <| Sim.ret (.one (res_t r_))) (
 Sim.skip <| Sim.doneB <| Sim.doneS <| Sim.mvT r_ <|
 Sim.opV (h_add (I := (IT.int .i64)) o_T o_i) fun x74 =>
 Sim.mvT r_ <|
 Sim.next x74 sB)) (
 Sim.exitS <| Sim.out () sB)) (fun p67 =>
 Sim.exitB <| Sim.doneS <| Sim.mvT r_ <|
 Sim.opn (h_ldC (t := T_api_Prefix) (u := T_api_Prefix) o_T r_ r_ (Fld.id _) r_ r_) fun x75 =>
 Sim.opV (h_bll (t := T_api_Prefix) (n := 1) r_ r_ (.cons r_ o_T <| .nil _)) fun x76 =>
 Sim.opM (M_app r_ o_T r_ (n_sl o_T)) fun x77 =>
 Sim.mvT r_ <|
 Sim.doneB <| Sim.doneS <| Sim.mvT r_ <|
 Sim.opV (h_add (I := (IT.int .i64)) o_T o_i) fun x78 =>
 Sim.mvT r_ <|
 Sim.next (x78, x77) sB))) (
 Sim.exitS <| Sim.out s43.2 sB)) (fun p44 =>
 Sim.exitB <| Sim.doneB <| Sim.doneS <| Sim.mvT r_ <|
 Sim.opV (h_add (I := (IT.int .i64)) o_T o_i) fun x79 =>
 Sim.mvT r_ <|
 Sim.next (x79, p44) sB)))) (
 Sim.exitS <| Sim.out s8.2 sB)) (fun p9 =>
 Sim.exitB <| Sim.dsI <| Sim.mvT r_ <|
 Sim.opV (h_lenO o_T r_) fun x80 =>
 Sim.opV (h_cmpI r_ o_T o_i) fun x81 =>
 Sim.mvT r_ <|
 Sim.doneS <| Sim.ret (.one (res_t r_))))
theorem sp_r34_Right : Spec tb fn_r34_Right [T_api_Conf] [T.b] (fun a => r34_Right a) :=
  Spec.of f_r34_Right r_ r_ r_ sim_r34_Right
noncomputable def r34_Bare (a0 : S_api_Conf) : Option S_api_Conf :=
 (iter (fun (s5 : (Int × (GS S_api_Peer))) =>
 if (decide (s5.1 < (a0.Peers.l.length : Int))) = true then
 (idx a0.Peers.l s5.1).bind fun x11 =>
 let x16 := { { x11 with Sent := (0 : UInt64) } with Got := (0 : UInt64) }
 (apG 144 s5.2 [x16]).bind fun x19 =>
 some (.inl (IntKind.i64.wrap (s5.1 + 1), x19))
 else
 some (.inr (.inl s5.2))) (0, .nil)).bind (Sum.elim (fun (p6 : (GS S_api_Peer)) =>
 let x21 := (⟨a0.Private, a0.Port, a0.Mark, p6⟩ : S_api_Conf)
 some x21) some)
noncomputable def sim_r34_Bare (a : Res [T_api_Conf]) : SimF tb c_r34_Bare [T_api_Conf] [T_api_Conf] a :=
 Sim.seqI <| Sim.opMV (M_box (t := T_api_Conf) 1 r_ r_ o_T) fun _ =>
 Sim.opMV (M_alloc (t := T_api_Conf) 2 r_ r_) fun x1 =>
 Sim.dsI <| Sim.opn (h_ldC (t := T_api_Conf) (u := T_api_Conf) o_T r_ r_ (Fld.id _) r_ r_) fun x2 =>
 Sim.opMV (M_alloc (t := T_api_Conf) 3 r_ r_) fun x3 =>
 Sim.opMV (OpM.u (M_stC o_T o_T r_ r_ (Fld.id _) r_)) fun _ =>
 Sim.dsI <| Sim.op1 (h_faC o_T) <|
 Sim.turn (Rel.split (j := 3) r_ (.iso (.prod .one (.prod .one (.prod .one .one))))) <|
 Sim.opMV (OpM.u (M_stC o_T (o_nils (t := T_api_Peer)) r_ r_ (Fld.id _) r_)) fun _ =>
 Sim.turn (bornP (t := T_api_Peer) (i := 3) (o := 34) (j := 3033) r_ r_ r_ r_) <|
 Sim.dsI <| Sim.seqI <| Sim.op1 (h_mv o_i) <|
 Sim.doneS <| Sim.blkI <| Sim.loop (id := 0) (σ := (Int × (GS S_api_Peer))) (τ := (GS S_api_Peer)) (fun s5 => ⟨[(1, .cp 1 0), (2, .cp 2 0), (3, .cp 3 0), (4, .val (T.int .i64) s5.1)], [(1, .cells [(35, .val T_api_Conf a)]), (2, .cells [(35, .val T_api_Conf x1)]), (3, .cells [(32, .val (T.arr 32 T.u8) x2.Private), (1, .val (T.int .i64) x2.Port), (1, .val T.u32 x2.Mark), (1, .own 3033)]), (3033, .row T_api_Peer s5.2)]⟩) (fun p6 => ⟨[(2, .cp 2 0), (3, .cp 3 0)], [(2, .cells [(35, .val T_api_Conf x1)]), (3, .cells [(32, .val (T.arr 32 T.u8) x2.Private), (1, .val (T.int .i64) x2.Port), (1, .val T.u32 x2.Mark), (1, .own 3033)]), (3033, .row T_api_Peer p6)]⟩) (0, .nil) sB (fun _ => r_) (fun s5 =>
 Sim.seqI <| Sim.seqI <| Sim.mvT r_ <|
 Sim.op1 (h_faC o_T) <|
 Sim.opn (h_ldC (t := T_api_Conf) (u := (T.sl T_api_Peer)) o_T r_ r_ F_api_Conf_Peers r_ r_) fun x7 =>
 Sim.opV (h_len o_T) fun x8 =>
 Sim.opV (h_cmpI r_ o_T o_T) fun x9 =>
 Sim.doneS <| Sim.cond o_T (
 Sim.skip <| Sim.dsI <| Sim.blkI <| Sim.seqI <| Sim.op1 (h_faC o_T) <|
 Sim.opn (h_ldC (t := T_api_Conf) (u := (T.sl T_api_Peer)) o_T r_ r_ F_api_Conf_Peers r_ r_) fun x10 =>
 Sim.mvT r_ <|
 Sim.op (h_ias r_ o_T o_T) fun x11 =>
 Sim.opn (h_ld r_ r_ o_T) fun x12 =>
 Sim.opMV (M_alloc (t := T_api_Peer) 5 r_ r_) fun x13 =>
 Sim.opMV (M_stC o_T o_T r_ r_ (Fld.id _) r_) fun x14 =>
 Sim.dsI <| Sim.op1 (h_faC o_T) <|
 Sim.opMV (M_stC o_T (o_u64 0 r_) r_ r_ F_api_Peer_Sent r_) fun x15 =>
 Sim.dsI <| Sim.op1 (h_faC o_T) <|
 Sim.opMV (M_stC o_T (o_u64 0 r_) r_ r_ F_api_Peer_Got r_) fun x16 =>
 Sim.doneS <| Sim.op1 (h_faC o_T) <|
 Sim.op1 (h_ldCr o_T r_ r_ r_) <|
 Sim.opn (h_ldC (t := T_api_Peer) (u := T_api_Peer) o_T r_ r_ (Fld.id _) r_ r_) fun x17 =>
 Sim.opV (h_bll (t := T_api_Peer) (n := 1) r_ r_ (.cons r_ o_T <| .nil _)) fun x18 =>
 Sim.opM (M_app r_ o_T r_ (n_sl o_T)) fun x19 =>
 Sim.op1 (h_faC o_T) <|
 Sim.opMV (M_stR r_ r_ o_T o_T r_ r_) fun _ =>
 Sim.doneB <| Sim.doneS <| Sim.mvT r_ <|
 Sim.opV (h_add (I := (IT.int .i64)) o_T o_i) fun x20 =>
 Sim.mvT r_ <|
 Sim.next (x20, x19) sB) (
 Sim.exitS <| Sim.out s5.2 sB)) (fun p6 =>
 Sim.exitB <| Sim.dsI <| Sim.frzRow 3033 r_ r_ <| Sim.turn (Rel.merge (j := 3) (t := T_api_Conf) (⟨x2.Private, x2.Port, x2.Mark, p6⟩ : S_api_Conf) r_ (.iso (.prod .one (.prod .one (.prod .one .one))) r_)) <|
 Sim.opn (h_ldC (t := T_api_Conf) (u := T_api_Conf) o_T r_ r_ (Fld.id _) r_ r_) fun x21 =>
 Sim.opMV (M_stC o_T o_T r_ r_ (Fld.id _) r_) fun x22 =>
 Sim.doneS <| Sim.ret (.one (res_c r_ r_ r_ (Fld.id _) r_ r_)))
theorem sp_r34_Bare : Spec tb fn_r34_Bare [T_api_Conf] [T_api_Conf] (fun a => r34_Bare a) :=
  Spec.of f_r34_Bare r_ r_ r_ sim_r34_Bare
noncomputable def r11_Same (a0 : (GS S_api_Prefix)) (a1 : (GS S_api_Prefix)) : Option Bool :=
 let x3 := !decide ((a0.l.length : Int) = (a1.l.length : Int))
 if x3 = true then
 some false
 else
 (iter (fun (s4 : Int) =>
 if (decide (s4 < (a0.l.length : Int))) = true then
 (idx a0.l s4).bind fun x8 =>
 (idx a1.l s4).bind fun x10 =>
 if (!(cmpB C_api_Prefix x8 x10)) = true then
 (some false).map fun r => .inr (.inr r)
 else
 some (.inl (IntKind.i64.wrap (s4 + 1)))
 else
 some (.inr (.inl ()))) 0).bind (Sum.elim (fun (p5 : Unit) =>
 some true) some)
noncomputable def sim_r11_Same (a : Res [(T.sl T_api_Prefix), (T.sl T_api_Prefix)]) : SimF tb c_r11_Same [(T.sl T_api_Prefix), (T.sl T_api_Prefix)] [T.b] a :=
 Sim.seqI <| Sim.op1 (h_mv o_b) <|
 Sim.dsI <| Sim.seqI <| Sim.mvT r_ <|
 Sim.opV (h_len o_T) fun x1 =>
 Sim.mvT r_ <|
 Sim.opV (h_len o_T) fun x2 =>
 Sim.opV (h_cmpI r_ o_T o_T) fun x3 =>
 Sim.doneS <| Sim.cond o_T (
 Sim.seqI <| Sim.op1 (h_mv o_b) <|
 Sim.doneS <| Sim.ret (.one (res_t r_))) (
 Sim.skip <| Sim.dsI <| Sim.seqI <| Sim.op1 (h_mv o_i) <|
 Sim.doneS <| Sim.blkI <| Sim.loop (id := 0) (σ := Int) (τ := Unit) (fun s4 => ⟨[(0, .val (T.sl T_api_Prefix) a.1), (1, .val (T.sl T_api_Prefix) a.2), (5, .val (T.int .i64) s4)], []⟩) (fun p5 => ⟨[], []⟩) 0 sB (fun _ => r_) (fun s4 =>
 Sim.seqI <| Sim.seqI <| Sim.mvT r_ <|
 Sim.mvT r_ <|
 Sim.opV (h_len o_T) fun x6 =>
 Sim.opV (h_cmpI r_ o_T o_T) fun x7 =>
 Sim.doneS <| Sim.cond o_T (
 Sim.skip <| Sim.dsI <| Sim.blkI <| Sim.seqI <| Sim.mvT r_ <|
 Sim.mvT r_ <|
 Sim.op (h_ias r_ o_T o_T) fun x8 =>
 Sim.opn (h_ld r_ r_ o_T) fun x9 =>
 Sim.mvT r_ <|
 Sim.mvT r_ <|
 Sim.op (h_ias r_ o_T o_T) fun x10 =>
 Sim.opn (h_ld r_ r_ o_T) fun x11 =>
 Sim.opV (h_eq C_api_Prefix r_ r_ o_T o_T) fun x12 =>
 Sim.doneS <| Sim.cond o_T (
 Sim.seqI <| Sim.op1 (h_mv o_b) <|
 Sim.doneS <| Sim.outRet <| Sim.ret (.one (res_t r_))) (
 Sim.skip <| Sim.doneB <| Sim.doneS <| Sim.mvT r_ <|
 Sim.opV (h_add (I := (IT.int .i64)) o_T o_i) fun x13 =>
 Sim.mvT r_ <|
 Sim.next x13 sB)) (
 Sim.exitS <| Sim.out () sB)) (fun p5 =>
 Sim.exitB <| Sim.dsI <| Sim.op1 (h_mv o_b) <|
 Sim.doneS <| Sim.ret (.one (res_t r_))))
theorem sp_r11_Same : Spec tb fn_r11_Same [(T.sl T_api_Prefix), (T.sl T_api_Prefix)] [T.b] (fun a => r11_Same a.1 a.2) :=
  Spec.of f_r11_Same r_ r_ r_ sim_r11_Same
noncomputable def r34_SamePeer (a0 : S_api_Peer) (a1 : S_api_Peer) : Option Bool :=
 (andO (cmpB (CmpC.arr 32 CmpC.u8) a0.Key a1.Key) (some (cmpB (CmpC.arr 32 CmpC.u8) a0.Psk a1.Psk))).bind fun x7 =>
 (andO x7 (some (cmpB C_api_Endpoint a0.End a1.End))).bind fun x11 =>
 (andO x11 (some (decide (a0.Keep = a1.Keep)))).bind fun x15 =>
 (andO x15 (let x18 := decide ((a0.Sent.toNat : Int) = (a1.Sent.toNat : Int))
 some x18)).bind fun x19 =>
 (andO x19 (let x22 := decide ((a0.Got.toNat : Int) = (a1.Got.toNat : Int))
 some x22)).bind fun x23 =>
 (andO x23 ((r11_Same a0.Allowed a1.Allowed).bind fun x26 =>
 some x26)).bind fun x27 =>
 some x27
noncomputable def sim_r34_SamePeer (a : Res [T_api_Peer, T_api_Peer]) : SimF tb c_r34_SamePeer [T_api_Peer, T_api_Peer] [T.b] a :=
 Sim.seqI <| Sim.opMV (M_box (t := T_api_Peer) 2 r_ r_ o_T) fun _ =>
 Sim.opMV (M_box (t := T_api_Peer) 3 r_ r_ o_T) fun _ =>
 Sim.op1 (h_mv o_b) <|
 Sim.dsI <| Sim.op1 (h_faC o_T) <|
 Sim.opn (h_ldC (t := T_api_Peer) (u := (T.arr 32 T.u8)) o_T r_ r_ F_api_Peer_Key r_ r_) fun x1 =>
 Sim.op1 (h_faC o_T) <|
 Sim.opn (h_ldC (t := T_api_Peer) (u := (T.arr 32 T.u8)) o_T r_ r_ F_api_Peer_Key r_ r_) fun x2 =>
 Sim.opV (h_eq (CmpC.arr 32 CmpC.u8) r_ r_ o_T o_T) fun x3 =>
 Sim.mvT r_ <|
 Sim.and 5 r_ r_ r_ (Grp.op1 (h_faC o_T) <|
 Grp.opn (h_ldC (t := T_api_Peer) (u := (T.arr 32 T.u8)) o_T r_ r_ F_api_Peer_Psk r_ r_) fun x4 =>
 Grp.op1 (h_faC o_T) <|
 Grp.opn (h_ldC (t := T_api_Peer) (u := (T.arr 32 T.u8)) o_T r_ r_ F_api_Peer_Psk r_ r_) fun x5 =>
 Grp.opV (h_eq (CmpC.arr 32 CmpC.u8) r_ r_ o_T o_T) fun x6 =>
 Grp.nil o_T) fun x7 =>
 Sim.mvT r_ <|
 Sim.and 5 r_ r_ r_ (Grp.op1 (h_faC o_T) <|
 Grp.opn (h_ldC (t := T_api_Peer) (u := T_api_Endpoint) o_T r_ r_ F_api_Peer_End r_ r_) fun x8 =>
 Grp.op1 (h_faC o_T) <|
 Grp.opn (h_ldC (t := T_api_Peer) (u := T_api_Endpoint) o_T r_ r_ F_api_Peer_End r_ r_) fun x9 =>
 Grp.opV (h_eq C_api_Endpoint r_ r_ o_T o_T) fun x10 =>
 Grp.nil o_T) fun x11 =>
 Sim.mvT r_ <|
 Sim.and 5 r_ r_ r_ (Grp.op1 (h_faC o_T) <|
 Grp.opn (h_ldC (t := T_api_Peer) (u := (T.int .i64)) o_T r_ r_ F_api_Peer_Keep r_ r_) fun x12 =>
 Grp.op1 (h_faC o_T) <|
 Grp.opn (h_ldC (t := T_api_Peer) (u := (T.int .i64)) o_T r_ r_ F_api_Peer_Keep r_ r_) fun x13 =>
 Grp.opV (h_cmpI r_ o_T o_T) fun x14 =>
 Grp.nil o_T) fun x15 =>
 Sim.mvT r_ <|
 Sim.and 5 r_ r_ r_ (Grp.op1 (h_faC o_T) <|
 Grp.opn (h_ldC (t := T_api_Peer) (u := T.u64) o_T r_ r_ F_api_Peer_Sent r_ r_) fun x16 =>
 Grp.op1 (h_faC o_T) <|
 Grp.opn (h_ldC (t := T_api_Peer) (u := T.u64) o_T r_ r_ F_api_Peer_Sent r_ r_) fun x17 =>
 Grp.opV (h_cmp (I := IT.u64) r_ o_T o_T) fun x18 =>
 Grp.nil o_T) fun x19 =>
 Sim.mvT r_ <|
 Sim.and 5 r_ r_ r_ (Grp.op1 (h_faC o_T) <|
 Grp.opn (h_ldC (t := T_api_Peer) (u := T.u64) o_T r_ r_ F_api_Peer_Got r_ r_) fun x20 =>
 Grp.op1 (h_faC o_T) <|
 Grp.opn (h_ldC (t := T_api_Peer) (u := T.u64) o_T r_ r_ F_api_Peer_Got r_ r_) fun x21 =>
 Grp.opV (h_cmp (I := IT.u64) r_ o_T o_T) fun x22 =>
 Grp.nil o_T) fun x23 =>
 Sim.mvT r_ <|
 Sim.and 5 r_ r_ r_ (Grp.op1 (h_faC o_T) <|
 Grp.opn (h_ldC (t := T_api_Peer) (u := (T.sl T_api_Prefix)) o_T r_ r_ F_api_Peer_Allowed r_ r_) fun x24 =>
 Grp.op1 (h_faC o_T) <|
 Grp.opn (h_ldC (t := T_api_Peer) (u := (T.sl T_api_Prefix)) o_T r_ r_ F_api_Peer_Allowed r_ r_) fun x25 =>
 Grp.op (h_call1 sp_r11_Same (.cons o_T <| .one o_T)) fun x26 =>
 Grp.nil o_T) fun x27 =>
 Sim.mvT r_ <|
 Sim.doneS <| Sim.ret (.one (res_t r_))
theorem sp_r34_SamePeer : Spec tb fn_r34_SamePeer [T_api_Peer, T_api_Peer] [T.b] (fun a => r34_SamePeer a.1 a.2) :=
  Spec.of f_r34_SamePeer r_ r_ r_ sim_r34_SamePeer
noncomputable def r34_Same (a0 : S_api_Conf) (a1 : S_api_Conf) : Option Bool :=
 let x3 := !(cmpB (CmpC.arr 32 CmpC.u8) a0.Private a1.Private)
 (orO x3 (some (!decide (a0.Port = a1.Port)))).bind fun x7 =>
 (orO x7 (let x10 := !decide ((a0.Mark.toNat : Int) = (a1.Mark.toNat : Int))
 some x10)).bind fun x11 =>
 (orO x11 (let x16 := !decide ((a0.Peers.l.length : Int) = (a1.Peers.l.length : Int))
 some x16)).bind fun x17 =>
 if x17 = true then
 some false
 else
 (iter (fun (s18 : Int) =>
 if (decide (s18 < (a0.Peers.l.length : Int))) = true then
 (idx a0.Peers.l s18).bind fun x24 =>
 (idx a1.Peers.l s18).bind fun x27 =>
 (r34_SamePeer x24 x27).bind fun x29 =>
 if (!x29) = true then
 (some false).map fun r => .inr (.inr r)
 else
 some (.inl (IntKind.i64.wrap (s18 + 1)))
 else
 some (.inr (.inl ()))) 0).bind (Sum.elim (fun (p19 : Unit) =>
 some true) some)
noncomputable def sim_r34_Same (a : Res [T_api_Conf, T_api_Conf]) : SimF tb c_r34_Same [T_api_Conf, T_api_Conf] [T.b] a :=
 Sim.seqI <| Sim.opMV (M_box (t := T_api_Conf) 2 r_ r_ o_T) fun _ =>
 Sim.opMV (M_box (t := T_api_Conf) 3 r_ r_ o_T) fun _ =>
 Sim.op1 (h_mv o_b) <|
 Sim.dsI <| Sim.seqI <| Sim.op1 (h_faC o_T) <|
 Sim.opn (h_ldC (t := T_api_Conf) (u := (T.arr 32 T.u8)) o_T r_ r_ F_api_Conf_Private r_ r_) fun x1 =>
 Sim.op1 (h_faC o_T) <|
 Sim.opn (h_ldC (t := T_api_Conf) (u := (T.arr 32 T.u8)) o_T r_ r_ F_api_Conf_Private r_ r_) fun x2 =>
 Sim.opV (h_eq (CmpC.arr 32 CmpC.u8) r_ r_ o_T o_T) fun x3 =>
 Sim.mvT r_ <|
 Sim.or 5 r_ r_ r_ (Grp.op1 (h_faC o_T) <|
 Grp.opn (h_ldC (t := T_api_Conf) (u := (T.int .i64)) o_T r_ r_ F_api_Conf_Port r_ r_) fun x4 =>
 Grp.op1 (h_faC o_T) <|
 Grp.opn (h_ldC (t := T_api_Conf) (u := (T.int .i64)) o_T r_ r_ F_api_Conf_Port r_ r_) fun x5 =>
 Grp.opV (h_cmpI r_ o_T o_T) fun x6 =>
 Grp.nil o_T) fun x7 =>
 Sim.mvT r_ <|
 Sim.or 5 r_ r_ r_ (Grp.op1 (h_faC o_T) <|
 Grp.opn (h_ldC (t := T_api_Conf) (u := T.u32) o_T r_ r_ F_api_Conf_Mark r_ r_) fun x8 =>
 Grp.op1 (h_faC o_T) <|
 Grp.opn (h_ldC (t := T_api_Conf) (u := T.u32) o_T r_ r_ F_api_Conf_Mark r_ r_) fun x9 =>
 Grp.opV (h_cmp (I := IT.u32) r_ o_T o_T) fun x10 =>
 Grp.nil o_T) fun x11 =>
 Sim.mvT r_ <|
 Sim.or 7 r_ r_ r_ (Grp.op1 (h_faC o_T) <|
 Grp.opn (h_ldC (t := T_api_Conf) (u := (T.sl T_api_Peer)) o_T r_ r_ F_api_Conf_Peers r_ r_) fun x12 =>
 Grp.opV (h_len o_T) fun x13 =>
 Grp.op1 (h_faC o_T) <|
 Grp.opn (h_ldC (t := T_api_Conf) (u := (T.sl T_api_Peer)) o_T r_ r_ F_api_Conf_Peers r_ r_) fun x14 =>
 Grp.opV (h_len o_T) fun x15 =>
 Grp.opV (h_cmpI r_ o_T o_T) fun x16 =>
 Grp.nil o_T) fun x17 =>
 Sim.doneS <| Sim.cond o_T (
 Sim.seqI <| Sim.op1 (h_mv o_b) <|
 Sim.doneS <| Sim.ret (.one (res_t r_))) (
 Sim.skip <| Sim.dsI <| Sim.seqI <| Sim.op1 (h_mv o_i) <|
 Sim.doneS <| Sim.blkI <| Sim.loop (id := 0) (σ := Int) (τ := Unit) (fun s18 => ⟨[(2, .cp 2 0), (3, .cp 3 0), (5, .val (T.int .i64) s18)], [(2, .cells [(35, .val T_api_Conf a.1)]), (3, .cells [(35, .val T_api_Conf a.2)])]⟩) (fun p19 => ⟨[], []⟩) 0 sB (fun _ => r_) (fun s18 =>
 Sim.seqI <| Sim.seqI <| Sim.mvT r_ <|
 Sim.op1 (h_faC o_T) <|
 Sim.opn (h_ldC (t := T_api_Conf) (u := (T.sl T_api_Peer)) o_T r_ r_ F_api_Conf_Peers r_ r_) fun x20 =>
 Sim.opV (h_len o_T) fun x21 =>
 Sim.opV (h_cmpI r_ o_T o_T) fun x22 =>
 Sim.doneS <| Sim.cond o_T (
 Sim.skip <| Sim.dsI <| Sim.blkI <| Sim.seqI <| Sim.op1 (h_faC o_T) <|
 Sim.opn (h_ldC (t := T_api_Conf) (u := (T.sl T_api_Peer)) o_T r_ r_ F_api_Conf_Peers r_ r_) fun x23 =>
 Sim.mvT r_ <|
 Sim.op (h_ias r_ o_T o_T) fun x24 =>
 Sim.opn (h_ld r_ r_ o_T) fun x25 =>
 Sim.op1 (h_faC o_T) <|
 Sim.opn (h_ldC (t := T_api_Conf) (u := (T.sl T_api_Peer)) o_T r_ r_ F_api_Conf_Peers r_ r_) fun x26 =>
 Sim.mvT r_ <|
 Sim.op (h_ias r_ o_T o_T) fun x27 =>
 Sim.opn (h_ld r_ r_ o_T) fun x28 =>
 Sim.op (h_call1 sp_r34_SamePeer (.cons o_T <| .one o_T)) fun x29 =>
 Sim.opV (h_not o_T) fun x30 =>
 Sim.doneS <| Sim.cond o_T (
 Sim.seqI <| Sim.op1 (h_mv o_b) <|
 Sim.doneS <| Sim.outRet <| Sim.ret (.one (res_t r_))) (
 Sim.skip <| Sim.doneB <| Sim.doneS <| Sim.mvT r_ <|
 Sim.opV (h_add (I := (IT.int .i64)) o_T o_i) fun x31 =>
 Sim.mvT r_ <|
 Sim.next x31 sB)) (
 Sim.exitS <| Sim.out () sB)) (fun p19 =>
 Sim.exitB <| Sim.dsI <| Sim.op1 (h_mv o_b) <|
 Sim.doneS <| Sim.ret (.one (res_t r_))))
theorem sp_r34_Same : Spec tb fn_r34_Same [T_api_Conf, T_api_Conf] [T.b] (fun a => r34_Same a.1 a.2) :=
  Spec.of f_r34_Same r_ r_ r_ sim_r34_Same
noncomputable def l34_ViewRight (a0 : S_api_Conf) : Option Bool :=
 (r34_Large a0).bind fun x2 =>
 if x2 = true then
 (l34_alive ()).bind fun x3 =>
 some x3
 else
 (view_Bare a0).bind fun x5 =>
 (view_Right a0).bind fun x9 =>
 (r34_Right a0).bind fun x11 =>
 (andO (decide (x9 = x11)) ((r34_Bare a0).bind fun x15 =>
 (r34_Same x5 x15).bind fun x16 =>
 some x16)).bind fun x17 =>
 (andO x17 ((view_Right x5).bind fun x19 =>
 (view_Right a0).bind fun x21 =>
 some (decide (x19 = x21)))).bind fun x23 =>
 (andO x23 ((l34_alive ()).bind fun x24 =>
 some x24)).bind fun x25 =>
 some x25
noncomputable def sim_l34_ViewRight (a : Res [T_api_Conf]) : SimF tb c_l34_ViewRight [T_api_Conf] [T.b] a :=
 Sim.seqI <| Sim.opMV (M_box (t := T_api_Conf) 1 r_ r_ o_T) fun _ =>
 Sim.op1 (h_mv o_b) <|
 Sim.dsI <| Sim.seqI <| Sim.opn (h_ldC (t := T_api_Conf) (u := T_api_Conf) o_T r_ r_ (Fld.id _) r_ r_) fun x1 =>
 Sim.op (h_call1 sp_r34_Large (.one o_T)) fun x2 =>
 Sim.doneS <| Sim.cond o_T (
 Sim.seqI <| Sim.op (h_call1 sp_l34_alive (.nil)) fun x3 =>
 Sim.mvT r_ <|
 Sim.doneS <| Sim.ret (.one (res_t r_))) (
 Sim.skip <| Sim.dsI <| Sim.opn (h_ldC (t := T_api_Conf) (u := T_api_Conf) o_T r_ r_ (Fld.id _) r_ r_) fun x4 =>
 Sim.op (h_call1 sp_view_Bare (.one o_T)) fun x5 =>
 Sim.opMV (M_alloc (t := T_api_Conf) 3 r_ r_) fun x6 =>
 Sim.opMV (M_stC o_T o_T r_ r_ (Fld.id _) r_) fun x7 =>
 Sim.dsI <| Sim.opn (h_ldC (t := T_api_Conf) (u := T_api_Conf) o_T r_ r_ (Fld.id _) r_ r_) fun x8 =>
 Sim.op (h_call1 sp_view_Right (.one o_T)) fun x9 =>
 Sim.opn (h_ldC (t := T_api_Conf) (u := T_api_Conf) o_T r_ r_ (Fld.id _) r_ r_) fun x10 =>
 Sim.op (h_call1 sp_r34_Right (.one o_T)) fun x11 =>
 Sim.opV (h_eqb (neg := false) o_T o_T) fun x12 =>
 Sim.mvT r_ <|
 Sim.and 4 r_ r_ r_ (Grp.opn (h_ldC (t := T_api_Conf) (u := T_api_Conf) o_T r_ r_ (Fld.id _) r_ r_) fun x13 =>
 Grp.opn (h_ldC (t := T_api_Conf) (u := T_api_Conf) o_T r_ r_ (Fld.id _) r_ r_) fun x14 =>
 Grp.op (h_call1 sp_r34_Bare (.one o_T)) fun x15 =>
 Grp.op (h_call1 sp_r34_Same (.cons o_T <| .one o_T)) fun x16 =>
 Grp.nil o_T) fun x17 =>
 Sim.mvT r_ <|
 Sim.and 5 r_ r_ r_ (Grp.opn (h_ldC (t := T_api_Conf) (u := T_api_Conf) o_T r_ r_ (Fld.id _) r_ r_) fun x18 =>
 Grp.op (h_call1 sp_view_Right (.one o_T)) fun x19 =>
 Grp.opn (h_ldC (t := T_api_Conf) (u := T_api_Conf) o_T r_ r_ (Fld.id _) r_ r_) fun x20 =>
 Grp.op (h_call1 sp_view_Right (.one o_T)) fun x21 =>
 Grp.opV (h_eqb (neg := false) o_T o_T) fun x22 =>
 Grp.nil o_T) fun x23 =>
 Sim.mvT r_ <|
 Sim.and 1 r_ r_ r_ (Grp.op (h_call1 sp_l34_alive (.nil)) fun x24 =>
 Grp.nil o_T) fun x25 =>
 Sim.mvT r_ <|
 Sim.doneS <| Sim.ret (.one (res_t r_)))
theorem sp_l34_ViewRight : Spec tb fn_l34_ViewRight [T_api_Conf] [T.b] (fun a => l34_ViewRight a) :=
  Spec.of f_l34_ViewRight r_ r_ r_ sim_l34_ViewRight
end Go.Proofs.YtoegmdfkcaojlaaGreat.Am
end

namespace Go.Proofs.YtoegmdfkcaojlaaGreat.Am
theorem wrapS {x : Int} (h0 : -9223372036854775808 ≤ x) (h1 : x < 9223372036854775808) : IntKind.i64.wrap x = x := wrapI h0 h1
theorem idxN_in {n k : Nat} (h : n < k) : idxN k (n : Int) = some n := idxN_nat h
theorem scanK {β ρ : Type} {k n : Nat} {F : Int → Option (Int ⊕ (Unit ⊕ β))} {K : Unit ⊕ β → Option ρ} (q : Nat → Option β) (hk : k ≤ n) (hn : n < 4611686018427387904) (h1 : ∀ i : Nat, k ≤ i → i < n → F (i : Int) = some (match q i with | none => .inl (IntKind.i64.wrap ((i : Int) + 1)) | some b => .inr (.inr b)))
    (h2 : F (n : Int) = some (.inr (.inl ()))) : (iter F (k : Int)).bind K = (match (List.range' k (n - k)).findSome? q with | none => K (.inl ()) | some b => K (.inr b)) := by
  refine iter_then (fun s => n - s.toNat) (fun s => ∃ i : Nat, s = i ∧ k ≤ i ∧ i ≤ n ∧ ∀ j, k ≤ j → j < i → q j = none)
    (fun r => (r = .inl () ∧ ∀ j, k ≤ j → j < n → q j = none) ∨ ∃ b, r = .inr b ∧ (List.range' k (n - k)).findSome? q = some b) ⟨k, rfl, Nat.le_refl _, hk, by omega⟩ ?_ ?_
  · rintro s ⟨i, rfl, hki, hi, hq⟩
    rcases Nat.lt_or_ge i n with hlt | hge
    · rw [h1 i hki hlt]
      cases e : q i with
      | none =>
        left
        refine ⟨_, rfl, ⟨i + 1, ?_, by omega, by omega, fun j hj1 hj => ?_⟩, ?_⟩
        · rw [show (i : Int) + 1 = ((i + 1 : Nat) : Int) by omega, wrapN (by omega)]
        · rcases Nat.lt_or_ge j i with h | h
          · exact hq j hj1 h
          · obtain rfl : j = i := by omega
            exact e
        · rw [show (i : Int) + 1 = ((i + 1 : Nat) : Int) by omega, wrapN (by omega)]; omega
      | some b =>
        right
        refine ⟨_, rfl, .inr ⟨b, rfl, ?_⟩⟩
        have : List.range' k (n - k) = List.range' k (i - k) ++ i :: List.range' (i + 1) (n - (i + 1)) := by
          rw [show n - k = (i - k) + (1 + (n - (i + 1))) by omega, ← List.range'_append_1, ← List.range'_append_1]
          simp only [List.range'_one, List.singleton_append, List.append_cancel_left_eq]
          rw [show k + (i - k) = i by omega]
        rw [this, List.findSome?_append, List.findSome?_eq_none_iff.2 (fun j hj => by
          rw [List.mem_range'_1] at hj; exact hq j hj.1 (by omega))]
        simp [e]
    · obtain rfl : i = n := by omega
      right
      exact ⟨_, h2, .inl ⟨rfl, hq⟩⟩
  · rintro _ (⟨rfl, h⟩ | ⟨b, rfl, h⟩)
    · rw [List.findSome?_eq_none_iff.2 (fun j hj => by rw [List.mem_range'_1] at hj; exact h j hj.1 (by omega))]
    · rw [h]
theorem cmpA (x y : S_api_Addr) : cmpB C_api_Addr x y = decide (x = y) :=
  if h : x = y then (cmpB_yes (t := T_api_Addr) h).trans (decide_eq_true h).symm else (cmpB_no (t := T_api_Addr) h).trans (decide_eq_false h).symm
theorem cmpE (x y : S_api_Endpoint) : cmpB C_api_Endpoint x y = decide (x = y) :=
  if h : x = y then (cmpB_yes (t := T_api_Endpoint) h).trans (decide_eq_true h).symm else (cmpB_no (t := T_api_Endpoint) h).trans (decide_eq_false h).symm
theorem cmpP (x y : S_api_Prefix) : cmpB C_api_Prefix x y = decide (x = y) :=
  if h : x = y then (cmpB_yes (t := T_api_Prefix) h).trans (decide_eq_true h).symm else (cmpB_no (t := T_api_Prefix) h).trans (decide_eq_false h).symm
def rightA (a : S_api_Addr) : Bool := decide (a.V = 6 ∨ (a.V = 4 ∧ a.B.l.drop 4 = List.replicate 12 0))
theorem four_val (b0 b1 b2 b3 : UInt8) (h : [b0, b1, b2, b3].length = 4) : addr_Four ⟨[b0, b1, b2, b3], h⟩ = some ⟨4, ⟨[b0, b1, b2, b3, 0, 0, 0, 0, 0, 0, 0, 0, 0, 0, 0, 0], rfl⟩⟩ := by
  unfold addr_Four
  rfl
theorem four_val' (b0 b1 b2 b3 b4 b5 b6 b7 b8 b9 b10 b11 b12 b13 b14 b15 : UInt8) (h : (([b0, b1, b2, b3, b4, b5, b6, b7, b8, b9, b10, b11, b12, b13, b14, b15].drop 0).take 4).length = 4) :
    addr_Four ⟨([b0, b1, b2, b3, b4, b5, b6, b7, b8, b9, b10, b11, b12, b13, b14, b15].drop 0).take 4, h⟩ = some ⟨4, ⟨[b0, b1, b2, b3, 0, 0, 0, 0, 0, 0, 0, 0, 0, 0, 0, 0], rfl⟩⟩ := four_val b0 b1 b2 b3 rfl
theorem bytes16 {p : S_api_Addr → Prop} (h : ∀ (V : Int) (b0 b1 b2 b3 b4 b5 b6 b7 b8 b9 b10 b11 b12 b13 b14 b15 : UInt8), p ⟨V, ⟨[b0, b1, b2, b3, b4, b5, b6, b7, b8, b9, b10, b11, b12, b13, b14, b15], rfl⟩⟩) : ∀ a, p a := by
  rintro ⟨V, ⟨l, hl⟩⟩
  match l, hl with
  | [b0, b1, b2, b3, b4, b5, b6, b7, b8, b9, b10, b11, b12, b13, b14, b15], _ => exact h V b0 b1 b2 b3 b4 b5 b6 b7 b8 b9 b10 b11 b12 b13 b14 b15
theorem addr_right (a : S_api_Addr) : addr_Right a = some (rightA a) := by
  revert a
  refine bytes16 fun V b0 b1 b2 b3 b4 b5 b6 b7 b8 b9 b10 b11 b12 b13 b14 b15 => ?_
  unfold addr_Right
  by_cases h6 : V = 6
  · simp [h6, orO, rightA]
  · by_cases hv : V = 4
    · subst hv
      have e4 : ((4 : Int) = 6) = False := by simp
      simp only [orO, andO, e4, decide_false, Bool.false_eq_true, if_false, decide_true, if_true, four_val', Option.bind_some, cmpA, rightA]
      congr 1
      simp [S_api_Addr.mk.injEq, Ar.mk.injEq, List.replicate]
    · simp [h6, hv, orO, andO, rightA]
theorem get16 (B : Ar UInt8 16) {i : Nat} (h : i < 16) : ∃ b, B.l[i]? = some b := ⟨B.l[i]'(by rw [B.len]; exact h), List.getElem?_eq_getElem _⟩
theorem r10_right (a : S_api_Addr) : r10_Right a = some (rightA a) := by
  unfold r10_Right
  by_cases h6 : a.V = 6
  · simp [h6, rightA]
  · rw [if_neg (by simpa using h6)]
    rw [show (4 : Int) = ((4 : Nat) : Int) from rfl, scanK (n := 16) (fun i => if a.B.l[i]? = some 0 then none else some false) (by decide) (by decide)]
    · cases e : (List.range' 4 (16 - 4)).findSome? (fun i => if a.B.l[i]? = some 0 then none else some false) with
      | none =>
        simp only [Sum.elim_inl]
        have hz : a.B.l.drop 4 = List.replicate 12 0 := by
          apply List.ext_getElem?
          intro i
          rw [List.getElem?_drop]
          rcases Nat.lt_or_ge i 12 with hi | hi
          · have := List.findSome?_eq_none_iff.1 e (4 + i) (by rw [List.mem_range'_1]; omega)
            rw [List.getElem?_replicate, if_pos hi]
            by_cases h : a.B.l[4 + i]? = some 0
            · exact h
            · simp [h] at this
          · rw [List.getElem?_eq_none (by rw [a.B.len]; omega), List.getElem?_eq_none (by simp; omega)]
        simp [rightA, h6, hz]
      | some b =>
        obtain ⟨i, hi, h'⟩ := List.exists_of_findSome?_eq_some e
        rw [List.mem_range'_1] at hi
        have hb : b = false := by split at h' <;> simp_all
        subst hb
        simp only [Sum.elim_inr]
        have : ¬ a.B.l.drop 4 = List.replicate 12 0 := fun hz => by
          have h := congrArg (fun l => l[i - 4]?) hz
          simp only [List.getElem?_drop, List.getElem?_replicate] at h
          rw [show 4 + (i - 4) = i by omega, if_pos (by omega)] at h
          rw [h] at h'; simp at h'
        have hr : rightA a = false := decide_eq_false (by
          rintro (h | ⟨_, h⟩)
          · exact h6 h
          · exact this h)
        rw [hr]
    · intro i h4 hi
      obtain ⟨b, hb⟩ := get16 a.B hi
      rw [if_pos (by simp; omega), idxN_in hi, Option.bind_some, hb]
      simp only [Option.bind_some, Option.some.injEq]
      have e0 : ((b.toNat : Int) = ((0 : UInt8).toNat : Int)) ↔ b = 0 := by
        constructor
        · intro h; exact UInt8.toNat_inj.1 (by exact_mod_cast h)
        · rintro rfl; rfl
      by_cases h : b = 0
      · simp [h]
      · simp only [e0, h, decide_false, Bool.not_false, if_true, if_false]; rfl
    · rw [if_neg (by decide)]
def widthA (a : S_api_Addr) : Nat := if rightA a = true then (if a.V = 4 then 32 else 128) else 0
theorem addr_width (a : S_api_Addr) : addr_Width a = some (widthA a : Int) := by
  unfold addr_Width widthA
  rw [addr_right]
  cases rightA a with
  | false => simp
  | true => by_cases h : a.V = 4 <;> simp [h]
theorem r10_width (a : S_api_Addr) : r10_Width a = some (widthA a : Int) := by
  unfold r10_Width widthA
  rw [r10_right]
  cases rightA a with
  | false => simp
  | true => by_cases h : a.V = 4 <;> simp [h]
def maskB (b : UInt8) (k : Nat) : UInt8 := UInt8.ofNat (b.toNat / 2 ^ (8 - k) * 2 ^ (8 - k))
def maskL (l : List UInt8) (n : Nat) : List UInt8 := l.mapIdx fun i b => maskB b (min (n - 8 * i) 8)
theorem maskL_len (l : List UInt8) (n : Nat) : (maskL l n).length = l.length := by simp [maskL]
theorem maskL_get (l : List UInt8) (n i : Nat) : (maskL l n)[i]? = l[i]?.map fun b => maskB b (min (n - 8 * i) 8) := by simp [maskL, List.getElem?_mapIdx]
def shlN (k : Nat) : UInt8 := ofU8 (((255 : UInt8).toNat : Int) * 2 ^ (min k 8))
def andN (b k : Nat) : UInt8 := ofU8 (bitsR .and .u8 (b : Int) ((shlN k).toNat : Int))
theorem and_mask : ∀ (b : Fin 256) (k : Fin 9), andN b.1 (8 - k.1) = maskB (UInt8.ofNat b.1) k.1 := by decide +kernel
def addN (x : UInt8) (n : Nat) : UInt8 := ofU8 ((x.toNat : Int) + ((ofU8 (n : Int)).toNat : Int))
theorem mask_step : ∀ (b : Fin 256) (r : Fin 8), maskB (UInt8.ofNat b.1) (r.1 + 1) = (if b.1 / 2 ^ (7 - r.1) % 2 = 1 then addN (maskB (UInt8.ofNat b.1) r.1) (128 / 2 ^ r.1) else maskB (UInt8.ofNat b.1) r.1) := by decide +kernel
theorem mask_none (b : UInt8) : maskB b 0 = 0 := by
  have := b.toNat_lt
  unfold maskB
  rw [show b.toNat / 2 ^ (8 - 0) = 0 by rw [Nat.div_eq_of_lt]; simpa using this]; simp
theorem ofNat_toNat (b : UInt8) : UInt8.ofNat b.toNat = b := by simp
theorem u64N {m : Nat} (h : m < 18446744073709551616) : (ofU64 (m : Int)).toNat = m := by
  unfold ofU64
  rw [show ((m : Int) % 18446744073709551616).toNat = m by omega]
  simp [UInt64.toNat_ofNat, h]
theorem addr_mask (a : S_api_Addr) (n : Nat) (hn : n ≤ 1000) (hr : rightA a = true) : addr_Mask a (n : Int) = some ⟨a.V, ⟨maskL a.B.l n, by rw [maskL_len, a.B.len]⟩⟩ := by
  unfold addr_Mask
  simp only [addr_right, hr, Option.bind_some, Bool.not_true, Bool.false_eq_true, if_false]
  refine iter_then (fun s => 16 - s.1.toNat) (fun s => ∃ i : Nat, s.1 = i ∧ i ≤ 16 ∧ s.2.V = a.V ∧ ∀ j : Nat, s.2.B.l[j]? = if j < i then (maskL a.B.l n)[j]? else a.B.l[j]?)
    (fun r => r = .inl ⟨a.V, ⟨maskL a.B.l n, by rw [maskL_len, a.B.len]⟩⟩) ⟨0, rfl, by omega, rfl, fun j => by simp⟩ ?_ ?_
  rotate_left
  · rintro _ rfl; rfl
  · rintro ⟨s, ⟨V, B⟩⟩ ⟨i, rfl, h1, h2, h3⟩
    dsimp only at h2 h3 ⊢
    subst h2
    by_cases hi : i < 16
    · left
      obtain ⟨b, hb⟩ := get16 a.B hi
      have hBi : B.l[i]? = some b := by rw [h3, if_neg (by omega)]; exact hb
      rw [if_pos (by simp; omega)]
      have hw : IntKind.i64.wrap ((n : Int) - IntKind.i64.wrap (8 * (i : Int))) = (n : Int) - 8 * (i : Int) := by rw [wrapS (x := 8 * (i : Int)) (by omega) (by omega), wrapS (by omega) (by omega)]
      have hx : (if 8 < (if (0 : Int) > (n : Int) - 8 * (i : Int) then 0 else (n : Int) - 8 * (i : Int)) then 8 else (if (0 : Int) > (n : Int) - 8 * (i : Int) then 0 else (n : Int) - 8 * (i : Int))) = ((min (n - 8 * i) 8 : Nat) : Int) := by
        split <;> split <;> omega
      have hk : min (n - 8 * i) 8 < 9 := by omega
      have h8 : IntKind.i64.wrap (8 - ((min (n - 8 * i) 8 : Nat) : Int)) = ((8 - min (n - 8 * i) 8 : Nat) : Int) := by rw [wrapS (by omega) (by omega)]; omega
      have h9 : (ofU64 (((8 - min (n - 8 * i) 8 : Nat) : Int))).toNat = 8 - min (n - 8 * i) 8 := u64N (by omega)
      have hm := and_mask ⟨b.toNat, b.toNat_lt⟩ ⟨min (n - 8 * i) 8, hk⟩
      simp only [andN, shlN, ofNat_toNat] at hm
      simp only [hw, hx]
      rw [if_neg (show ¬ decide ((n : Int) < 0) = true by simp)]
      simp only [Option.bind_some, Sum.elim_inl, idxN_in hi, hBi, h8, h9]
      rw [if_neg (by omega)]
      simp only [Option.bind_some, Int.toNat_natCast, if_pos hi]
      refine ⟨_, rfl, ⟨i + 1, by dsimp only; rw [wrapS (by omega) (by omega)]; omega, by omega, rfl, fun j => ?_⟩, by dsimp only; rw [wrapS (by omega) (by omega)]; omega⟩
      dsimp only [Ar.set]
      rw [List.getElem?_set]
      by_cases hj : i = j
      · subst hj
        rw [if_pos rfl, if_pos (by rw [B.len]; exact hi), if_pos (by omega), maskL_get, hb, Option.map_some]
        exact congrArg some hm
      · rw [if_neg hj, h3]
        by_cases hji : j < i
        · rw [if_pos hji, if_pos (by omega)]
        · rw [if_neg hji, if_neg (by omega)]
    · obtain rfl : i = 16 := by omega
      right
      rw [if_neg (by simp)]
      refine ⟨_, rfl, ?_⟩
      congr 2
      apply Ar.ext
      apply List.ext_getElem?
      intro j
      dsimp only
      rw [h3]
      by_cases hj : j < 16
      · rw [if_pos hj]
      · rw [if_neg hj, List.getElem?_eq_none (by rw [a.B.len]; omega), List.getElem?_eq_none (by rw [maskL_len, a.B.len]; omega)]
theorem td8 {i : Nat} (h : i < 1000) : (if (8 : Nat) = 0 then none else some (IntKind.i64.wrap (Int.tdiv (i : Int) 8))) = some ((i / 8 : Nat) : Int) := by
  rw [if_neg (by decide), show (8 : Int) = ((8 : Nat) : Int) from rfl, ← Int.ofNat_tdiv, wrapN (by omega)]
theorem tm8 {i : Nat} : (if (8 : Nat) = 0 then none else some (Int.tmod (i : Int) 8)) = some ((i % 8 : Nat) : Int) := by
  rw [if_neg (by decide), show (8 : Int) = ((8 : Nat) : Int) from rfl, ← Int.ofNat_tmod]
theorem td2 {i : Nat} (h : i < 1000) : (if (2 : Nat) = 0 then none else some (IntKind.i64.wrap (Int.tdiv (i : Int) 2))) = some ((i / 2 : Nat) : Int) := by
  rw [if_neg (by decide), show (2 : Int) = ((2 : Nat) : Int) from rfl, ← Int.ofNat_tdiv, wrapN (by omega)]
theorem tm2 {i : Nat} : (if (2 : Nat) = 0 then none else some (Int.tmod (i : Int) 2)) = some ((i % 2 : Nat) : Int) := by
  rw [if_neg (by decide), show (2 : Int) = ((2 : Nat) : Int) from rfl, ← Int.ofNat_tmod]
theorem r10_digit_val (a : S_api_Addr) (i : Nat) (hi : i < 128) (b : UInt8) (hb : a.B.l[i / 8]? = some b) : r10_digit a (i : Int) = some ((b.toNat / 2 ^ (7 - i % 8) % 2 : Nat) : Int) := by
  have hbl := b.toNat_lt
  unfold r10_digit
  rw [td8 (by omega)]
  simp only [Option.bind_some, idxN_in (show i / 8 < 16 by omega), hb]
  refine iter_then (fun s => s.2.toNat) (fun s => ∃ m : Nat, m ≤ 7 - i % 8 ∧ s.1 = ((b.toNat / 2 ^ m : Nat) : Int) ∧ s.2 = ((7 - m : Nat) : Int)) (fun r => r = .inl ((b.toNat / 2 ^ (7 - i % 8) : Nat) : Int)) ⟨0, by omega, by rw [wrapN (by omega)]; simp, rfl⟩ ?_ ?_
  · rintro ⟨s, k⟩ ⟨m, h1, h2, h3⟩
    dsimp only at h2 h3 ⊢
    subst h2 h3
    have hle : b.toNat / 2 ^ m ≤ b.toNat := Nat.div_le_self _ _
    rw [tm8]
    simp only [Option.bind_some]
    by_cases hm : m < 7 - i % 8
    · left
      rw [if_pos (by rw [decide_eq_true_eq]; omega), td2 (by omega)]
      simp only [Option.bind_some]
      refine ⟨_, rfl, ⟨m + 1, by omega, ?_, ?_⟩, ?_⟩
      · dsimp only; rw [Nat.div_div_eq_div_mul, ← Nat.pow_succ]
      · dsimp only; rw [wrapS (by omega) (by omega)]; omega
      · dsimp only; rw [wrapS (by omega) (by omega)]; omega
    · right
      obtain rfl : m = 7 - i % 8 := by omega
      rw [if_neg (by rw [decide_eq_true_eq]; omega)]
      exact ⟨_, rfl, rfl⟩
  · rintro _ rfl
    simp only [Sum.elim_inl, tm2, Option.bind_some]
theorem pow_val {β γ : Type} {r : Nat} (hr : r < 8) {K : (Int ⊕ β) → Option γ} {F : Int × Int → Option ((Int × Int) ⊕ (Int ⊕ β))} (hF : ∀ m k : Nat, m < 1000 → k ≤ 8 → F ((m : Int), (k : Int)) = if k < r then some (.inl (((m / 2 : Nat) : Int), ((k + 1 : Nat) : Int))) else some (.inr (.inl (m : Int)))) :
    (iter F (128, 0)).bind K = K (.inl ((128 / 2 ^ r : Nat) : Int)) := by
  refine iter_then (fun s => 8 - s.2.toNat) (fun s => ∃ k : Nat, k ≤ r ∧ s.1 = ((128 / 2 ^ k : Nat) : Int) ∧ s.2 = (k : Int)) (fun q => q = .inl ((128 / 2 ^ r : Nat) : Int)) ⟨0, by omega, rfl, rfl⟩ ?_ ?_
  · rintro ⟨s, k⟩ ⟨m, h1, h2, h3⟩
    dsimp only at h2 h3 ⊢
    subst h2 h3
    have hle : 128 / 2 ^ m ≤ 128 := Nat.div_le_self _ _
    rw [hF _ _ (by omega) (by omega)]
    by_cases hm : m < r
    · left
      rw [if_pos hm]
      refine ⟨_, rfl, ⟨m + 1, by omega, ?_, rfl⟩, by dsimp only; omega⟩
      dsimp only; rw [Nat.div_div_eq_div_mul, ← Nat.pow_succ]
    · right
      obtain rfl : m = r := by omega
      rw [if_neg (by omega)]
      exact ⟨_, rfl, rfl⟩
  · rintro _ rfl; rfl
theorem r10_mask (a : S_api_Addr) (n : Nat) (hn : n ≤ widthA a) (hr : rightA a = true) : r10_Mask a (n : Int) = some ⟨a.V, ⟨maskL a.B.l n, by rw [maskL_len, a.B.len]⟩⟩ := by
  have hw : widthA a ≤ 128 := by unfold widthA; split <;> (try split) <;> omega
  unfold r10_Mask
  simp only [r10_right, r10_width, hr, Option.bind_some, Bool.not_true, Bool.false_eq_true, if_false]
  refine iter_then (fun s => 128 - s.1.toNat) (fun s => ∃ i : Nat, s.1 = i ∧ i ≤ n ∧ s.2.V = a.V ∧ s.2.B.l = maskL a.B.l i)
    (fun r => r = .inl ⟨a.V, ⟨maskL a.B.l n, by rw [maskL_len, a.B.len]⟩⟩) ⟨0, rfl, by omega, rfl, ?_⟩ ?_ ?_
  · apply List.ext_getElem?
    intro j
    rw [maskL_get]
    show (List.replicate 16 (0 : UInt8))[j]? = _
    rw [List.getElem?_replicate]
    by_cases hj : j < 16
    · obtain ⟨b, hb⟩ := get16 a.B hj
      rw [if_pos hj, hb, Option.map_some, show min (0 - 8 * j) 8 = 0 by omega, mask_none]
    · rw [if_neg hj, List.getElem?_eq_none (by rw [a.B.len]; omega)]; rfl
  · rintro ⟨s, ⟨V, B⟩⟩ ⟨i, rfl, h1, h2, h3⟩
    dsimp only at h2 h3 ⊢
    subst h2
    by_cases hi : i < n
    · left
      obtain ⟨b, hb⟩ := get16 a.B (show i / 8 < 16 by omega)
      have ht : andO (decide ((i : Int) < (widthA a : Int))) (some (decide ((i : Int) < (n : Int)))) = some true := by
        rw [decide_eq_true (by omega), decide_eq_true (by omega)]; rfl
      have hBb : B.l[i / 8]? = some (maskB b (i % 8)) := by
        rw [h3, maskL_get, hb, Option.map_some, show min (i - 8 * (i / 8)) 8 = i % 8 by omega]
      have hstep := mask_step ⟨b.toNat, b.toNat_lt⟩ ⟨i % 8, by omega⟩
      simp only [addN, ofNat_toNat] at hstep
      have hnext : ∀ (c : UInt8), c = maskB b (i % 8 + 1) → B.l.set (i / 8) c = maskL a.B.l (i + 1) := by
        rintro c rfl
        apply List.ext_getElem?
        intro j
        rw [List.getElem?_set, maskL_get]
        by_cases hj : i / 8 = j
        · subst hj
          rw [if_pos rfl, if_pos (by rw [B.len]; omega), hb, Option.map_some, show min (i + 1 - 8 * (i / 8)) 8 = i % 8 + 1 by omega]
        · rw [if_neg hj, h3, maskL_get, show min (i + 1 - 8 * j) 8 = min (i - 8 * j) 8 by omega]
      have hwi : IntKind.i64.wrap ((i : Int) + 1) = ((i + 1 : Nat) : Int) := by rw [wrapS (by omega) (by omega)]; omega
      simp only [ht, Option.bind_some, if_true, r10_digit_val a i (by omega) b hb]
      by_cases hd : b.toNat / 2 ^ (7 - i % 8) % 2 = 1
      · rw [if_pos hd] at hstep
        rw [if_pos (by rw [decide_eq_true_eq]; omega)]
        rw [pow_val (r := i % 8) (by omega) (fun m k hm hk => by
          rw [tm8]
          simp only [Option.bind_some]
          by_cases hkr : k < i % 8
          · rw [if_pos (by rw [decide_eq_true_eq]; omega), if_pos hkr, td2 (by omega)]
            simp only [Option.bind_some]
            rw [wrapS (by omega) (by omega)]; rfl
          · rw [if_neg (by rw [decide_eq_true_eq]; omega), if_neg hkr])]
        simp only [Sum.elim_inl, td8 (show i < 1000 by omega), Option.bind_some, idxN_in (show i / 8 < 16 by omega), hBb, if_pos (show i / 8 < 16 by omega), hwi]
        refine ⟨_, rfl, ⟨i + 1, rfl, by omega, rfl, ?_⟩, by dsimp only; omega⟩
        exact hnext _ hstep.symm
      · rw [if_neg hd] at hstep
        rw [if_neg (by rw [decide_eq_true_eq]; omega), hwi]
        refine ⟨_, rfl, ⟨i + 1, rfl, by omega, rfl, ?_⟩, by dsimp only; omega⟩
        dsimp only
        rw [← hnext (maskB b (i % 8)) hstep.symm]
        exact (List.ext_getElem? fun j => by
          rw [List.getElem?_set]
          by_cases hj : i / 8 = j
          · subst hj; rw [if_pos rfl, if_pos (by rw [B.len]; omega), hBb]
          · rw [if_neg hj])
    · obtain rfl : i = n := by omega
      right
      have ht : andO (decide ((i : Int) < (widthA a : Int))) (some (decide ((i : Int) < (i : Int)))) = some false := by
        rw [decide_eq_false (show ¬ (i : Int) < (i : Int) by omega)]
        cases decide ((i : Int) < (widthA a : Int)) <;> rfl
      simp only [ht, Option.bind_some, Bool.false_eq_true, if_false]
      refine ⟨_, rfl, ?_⟩
      congr 2
      exact Ar.ext h3
  · rintro _ rfl; rfl
def rightP (p : S_api_Prefix) : Bool := rightA p.A && (decide (0 ≤ p.Bits ∧ p.Bits ≤ (widthA p.A : Int)) && decide (maskL p.A.B.l p.Bits.toNat = p.A.B.l))
theorem width_le (a : S_api_Addr) : widthA a ≤ 128 := by unfold widthA; split <;> (try split) <;> omega
theorem cidr_right (p : S_api_Prefix) : cidr_Right p = some (rightP p) := by
  obtain ⟨a, n⟩ := p
  have hw := width_le a
  unfold cidr_Right cidr_Of
  simp only [addr_right, addr_width, Option.bind_some, rightP]
  cases hr : rightA a with
  | false => simp [andO]
  | true =>
    simp only [Bool.not_true, Bool.false_eq_true, if_false, Bool.true_and]
    by_cases h0 : n < 0
    · have : orO (decide (n < 0)) (some (decide ((widthA a : Int) < n))) = some true := by rw [decide_eq_true h0]; rfl
      have hf : decide (0 ≤ n ∧ n ≤ (widthA a : Int)) = false := decide_eq_false (by omega)
      simp [this, hf, andO]
    · by_cases h1 : (widthA a : Int) < n
      · have : orO (decide (n < 0)) (some (decide ((widthA a : Int) < n))) = some true := by rw [decide_eq_false h0, decide_eq_true h1]; rfl
        have hf : decide (0 ≤ n ∧ n ≤ (widthA a : Int)) = false := decide_eq_false (by omega)
        simp [this, hf, andO]
      · have : orO (decide (n < 0)) (some (decide ((widthA a : Int) < n))) = some false := by rw [decide_eq_false h0, decide_eq_false h1]; rfl
        have hf : decide (0 ≤ n ∧ n ≤ (widthA a : Int)) = true := decide_eq_true (by omega)
        obtain ⟨m, rfl⟩ : ∃ m : Nat, n = m := ⟨n.toNat, by omega⟩
        simp only [this, hf, Option.bind_some, Bool.false_eq_true, if_false, addr_mask a m (by omega) hr, decide_true, andO, if_true, cmpP, Bool.true_and, Int.toNat_natCast]
        congr 1
        rw [decide_eq_decide]
        constructor
        · intro e
          have := congrArg (fun x : S_api_Prefix => x.A.B.l) e
          exact this
        · intro e
          obtain ⟨V, B⟩ := a
          congr 2
          exact Ar.ext e
theorem r11_right (p : S_api_Prefix) : r11_Right p = some (rightP p) := by
  obtain ⟨a, n⟩ := p
  have hw := width_le a
  unfold r11_Right
  simp only [r10_right, r10_width, Option.bind_some, rightP]
  cases hr : rightA a with
  | false => simp [orO]
  | true =>
    simp only [Bool.not_true, Bool.true_and]
    by_cases h0 : n < 0
    · have hf : decide (0 ≤ n ∧ n ≤ (widthA a : Int)) = false := decide_eq_false (by omega)
      simp [orO, hf, h0]
    · by_cases h1 : (widthA a : Int) < n
      · have hf : decide (0 ≤ n ∧ n ≤ (widthA a : Int)) = false := decide_eq_false (by omega)
        simp [orO, hf, h0, h1]
      · have hf : decide (0 ≤ n ∧ n ≤ (widthA a : Int)) = true := decide_eq_true (by omega)
        obtain ⟨m, rfl⟩ : ∃ m : Nat, n = m := ⟨n.toNat, by omega⟩
        simp only [orO, Bool.false_eq_true, if_false, Option.bind_some, decide_eq_false h0, decide_eq_false h1, hf, r10_mask a m (by omega) hr, cmpA, Bool.true_and, Int.toNat_natCast]
        congr 1
        rw [decide_eq_decide]
        constructor
        · intro e
          exact (congrArg (fun x : S_api_Addr => x.B.l) e).symm
        · intro e
          obtain ⟨V, B⟩ := a
          congr 1
          exact (Ar.ext e).symm
def lessQ (a b : List UInt8) (i : Nat) : Option Bool := if a[i]? = b[i]? then none else some (decide (((a[i]?).getD 0).toNat < ((b[i]?).getD 0).toNat))
def lessL (a b : List UInt8) : Bool := ((List.range' 0 16).findSome? (lessQ a b)).getD false
def lessA (a b : S_api_Addr) : Bool := if a.V = b.V then lessL a.B.l b.B.l else decide (a.V < b.V)
theorem find_some {p : Nat → Bool} {q : Nat → Option Bool} : ∀ {l : List Nat}, (∀ i ∈ l, (q i).isSome = p i) → l.findSome? q = (l.find? p).bind q
  | [], _ => rfl
  | x :: l, h => by
    have hx := h x (by simp)
    rw [List.findSome?_cons, List.find?_cons]
    cases hq : q x with
    | none => rw [hq] at hx; simp only [Option.isSome_none] at hx; rw [← hx]; exact find_some fun i hi => h i (by simp [hi])
    | some b => rw [hq] at hx; simp only [Option.isSome_some] at hx; rw [← hx]; simp [hq]
theorem cmp_less (a b : List UInt8) (ha : a.length = 16) (hb : b.length = 16) : decide (cmpBy a b < 0) = lessL a b := by
  unfold cmpBy Extern.BytealgCompare.cmp lessL
  have hga : ∀ i, i < 16 → (⟨a.toArray⟩ : ByteArray)[i]! = (a[i]?).getD 0 := fun i hi => by
    rw [getElem!_pos (⟨a.toArray⟩ : ByteArray) i (by show i < a.toArray.size; simp [ha, hi]), List.getElem?_eq_getElem (show i < a.length by omega)]
    rfl
  have hgb : ∀ i, i < 16 → (⟨b.toArray⟩ : ByteArray)[i]! = (b[i]?).getD 0 := fun i hi => by
    rw [getElem!_pos (⟨b.toArray⟩ : ByteArray) i (by show i < b.toArray.size; simp [hb, hi]), List.getElem?_eq_getElem (show i < b.length by omega)]
    rfl
  have hsa : (⟨a.toArray⟩ : ByteArray).size = 16 := by simp [ByteArray.size, ha]
  have hsb : (⟨b.toArray⟩ : ByteArray).size = 16 := by simp [ByteArray.size, hb]
  rw [hsa, hsb, List.range_eq_range']
  have hfs : (List.range' 0 16).findSome? (lessQ a b) = ((List.range' 0 16).find? fun i => (⟨a.toArray⟩ : ByteArray)[i]! != (⟨b.toArray⟩ : ByteArray)[i]!).bind (lessQ a b) := by
    refine find_some fun i hi => ?_
    rw [List.mem_range'_1] at hi
    rw [hga i (by omega), hgb i (by omega)]
    rw [List.getElem?_eq_getElem (show i < a.length by omega), List.getElem?_eq_getElem (show i < b.length by omega)]
    unfold lessQ
    rw [List.getElem?_eq_getElem (show i < a.length by omega), List.getElem?_eq_getElem (show i < b.length by omega)]
    by_cases e : a[i] = b[i] <;> simp [e]
  rw [hfs]
  simp only [Nat.min_self]
  cases e : (List.range' 0 16).find? fun i => (⟨a.toArray⟩ : ByteArray)[i]! != (⟨b.toArray⟩ : ByteArray)[i]! with
  | none => simp
  | some i =>
    have hi := List.mem_of_find?_eq_some e
    rw [List.mem_range'_1] at hi
    have hne := List.find?_some e
    rw [hga i (by omega), hgb i (by omega)] at hne
    have hq : lessQ a b i = some (decide (((a[i]?).getD 0).toNat < ((b[i]?).getD 0).toNat)) := by
      unfold lessQ
      rw [if_neg]
      intro h
      rw [h] at hne
      simp at hne
    simp only [Option.bind_some, hq, Option.getD_some, hga i (by omega), hgb i (by omega)]
    by_cases h : (a[i]?).getD 0 < (b[i]?).getD 0
    · rw [if_pos h]; simp [UInt8.lt_iff_toNat_lt.1 h]
    · rw [if_neg h]
      have : ¬ ((a[i]?).getD 0).toNat < ((b[i]?).getD 0).toNat := fun g => h (UInt8.lt_iff_toNat_lt.2 g)
      simp [this]
theorem addr_less (a b : S_api_Addr) : addr_Less a b = some (lessA a b) := by
  unfold addr_Less lessA
  by_cases h : a.V = b.V
  · have h1 : (a.B.l.drop 0).take 16 = a.B.l := List.take_of_length_le (by rw [List.drop_zero, a.B.len]; exact Nat.le_refl _)
    have h2 : (b.B.l.drop 0).take 16 = b.B.l := List.take_of_length_le (by rw [List.drop_zero, b.B.len]; exact Nat.le_refl _)
    have hb : bytes_Compare (.mk a.B.l) (.mk b.B.l) = some (cmpBy a.B.l b.B.l) := by simp only [bytes_Compare, internal_bytealg_Compare, Option.bind_some, GS.l_mk]
    rw [h1, h2, hb]
    simp only [h, decide_true, Bool.not_true, Bool.false_eq_true, if_false, if_true, Nat.zero_add, Nat.le_refl, and_self, Option.bind_some]
    exact congrArg some (cmp_less _ _ a.B.len b.B.len)
  · simp [h]
theorem r10_less (a b : S_api_Addr) : r10_Less a b = some (lessA a b) := by
  unfold r10_Less lessA
  by_cases h : a.V = b.V
  · simp only [h, decide_true, Bool.not_true, Bool.false_eq_true, if_false, if_true]
    rw [show (0 : Int) = ((0 : Nat) : Int) from rfl, scanK (n := 16) (lessQ a.B.l b.B.l) (by decide) (by decide)]
    · unfold lessL
      cases (List.range' 0 (16 - 0)).findSome? (lessQ a.B.l b.B.l) <;> rfl
    · intro i _ hi
      obtain ⟨x, hx⟩ := get16 a.B hi
      obtain ⟨y, hy⟩ := get16 b.B hi
      rw [if_pos (by simp; omega)]
      have hq : lessQ a.B.l b.B.l i = if x = y then none else some (decide (x.toNat < y.toNat)) := by
        unfold lessQ; rw [hx, hy]; simp
      simp only [idxN_in hi, Option.bind_some, hx, hy, hq]
      have e0 : ((x.toNat : Int) = (y.toNat : Int)) ↔ x = y := ⟨fun h => UInt8.toNat_inj.1 (by exact_mod_cast h), fun h => by rw [h]⟩
      by_cases e : x = y
      · simp [e]
      · have e1 : decide ((x.toNat : Int) < (y.toNat : Int)) = decide (x.toNat < y.toNat) := by rw [decide_eq_decide]; omega
        simp only [e0, e, decide_false, Bool.not_false, if_true, if_false, e1]; rfl
    · rw [if_neg (by simp)]
  · simp [h]
def lessP (p q : S_api_Prefix) : Bool := if p.A = q.A then decide (p.Bits < q.Bits) else lessA p.A q.A
theorem cidr_less (p q : S_api_Prefix) : cidr_Less p q = some (lessP p q) := by
  unfold cidr_Less lessP
  by_cases h : p.A = q.A <;> simp [cmpA, h, addr_less]
theorem r11_less (p q : S_api_Prefix) : r11_Less p q = some (lessP p q) := by
  unfold r11_Less lessP
  by_cases h : p.A = q.A <;> simp [cmpA, h, r10_less]
def rightE (e : S_api_Endpoint) : Bool := rightA e.A && (decide (1 ≤ e.Port) && decide (e.Port ≤ 65535))
theorem host_right (e : S_api_Endpoint) : hostport_Right e = some (rightE e) := by
  unfold hostport_Right rightE
  rw [addr_right]
  cases rightA e.A <;> by_cases h1 : 1 ≤ e.Port <;> simp [andO, h1]
theorem r12_right (e : S_api_Endpoint) : r12_Right e = some (rightE e) := by
  unfold r12_Right rightE
  rw [r10_right]
  cases rightA e.A <;> by_cases h1 : 1 ≤ e.Port <;> simp [andO, h1]
theorem host_none (e : S_api_Endpoint) : hostport_None e = some (decide (e = ⟨T_api_Addr.z, 0⟩)) := by
  unfold hostport_None; rw [cmpE]
end Go.Proofs.YtoegmdfkcaojlaaGreat.Am
namespace Go.Proofs.YtoegmdfkcaojlaaGreat.Am
end Go.Proofs.YtoegmdfkcaojlaaGreat.Am
namespace Go.Proofs.YtoegmdfkcaojlaaGreat.Am
def blk (c : UInt8) : Bool := c == 32 || c == 9 || c == 13
end Go.Proofs.YtoegmdfkcaojlaaGreat.Am
namespace Go.Proofs.YtoegmdfkcaojlaaGreat.Am
end Go.Proofs.YtoegmdfkcaojlaaGreat.Am
namespace Go.Proofs.YtoegmdfkcaojlaaGreat.Am
end Go.Proofs.YtoegmdfkcaojlaaGreat.Am
namespace Go.Proofs.YtoegmdfkcaojlaaGreat.Am
end Go.Proofs.YtoegmdfkcaojlaaGreat.Am
namespace Go.Proofs.YtoegmdfkcaojlaaGreat.Am
end Go.Proofs.YtoegmdfkcaojlaaGreat.Am
namespace Go.Proofs.YtoegmdfkcaojlaaGreat.Am
end Go.Proofs.YtoegmdfkcaojlaaGreat.Am
namespace Go.Proofs.YtoegmdfkcaojlaaGreat.Am
def gOf {α : Type} : List α → GS α
  | [] => .nil
  | x :: l => .mk (x :: l)
theorem gOf_l {α : Type} : ∀ l : List α, (gOf l).l = l
  | [] => rfl
  | _ :: _ => rfl
theorem gOf_snoc {α : Type} : ∀ (l : List α) (x : α), gOf (l ++ [x]) = .mk (l ++ [x])
  | [], _ => rfl
  | _ :: _, _ => rfl
end Go.Proofs.YtoegmdfkcaojlaaGreat.Am
namespace Go.Proofs.YtoegmdfkcaojlaaGreat.Am
open Classical
theorem cmpK (x y : Ar UInt8 32) : cmpB (CmpC.arr 32 CmpC.u8) x y = decide (x = y) :=
  if h : x = y then (cmpB_yes (t := T.arr 32 T.u8) h).trans (decide_eq_true h).symm else (cmpB_no (t := T.arr 32 T.u8) h).trans (decide_eq_false h).symm
theorem eqK' (x y : Ar UInt8 32) : eq_32_u8 x y = true ↔ x = y := by
  unfold eq_32_u8; rw [cmpK, decide_eq_true_iff]
theorem eqP' (x y : S_api_Prefix) : eq_api_Prefix x y = true ↔ x = y := by
  unfold eq_api_Prefix; simp only [cmpP, decide_eq_true_iff]
def tm {κ : Type} (l : List κ) : List (κ × Bool) := l.map fun k => (k, true)
theorem mget_in {κ : Type} {e : κ → κ → Bool} (he : ∀ x y, e x y = true ↔ x = y) {k : κ} : ∀ {l : List κ}, k ∈ l → (mget e (tm l) k).getD false = true
  | x :: l, hm => by
    simp only [tm, List.map_cons, mget]
    by_cases h : k = x
    · rw [(he k x).2 h]; rfl
    · have : e k x = false := by simpa using fun g => h ((he k x).1 g)
      rw [this, cond_false]
      exact mget_in he ((List.mem_cons.1 hm).resolve_left h)
theorem mget_out {κ : Type} {e : κ → κ → Bool} (he : ∀ x y, e x y = true ↔ x = y) {k : κ} : ∀ {l : List κ}, k ∉ l → (mget e (tm l) k).getD false = false
  | [], _ => rfl
  | x :: l, hm => by
    simp only [tm, List.map_cons, mget]
    have h : ¬ k = x := fun e => hm (by simp [e])
    have : e k x = false := by simpa using fun g => h ((he k x).1 g)
    rw [this, cond_false]
    exact mget_out he fun g => hm (by simp [g])
theorem mset_in {κ : Type} {e : κ → κ → Bool} (he : ∀ x y, e x y = true ↔ x = y) {k : κ} : ∀ {l : List κ}, k ∉ l → mset e (tm l) k true = tm (l ++ [k])
  | [], _ => rfl
  | x :: l, hm => by
    simp only [tm, List.map_cons, List.cons_append, mset]
    have h : ¬ k = x := fun e => hm (by simp [e])
    have : e k x = false := by simpa using fun g => h ((he k x).1 g)
    rw [this, cond_false]
    exact congrArg (fun r => (x, true) :: r) (mset_in he fun g => hm (by simp [g]))
theorem tm_len {κ : Type} (l : List κ) : (tm l).length = l.length := by simp [tm]
def okAt (l : List S_api_Prefix) (i : Nat) : Prop := ∃ p, l[i]? = some p ∧ rightP p = true ∧ (0 < i → ∃ q, l[i - 1]? = some q ∧ lessP q p = true)
def rising (l : List S_api_Prefix) : Prop := ∀ i, i < l.length → okAt l i
theorem okAt_test {l : List S_api_Prefix} {i : Nat} (hi : i < l.length) (hl : l.length < 4611686018427387904) {f : S_api_Prefix → Option Bool} {g : S_api_Prefix → S_api_Prefix → Option Bool} (hf : ∀ p, f p = some (rightP p)) (hg : ∀ p q, g p q = some (lessP p q)) :
    ((f l[i]).bind fun x10 => (orO (!x10) ((andO (decide (0 < (i : Int))) ((idx l (IntKind.i64.wrap ((i : Int) - 1))).bind fun x14 => (g x14 l[i]).bind fun x17 => some (!x17))).bind fun x19 => some x19))) = some (!decide (okAt l i)) := by
  rw [hf]
  simp only [Option.bind_some]
  cases hr : rightP l[i] with
  | false =>
    have : ¬ okAt l i := by
      rintro ⟨p, hp, h, _⟩
      rw [List.getElem?_eq_getElem hi] at hp
      cases hp
      rw [hr] at h; cases h
    simp [orO, this]
  | true =>
    simp only [Bool.not_true, orO, Bool.false_eq_true, if_false]
    by_cases h0 : 0 < i
    · have hw : IntKind.i64.wrap ((i : Int) - 1) = ((i - 1 : Nat) : Int) := by rw [wrapS (by omega) (by omega)]; omega
      rw [decide_eq_true (show (0 : Int) < (i : Int) by omega), hw, idx_nat, List.getElem?_eq_getElem (show i - 1 < l.length by omega)]
      simp only [andO, if_true, Option.bind_some, hg]
      congr 1
      have : okAt l i ↔ lessP l[i - 1] l[i] = true := by
        constructor
        · rintro ⟨p, hp, _, h⟩
          rw [List.getElem?_eq_getElem hi] at hp; cases hp
          obtain ⟨q, hq, h⟩ := h h0
          rw [List.getElem?_eq_getElem (show i - 1 < l.length by omega)] at hq; cases hq
          exact h
        · intro h
          exact ⟨_, List.getElem?_eq_getElem hi, hr, fun _ => ⟨_, List.getElem?_eq_getElem (show i - 1 < l.length by omega), h⟩⟩
      by_cases h : okAt l i
      · rw [this.1 h]; simp [h]
      · have h' : lessP l[i - 1] l[i] = false := by simpa using fun g => h (this.2 g)
        rw [h']; simp [h]
    · have : okAt l i := ⟨_, List.getElem?_eq_getElem hi, hr, fun g => absurd g h0⟩
      rw [decide_eq_false (show ¬ (0 : Int) < (i : Int) by omega)]
      simp [andO, this]
theorem rising_val (g : GS S_api_Prefix) (hl : g.l.length < 4611686018427387904) : view_rising g = some (decide (rising g.l)) := by
  unfold view_rising
  refine (scanK (k := 0) (n := g.l.length) (fun i => if okAt g.l i then none else some false) (by omega) hl ?_ ?_).trans ?_
  rotate_left 2
  · cases e : (List.range' 0 (g.l.length - 0)).findSome? (fun i => if okAt g.l i then none else some false) with
    | none =>
      simp only [Sum.elim_inl]
      have : rising g.l := fun i hi => by
        have := List.findSome?_eq_none_iff.1 e i (by rw [List.mem_range'_1]; omega)
        by_cases h : okAt g.l i
        · exact h
        · simp [h] at this
      rw [decide_eq_true this]
    | some b =>
      obtain ⟨i, hi, h'⟩ := List.exists_of_findSome?_eq_some e
      rw [List.mem_range'_1] at hi
      by_cases h : okAt g.l i
      · simp [h] at h'
      · simp only [h, if_false, Option.some.injEq] at h'
        subst h'
        have : ¬ rising g.l := fun r => h (r i (by omega))
        rw [decide_eq_false this]; rfl
  · intro i _ hi
    rw [if_pos (by simpa using hi), idx_nat, List.getElem?_eq_getElem hi]
    have ht := okAt_test hi hl (f := cidr_Right) (g := cidr_Less) cidr_right cidr_less
    simp only [Option.bind_some]
    rw [cidr_right] at ht ⊢
    simp only [Option.bind_some] at ht ⊢
    rw [ht]
    by_cases h : okAt g.l i <;> simp [h]
  · rw [if_neg (by simp)]
def zeroK : Ar UInt8 32 := ⟨[0, 0, 0, 0, 0, 0, 0, 0, 0, 0, 0, 0, 0, 0, 0, 0, 0, 0, 0, 0, 0, 0, 0, 0, 0, 0, 0, 0, 0, 0, 0, 0], rfl⟩
def noE : S_api_Endpoint := ⟨T_api_Addr.z, 0⟩
def short (n : Int) : Prop := 0 ≤ n ∧ n ≤ 65535
theorem short_val (n : Int) : view_short n = some (decide (short n)) := by
  unfold view_short short
  by_cases h : 0 ≤ n <;> simp [andO, h]
theorem from_val (n : Int) : r34_from n = some (decide (short n)) := by
  unfold r34_from short
  by_cases h : 0 ≤ n <;> simp [andO, h]
def okEnd (e : S_api_Endpoint) : Prop := e = noE ∨ rightE e = true
def okPeer (p : S_api_Peer) : Prop := short p.Keep ∧ okEnd p.End ∧ rising p.Allowed.l
def keysOf (l : List S_api_Peer) : List (Ar UInt8 32) := zeroK :: l.map (·.Key)
def preOf (l : List S_api_Peer) : List S_api_Prefix := l.flatMap (·.Allowed.l)
def Good (l : List S_api_Peer) : Prop := (∀ p ∈ l, okPeer p) ∧ (keysOf l).Nodup ∧ (preOf l).Nodup
def confOk (c : S_api_Conf) : Prop := short c.Port ∧ c.Peers.l.length ≤ 16 ∧ Good c.Peers.l ∧ (preOf c.Peers.l).length ≤ 64
def smallC (c : S_api_Conf) : Prop := c.Peers.l.length ≤ 400 ∧ ∀ p ∈ c.Peers.l, p.Allowed.l.length ≤ 400
theorem keysOf_snoc (l : List S_api_Peer) (p : S_api_Peer) : keysOf (l ++ [p]) = keysOf l ++ [p.Key] := by simp [keysOf]
theorem preOf_snoc (l : List S_api_Peer) (p : S_api_Peer) : preOf (l ++ [p]) = preOf l ++ p.Allowed.l := by simp [preOf]
theorem nodup_snoc {α : Type} {l : List α} {x : α} : (l ++ [x]).Nodup ↔ l.Nodup ∧ x ∉ l := by
  rw [List.nodup_append]
  constructor
  · rintro ⟨h1, _, h3⟩; exact ⟨h1, fun h => h3 x h x (by simp) rfl⟩
  · rintro ⟨h1, h2⟩
    refine ⟨h1, by simp, fun a ha b hb e => ?_⟩
    simp only [List.mem_singleton] at hb
    subst hb; subst e; exact h2 ha
theorem Good.snoc (l : List S_api_Peer) (p : S_api_Peer) : Good (l ++ [p]) ↔ Good l ∧ okPeer p ∧ p.Key ∉ keysOf l ∧ (preOf l ++ p.Allowed.l).Nodup := by
  unfold Good
  rw [keysOf_snoc, preOf_snoc, nodup_snoc]
  constructor
  · rintro ⟨h1, ⟨h2, h3⟩, h4⟩
    exact ⟨⟨fun q hq => h1 q (by simp [hq]), h2, (List.nodup_append.1 h4).1⟩, h1 p (by simp), h3, h4⟩
  · rintro ⟨⟨h1, h2, _⟩, h3, h4, h5⟩
    refine ⟨fun q hq => ?_, ⟨h2, h4⟩, h5⟩
    rcases List.mem_append.1 hq with hq | hq
    · exact h1 q hq
    · rw [List.mem_singleton.1 hq]; exact h3
theorem Good.take {l : List S_api_Peer} (h : Good l) (n : Nat) : Good (l.take n) := by
  have e : l = l.take n ++ l.drop n := (List.take_append_drop n l).symm
  unfold Good at h ⊢
  refine ⟨fun p hp => h.1 p (List.mem_of_mem_take hp), ?_, ?_⟩
  · have := h.2.1
    rw [e] at this
    simp only [keysOf, List.map_append, List.nodup_cons, List.mem_append, not_or, List.nodup_append] at this ⊢
    exact ⟨this.1.1, this.2.1⟩
  · have := h.2.2
    rw [e] at this
    simp only [preOf, List.flatMap_append] at this
    exact (List.nodup_append.1 this).1
theorem own_iter {ρ : Type} {F : Int × List (S_api_Prefix × Bool) → Option ((Int × List (S_api_Prefix × Bool)) ⊕ (List (S_api_Prefix × Bool) ⊕ ρ))} (l : List S_api_Prefix) (bad : ρ)
    (hF : ∀ (k : Nat) (m : List (S_api_Prefix × Bool)) (h : k < l.length), F ((k : Int), m) = if (mget eq_api_Prefix m l[k]).getD false = true then some (.inr (.inr bad)) else some (.inl (((k + 1 : Nat) : Int), mset eq_api_Prefix m l[k] true)))
    (hE : ∀ m, F ((l.length : Int), m) = some (.inr (.inl m))) (o : List S_api_Prefix) (ho : o.Nodup) : iter F (0, tm o) = some (if (o ++ l).Nodup then .inl (tm (o ++ l)) else .inr bad) := by
  refine iter_val (fun s : Int × List (S_api_Prefix × Bool) => l.length - s.1.toNat) (fun s : Int × List (S_api_Prefix × Bool) => ∃ k : Nat, s.1 = (k : Int) ∧ k ≤ l.length ∧ s.2 = tm (o ++ l.take k) ∧ (o ++ l.take k).Nodup) ?_ ⟨0, rfl, by omega, by simp, by simpa using ho⟩
  rintro ⟨s, m⟩ ⟨k, rfl, h1, h2, h3⟩
  dsimp only at h2 ⊢
  subst h2
  by_cases hk : k < l.length
  · rw [hF k _ hk]
    have ht : l.take (k + 1) = l.take k ++ [l[k]] := List.take_succ_eq_append_getElem hk
    by_cases hm : l[k] ∈ o ++ l.take k
    · right
      rw [if_pos (mget_in eqP' hm), if_neg]
      intro hn
      have e : o ++ l = (o ++ l.take k ++ [l[k]]) ++ l.drop (k + 1) := by
        rw [List.append_assoc o, ← ht, List.append_assoc, List.take_append_drop]
      rw [e] at hn
      exact (nodup_snoc.1 (List.nodup_append.1 hn).1).2 hm
    · left
      rw [if_neg (by rw [mget_out eqP' hm]; simp), mset_in eqP' hm]
      refine ⟨_, rfl, ⟨k + 1, rfl, by omega, ?_, ?_⟩, by dsimp only; omega⟩
      · rw [ht, List.append_assoc]
      · rw [ht, ← List.append_assoc, nodup_snoc]; exact ⟨h3, hm⟩
  · obtain rfl : k = l.length := by omega
    right
    rw [hE]
    rw [List.take_length] at h3 ⊢
    rw [if_pos h3]
theorem view_right (c : S_api_Conf) (hs : smallC c) : view_Right c = some (decide (confOk c)) := by
  have hlen := hs.1
  unfold view_Right
  simp only [short_val, Option.bind_some]
  by_cases hp : short c.Port
  rotate_left
  · have : ¬ confOk c := fun h => hp h.1
    simp [orO, hp, this]
  by_cases h16 : 16 < c.Peers.l.length
  · have : ¬ confOk c := fun h => by have := h.2.1; omega
    have hd : decide (16 < (c.Peers.l.length : Int)) = true := decide_eq_true (by omega)
    simp [orO, hp, this, hd]
  have hd : decide (16 < (c.Peers.l.length : Int)) = false := decide_eq_false (by omega)
  have h0 : mset eq_32_u8 ([] : List ((Ar UInt8 32) × Bool)) (⟨[0, 0, 0, 0, 0, 0, 0, 0, 0, 0, 0, 0, 0, 0, 0, 0, 0, 0, 0, 0, 0, 0, 0, 0, 0, 0, 0, 0, 0, 0, 0, 0], rfl⟩ : (Ar UInt8 32)) true = tm (keysOf []) := rfl
  simp only [orO, hp, hd, decide_true, Bool.not_true, Bool.false_eq_true, if_false, Option.bind_some, h0]
  refine iter_then (fun s => c.Peers.l.length - s.1.toNat) (fun s => ∃ n : Nat, s.1 = (n : Int) ∧ n ≤ c.Peers.l.length ∧ s.2.1 = tm (keysOf (c.Peers.l.take n)) ∧ s.2.2 = tm (preOf (c.Peers.l.take n)) ∧ Good (c.Peers.l.take n))
    (fun r => (r = .inl (tm (preOf c.Peers.l)) ∧ Good c.Peers.l) ∨ (r = .inr false ∧ ¬ Good c.Peers.l)) ⟨0, rfl, by omega, rfl, rfl, by simp [Good, keysOf, preOf]⟩ ?_ ?_
  · rintro ⟨s, km, om⟩ ⟨n, rfl, h1, h2, h3, h4⟩
    dsimp only at h2 h3 ⊢
    subst h2 h3
    by_cases hn : n < c.Peers.l.length
    · have hall := hs.2 _ (List.getElem_mem hn)
      have ht : c.Peers.l.take (n + 1) = c.Peers.l.take n ++ [c.Peers.l[n]] := List.take_succ_eq_append_getElem hn
      have hg := Good.snoc (c.Peers.l.take n) c.Peers.l[n]
      rw [← ht] at hg
      have bad : ¬ (okPeer c.Peers.l[n] ∧ c.Peers.l[n].Key ∉ keysOf (c.Peers.l.take n) ∧ (preOf (c.Peers.l.take n) ++ c.Peers.l[n].Allowed.l).Nodup) → ¬ Good c.Peers.l := fun hb hG => hb (hg.1 (hG.take (n + 1))).2
      rw [if_pos (by simpa using hn), idx_nat, List.getElem?_eq_getElem hn]
      simp only [Option.bind_some]
      by_cases hk : c.Peers.l[n].Key ∈ keysOf (c.Peers.l.take n)
      · right
        refine ⟨.inr false, ?_, .inr ⟨rfl, bad fun h => h.2.1 hk⟩⟩
        rw [mget_in eqK' hk]
        rfl
      rw [mget_out eqK' hk]
      by_cases hkeep : short c.Peers.l[n].Keep
      rotate_left
      · right
        refine ⟨.inr false, ?_, .inr ⟨rfl, bad fun h => hkeep h.1.1⟩⟩
        rw [decide_eq_false hkeep]
        rfl
      rw [decide_eq_true hkeep]
      simp only [Bool.not_true, Bool.false_eq_true, if_false, Option.bind_some]
      rw [rising_val _ (by omega)]
      by_cases hris : rising c.Peers.l[n].Allowed.l
      rotate_left
      · right
        refine ⟨.inr false, ?_, .inr ⟨rfl, bad fun h => hris h.1.2.2⟩⟩
        rw [decide_eq_false hris]
        rfl
      rw [decide_eq_true hris]
      have hend : ((hostport_None c.Peers.l[n].End).bind fun x30 => (andO (!x30) ((hostport_Right c.Peers.l[n].End).bind fun x33 => some (!x33)))) = some (!decide (okEnd c.Peers.l[n].End)) := by
        rw [host_none, host_right]
        simp only [Option.bind_some]
        by_cases e : c.Peers.l[n].End = ⟨T_api_Addr.z, 0⟩
        · have : okEnd c.Peers.l[n].End := .inl e
          simp [andO, e, this]
          exact .inl rfl
        · have : okEnd c.Peers.l[n].End ↔ rightE c.Peers.l[n].End = true := ⟨fun h => h.resolve_left e, .inr⟩
          cases hr : rightE c.Peers.l[n].End with
          | true => simp [andO, e, this, hr]
          | false => simp [andO, e, this, hr]
      have hend' : ∀ {γ : Type} (K : Bool → Option γ), ((hostport_None c.Peers.l[n].End).bind fun x30 => (andO (!x30) ((hostport_Right c.Peers.l[n].End).bind fun x33 => some (!x33))).bind K) = K (!decide (okEnd c.Peers.l[n].End)) := fun K => by
        have := congrArg (fun x => x.bind K) hend
        simpa only [Option.bind_assoc, Option.bind_some] using this
      simp only [Bool.not_true, Bool.false_eq_true, if_false, Option.bind_some]
      rw [hend']
      by_cases hE : okEnd c.Peers.l[n].End
      rotate_left
      · right
        refine ⟨.inr false, ?_, .inr ⟨rfl, bad fun h => hE h.1.2.1⟩⟩
        rw [decide_eq_false hE]
        rfl
      rw [decide_eq_true hE]
      simp only [Bool.not_true, Bool.false_eq_true, if_false]
      have hw1 : IntKind.i64.wrap ((n : Int) + 1) = ((n + 1 : Nat) : Int) := by rw [show (n : Int) + 1 = ((n + 1 : Nat) : Int) by omega, wrapN (by omega)]
      by_cases hN : (preOf (c.Peers.l.take n) ++ c.Peers.l[n].Allowed.l).Nodup
      · left
        refine ⟨(((n + 1 : Nat) : Int), tm (keysOf (c.Peers.l.take (n + 1))), tm (preOf (c.Peers.l.take (n + 1)))), ?_, ⟨n + 1, rfl, by omega, rfl, rfl, hg.2 ⟨h4, ⟨hkeep, hE, hris⟩, hk, hN⟩⟩, by dsimp only; omega⟩
        refine (congrArg (fun x => Option.bind x _) (own_iter c.Peers.l[n].Allowed.l (.inr (.inr false)) ?_ ?_ (preOf (c.Peers.l.take n)) h4.2.2)).trans ?_
        · intro k m h
          dsimp only
          rw [if_pos (by simpa using h), idx_nat, List.getElem?_eq_getElem h, show (k : Int) + 1 = ((k + 1 : Nat) : Int) by omega, wrapN (by omega)]
          rfl
        · intro m
          dsimp only
          rw [if_neg (by simp)]
        · rw [if_pos hN, hw1, mset_in eqK' hk, ht, keysOf_snoc, preOf_snoc]
          rfl
      · right
        refine ⟨.inr false, ?_, .inr ⟨rfl, bad fun h => hN h.2.2⟩⟩
        refine (congrArg (fun x => Option.bind x _) (own_iter c.Peers.l[n].Allowed.l (.inr (.inr false)) ?_ ?_ (preOf (c.Peers.l.take n)) h4.2.2)).trans ?_
        · intro k m h
          dsimp only
          rw [if_pos (by simpa using h), idx_nat, List.getElem?_eq_getElem h, show (k : Int) + 1 = ((k + 1 : Nat) : Int) by omega, wrapN (by omega)]
          rfl
        · intro m
          dsimp only
          rw [if_neg (by simp)]
        · rw [if_neg hN]
          rfl
    · obtain rfl : n = c.Peers.l.length := by omega
      right
      rw [if_neg (by simp)]
      rw [List.take_length] at h4 ⊢
      exact ⟨_, rfl, .inl ⟨rfl, h4⟩⟩
  · rintro _ (⟨rfl, hG⟩ | ⟨rfl, hG⟩)
    · simp only [Sum.elim_inl, tm_len]
      congr 1
      rw [decide_eq_decide]
      constructor
      · intro h; exact ⟨hp, by omega, hG, by omega⟩
      · intro h; have := h.2.2.2; omega
    · have : ¬ confOk c := fun h => hG h.2.2.1
      simp [this]
theorem scan_mem {α β ρ : Type} {l : List α} {x : α} {F : Int → Option (Int ⊕ (Unit ⊕ β))} {K : Unit ⊕ β → Option ρ} {b : β} (n : Nat) (hn : n ≤ l.length) (hl : l.length < 4611686018427387904)
    (h1 : ∀ i (h : i < n), (l[i]'(by omega) = x → F (i : Int) = some (.inr (.inr b))) ∧ (l[i]'(by omega) ≠ x → F (i : Int) = some (.inl (IntKind.i64.wrap ((i : Int) + 1))))) (h2 : F (n : Int) = some (.inr (.inl ()))) :
    (x ∈ l.take n → (iter F 0).bind K = K (.inr b)) ∧ (x ∉ l.take n → (iter F 0).bind K = K (.inl ())) := by
  have key := scanK (F := F) (K := K) (k := 0) (n := n) (fun i => if l[i]? = some x then some b else none) (by omega) (by omega) (fun i _ hi => by
    have hil : i < l.length := by omega
    by_cases e : l[i] = x
    · rw [(h1 i hi).1 e]; simp [List.getElem?_eq_getElem hil, e]
    · rw [(h1 i hi).2 e]; simp [List.getElem?_eq_getElem hil, e]) h2
  have key' : (iter F 0).bind K = _ := key
  rw [key']
  constructor
  · intro hx
    cases e : (List.range' 0 (n - 0)).findSome? (fun i => if l[i]? = some x then some b else none) with
    | none =>
      obtain ⟨i, hi, hg⟩ := List.getElem_of_mem hx
      rw [List.length_take] at hi
      have := List.findSome?_eq_none_iff.1 e i (by rw [List.mem_range'_1]; omega)
      rw [List.getElem_take] at hg
      rw [List.getElem?_eq_getElem (show i < l.length by omega), hg] at this
      simp at this
    | some c =>
      obtain ⟨i, hi, h'⟩ := List.exists_of_findSome?_eq_some e
      split at h'
      · cases h'; rfl
      · cases h'
  · intro hx
    cases e : (List.range' 0 (n - 0)).findSome? (fun i => if l[i]? = some x then some b else none) with
    | none => rfl
    | some c =>
      obtain ⟨i, hi, h'⟩ := List.exists_of_findSome?_eq_some e
      rw [List.mem_range'_1] at hi
      split at h'
      · rename_i hg
        obtain ⟨hlt, hg⟩ := List.getElem?_eq_some_iff.1 hg
        exact absurd (List.mem_take_iff_getElem.2 ⟨i, by omega, hg⟩) hx
      · cases h'
theorem scan_all {α β ρ : Type} {l : List α} {x : α} {F : Int → Option (Int ⊕ (Unit ⊕ β))} {K : Unit ⊕ β → Option ρ} {b : β} (hl : l.length < 4611686018427387904)
    (h1 : ∀ i (h : i < l.length), (l[i] = x → F (i : Int) = some (.inr (.inr b))) ∧ (l[i] ≠ x → F (i : Int) = some (.inl (IntKind.i64.wrap ((i : Int) + 1))))) (h2 : F (l.length : Int) = some (.inr (.inl ()))) :
    (x ∈ l → (iter F 0).bind K = K (.inr b)) ∧ (x ∉ l → (iter F 0).bind K = K (.inl ())) := by
  have := scan_mem (l := l) (x := x) (K := K) l.length (Nat.le_refl _) hl h1 h2
  rwa [List.take_length] at this
theorem own_iter2 {ρ : Type} {F : Int × GS S_api_Prefix → Option ((Int × GS S_api_Prefix) ⊕ (GS S_api_Prefix ⊕ ρ))} (l : List S_api_Prefix) (bad : ρ)
    (hF : ∀ (k : Nat) (m : List S_api_Prefix) (h : k < l.length), m.length ≤ 6800 → F ((k : Int), gOf m) = some (if okAt l k ∧ l[k] ∉ m then .inl (((k + 1 : Nat) : Int), gOf (m ++ [l[k]])) else .inr (.inr bad)))
    (hE : ∀ m, F ((l.length : Int), m) = some (.inr (.inl m))) (o : List S_api_Prefix) (ho : o.Nodup) (hb : o.length + l.length ≤ 6800) : iter F (0, gOf o) = some (if rising l ∧ (o ++ l).Nodup then .inl (gOf (o ++ l)) else .inr bad) := by
  refine iter_val (fun s => l.length - s.1.toNat) (fun s => ∃ k : Nat, s.1 = (k : Int) ∧ k ≤ l.length ∧ s.2 = gOf (o ++ l.take k) ∧ (o ++ l.take k).Nodup ∧ ∀ i, i < k → okAt l i) ?_ ⟨0, rfl, by omega, by simp, by simpa using ho, fun i hi => by omega⟩
  rintro ⟨s, m⟩ ⟨k, rfl, h1, h2, h3, h5⟩
  dsimp only at h2 ⊢
  subst h2
  by_cases hk : k < l.length
  · rw [hF k _ hk (by rw [List.length_append, List.length_take]; omega)]
    have ht : l.take (k + 1) = l.take k ++ [l[k]] := List.take_succ_eq_append_getElem hk
    by_cases hm : okAt l k ∧ l[k] ∉ o ++ l.take k
    · left
      rw [if_pos hm]
      refine ⟨_, rfl, ⟨k + 1, rfl, by omega, ?_, ?_, ?_⟩, by dsimp only; omega⟩
      · rw [ht, List.append_assoc]
      · rw [ht, ← List.append_assoc, nodup_snoc]; exact ⟨h3, hm.2⟩
      · intro i hi
        rcases Nat.lt_or_ge i k with h | h
        · exact h5 i h
        · obtain rfl : i = k := by omega
          exact hm.1
    · right
      rw [if_neg hm, if_neg]
      rintro ⟨hr, hn⟩
      refine hm ⟨hr k hk, fun hin => ?_⟩
      have e : o ++ l = (o ++ l.take k ++ [l[k]]) ++ l.drop (k + 1) := by
        rw [List.append_assoc o, ← ht, List.append_assoc, List.take_append_drop]
      rw [e] at hn
      exact (nodup_snoc.1 (List.nodup_append.1 hn).1).2 hin
  · obtain rfl : k = l.length := by omega
    right
    rw [hE]
    rw [List.take_length] at h3 ⊢
    rw [if_pos ⟨fun i hi => h5 i hi, h3⟩]
theorem preOf_len {l : List S_api_Peer} {n : Nat} (h : ∀ p ∈ l, p.Allowed.l.length ≤ n) : (preOf l).length ≤ l.length * n := by
  induction l with
  | nil => simp [preOf]
  | cons p l ih =>
    have h1 := h p (by simp)
    have h2 := ih fun q hq => h q (by simp [hq])
    simp only [preOf, List.flatMap_cons, List.length_append, List.length_cons, Nat.add_mul, Nat.one_mul] at h2 ⊢
    omega
theorem r34_right (c : S_api_Conf) (hs : smallC c) : r34_Right c = some (decide (confOk c)) := by
  have hlen := hs.1
  unfold r34_Right
  simp only [from_val, Option.bind_some]
  by_cases hp : short c.Port
  rotate_left
  · have : ¬ confOk c := fun h => hp h.1
    simp [orO, hp, this]
  by_cases h16 : 16 < c.Peers.l.length
  · have : ¬ confOk c := fun h => by have := h.2.1; omega
    have hd : decide (16 < (c.Peers.l.length : Int)) = true := decide_eq_true (by omega)
    simp [orO, hp, this, hd]
  have hd : decide (16 < (c.Peers.l.length : Int)) = false := decide_eq_false (by omega)
  simp only [orO, hp, hd, decide_true, Bool.not_true, Bool.false_eq_true, if_false, Option.bind_some]
  refine iter_then (fun s => c.Peers.l.length - s.1.toNat) (fun s => ∃ n : Nat, s.1 = (n : Int) ∧ n ≤ c.Peers.l.length ∧ s.2 = gOf (preOf (c.Peers.l.take n)) ∧ Good (c.Peers.l.take n))
    (fun r => (r = .inl (gOf (preOf c.Peers.l)) ∧ Good c.Peers.l) ∨ (r = .inr false ∧ ¬ Good c.Peers.l)) ⟨0, rfl, by omega, rfl, by simp [Good, keysOf, preOf]⟩ ?_ ?_
  · rintro ⟨s, om⟩ ⟨n, rfl, h1, h3, h4⟩
    dsimp only at h3 ⊢
    subst h3
    by_cases hn : n < c.Peers.l.length
    · have hall := hs.2 _ (List.getElem_mem hn)
      have ht : c.Peers.l.take (n + 1) = c.Peers.l.take n ++ [c.Peers.l[n]] := List.take_succ_eq_append_getElem hn
      have hg := Good.snoc (c.Peers.l.take n) c.Peers.l[n]
      rw [← ht] at hg
      have bad : ¬ (okPeer c.Peers.l[n] ∧ c.Peers.l[n].Key ∉ keysOf (c.Peers.l.take n) ∧ (preOf (c.Peers.l.take n) ++ c.Peers.l[n].Allowed.l).Nodup) → ¬ Good c.Peers.l := fun hb hG => hb (hg.1 (hG.take (n + 1))).2
      have hkz : c.Peers.l[n].Key ∈ keysOf (c.Peers.l.take n) ↔ c.Peers.l[n].Key = zeroK ∨ c.Peers.l[n].Key ∈ (c.Peers.l.take n).map (·.Key) := by simp [keysOf]
      have hpl : (preOf (c.Peers.l.take n)).length ≤ 6400 := by
        have := preOf_len (l := c.Peers.l.take n) (n := 400) fun p hp => hs.2 p (List.mem_of_mem_take hp)
        rw [List.length_take] at this
        have h2 : min n c.Peers.l.length * 400 ≤ 16 * 400 := Nat.mul_le_mul_right _ (by omega)
        omega
      have hw1 : IntKind.i64.wrap ((n : Int) + 1) = ((n + 1 : Nat) : Int) := by rw [show (n : Int) + 1 = ((n + 1 : Nat) : Int) by omega, wrapN (by omega)]
      rw [if_pos (by simpa using hn), idx_nat, List.getElem?_eq_getElem hn]
      simp only [Option.bind_some, cmpK]
      have hz : (⟨[0, 0, 0, 0, 0, 0, 0, 0, 0, 0, 0, 0, 0, 0, 0, 0, 0, 0, 0, 0, 0, 0, 0, 0, 0, 0, 0, 0, 0, 0, 0, 0], rfl⟩ : (Ar UInt8 32)) = zeroK := rfl
      rw [hz]
      by_cases hk0 : c.Peers.l[n].Key = zeroK
      · right
        refine ⟨.inr false, ?_, .inr ⟨rfl, bad fun h => h.2.1 (hkz.2 (.inl hk0))⟩⟩
        rw [decide_eq_true hk0]
        rfl
      rw [decide_eq_false hk0]
      by_cases hkeep : short c.Peers.l[n].Keep
      rotate_left
      · right
        refine ⟨.inr false, ?_, .inr ⟨rfl, bad fun h => hkeep h.1.1⟩⟩
        rw [decide_eq_false hkeep]
        rfl
      rw [decide_eq_true hkeep]
      have hend : ∀ {γ : Type} (K : Bool → Option γ), ((andO (!(cmpB C_api_Endpoint c.Peers.l[n].End (⟨T_api_Addr.z, 0⟩ : S_api_Endpoint))) ((r12_Right c.Peers.l[n].End).bind fun x29 => some (!x29))).bind K) = K (!decide (okEnd c.Peers.l[n].End)) := fun K => by
        simp only [cmpE, r12_right, Option.bind_some]
        by_cases e : c.Peers.l[n].End = ⟨T_api_Addr.z, 0⟩
        · have : okEnd c.Peers.l[n].End := .inl e
          rw [decide_eq_true e, decide_eq_true this]; rfl
        · have : okEnd c.Peers.l[n].End ↔ rightE c.Peers.l[n].End = true := ⟨fun h => h.resolve_left e, .inr⟩
          rw [decide_eq_false e]
          cases hr : rightE c.Peers.l[n].End with
          | true => rw [decide_eq_true (this.2 hr)]; rfl
          | false => rw [decide_eq_false (fun h => by rw [this.1 h] at hr; cases hr)]; rfl
      simp only [Bool.not_true, Bool.false_eq_true, if_false, Option.bind_some]
      rw [hend]
      by_cases hE : okEnd c.Peers.l[n].End
      rotate_left
      · right
        refine ⟨.inr false, ?_, .inr ⟨rfl, bad fun h => hE h.1.2.1⟩⟩
        rw [decide_eq_false hE]
        rfl
      rw [decide_eq_true hE]
      simp only [Bool.not_true, Bool.false_eq_true, if_false, Option.bind_some]
      -- the keys ahead
      have hmem : c.Peers.l[n].Key ∈ (c.Peers.l.map (·.Key)).take n ↔ c.Peers.l[n].Key ∈ (c.Peers.l.take n).map (·.Key) := by rw [List.map_take]
      by_cases hk1 : c.Peers.l[n].Key ∈ (c.Peers.l.map (·.Key)).take n
      · right
        refine ⟨.inr false, ?_, .inr ⟨rfl, bad fun h => h.2.1 (hkz.2 (.inr (hmem.1 hk1)))⟩⟩
        refine ((scan_mem (l := c.Peers.l.map (·.Key)) (b := .inr (.inr false)) n (by rw [List.length_map]; omega) (by rw [List.length_map]; omega) ?_ ?_).1 hk1).trans ?_
        · intro i hi
          rw [if_pos (by rw [decide_eq_true_eq]; omega), idx_nat, List.getElem?_eq_getElem (show i < c.Peers.l.length by omega), List.getElem_map]
          simp only [Option.bind_some]
          exact ⟨fun e => by rw [if_pos (decide_eq_true e)]; rfl, fun e => by rw [if_neg (by rw [decide_eq_false e]; simp)]⟩
        · rw [if_neg (by rw [decide_eq_true_eq]; omega)]
        · rfl
      have hk : c.Peers.l[n].Key ∉ keysOf (c.Peers.l.take n) := fun h => (hkz.1 h).elim hk0 fun h => hk1 (hmem.2 h)
      by_cases hN : rising c.Peers.l[n].Allowed.l ∧ (preOf (c.Peers.l.take n) ++ c.Peers.l[n].Allowed.l).Nodup
      · left
        refine ⟨(((n + 1 : Nat) : Int), gOf (preOf (c.Peers.l.take (n + 1)))), ?_, ⟨n + 1, rfl, by omega, rfl, hg.2 ⟨h4, ⟨hkeep, hE, hN.1⟩, hk, hN.2⟩⟩, by dsimp only; omega⟩
        refine ((scan_mem (l := c.Peers.l.map (·.Key)) (b := .inr (.inr false)) n (by rw [List.length_map]; omega) (by rw [List.length_map]; omega) ?_ ?_).2 hk1).trans ?_
        · intro i hi
          rw [if_pos (by rw [decide_eq_true_eq]; omega), idx_nat, List.getElem?_eq_getElem (show i < c.Peers.l.length by omega), List.getElem_map]
          simp only [Option.bind_some]
          exact ⟨fun e => by rw [if_pos (decide_eq_true e)]; rfl, fun e => by rw [if_neg (by rw [decide_eq_false e]; simp)]⟩
        · rw [if_neg (by rw [decide_eq_true_eq]; omega)]
        · dsimp only [Sum.elim_inl]
          refine (congrArg (fun x => Option.bind x _) (own_iter2 c.Peers.l[n].Allowed.l (.inr (.inr false)) ?_ ?_ (preOf (c.Peers.l.take n)) h4.2.2 (by omega))).trans ?_
          · intro k m h hm
            have hgl := gOf_l m
            have htst := okAt_test h (by omega) (f := r11_Right) (g := r11_Less) r11_right r11_less
            dsimp only
            rw [if_pos (by simpa using h), idx_nat, List.getElem?_eq_getElem h, Option.bind_some]
            simp only [orO] at htst
            rw [r11_right] at htst ⊢
            simp only [Option.bind_some] at htst ⊢
            rw [htst]
            by_cases hok : okAt c.Peers.l[n].Allowed.l k
            · rw [decide_eq_true hok]
              simp only [Option.bind_some, Bool.not_true, Bool.false_eq_true, if_false]
              by_cases hin : c.Peers.l[n].Allowed.l[k] ∈ m
              · rw [if_neg (fun h => h.2 hin)]
                refine ((scan_all (l := m) (x := c.Peers.l[n].Allowed.l[k]) (b := (Sum.inr (Sum.inr (Sum.inr (Sum.inr false))) : (Int × GS S_api_Prefix) ⊕ (GS S_api_Prefix ⊕ ((Int × GS S_api_Prefix) ⊕ (GS S_api_Prefix ⊕ Bool))))) (by omega) ?_ ?_).1 hin).trans ?_
                skip
                · intro i hi
                  rw [if_pos (by rw [decide_eq_true_eq, hgl]; omega), idxN_nat (by rw [hgl]; exact hi), Option.bind_some, hgl, List.getElem?_eq_getElem hi]
                  simp only [Option.map_some, Option.bind_some, cmpP]
                  exact ⟨fun e => by rw [if_pos (decide_eq_true e)], fun e => by rw [if_neg (by rw [decide_eq_false e]; simp)]⟩
                · rw [if_neg (by rw [decide_eq_true_eq, hgl]; omega)]
                · rfl
              · rw [if_pos ⟨hok, hin⟩]
                refine ((scan_all (l := m) (x := c.Peers.l[n].Allowed.l[k]) (b := (Sum.inr (Sum.inr (Sum.inr (Sum.inr false))) : (Int × GS S_api_Prefix) ⊕ (GS S_api_Prefix ⊕ ((Int × GS S_api_Prefix) ⊕ (GS S_api_Prefix ⊕ Bool))))) (by omega) ?_ ?_).2 hin).trans ?_
                skip
                · intro i hi
                  rw [if_pos (by rw [decide_eq_true_eq, hgl]; omega), idxN_nat (by rw [hgl]; exact hi), Option.bind_some, hgl, List.getElem?_eq_getElem hi]
                  simp only [Option.map_some, Option.bind_some, cmpP]
                  exact ⟨fun e => by rw [if_pos (decide_eq_true e)], fun e => by rw [if_neg (by rw [decide_eq_false e]; simp)]⟩
                · rw [if_neg (by rw [decide_eq_true_eq, hgl]; omega)]
                · dsimp only [Sum.elim_inl]
                  rw [apG_one (by rw [hgl]; unfold most; omega), show (k : Int) + 1 = ((k + 1 : Nat) : Int) by omega, wrapN (by omega), hgl, gOf_snoc]
                  rfl
            · rw [decide_eq_false hok, if_neg (fun h => hok h.1)]
              rfl
          · intro m
            dsimp only
            rw [if_neg (by simp)]
          · rw [if_pos hN, hw1, ht, preOf_snoc]
            rfl
      · right
        refine ⟨.inr false, ?_, .inr ⟨rfl, bad fun h => hN ⟨h.1.2.2, h.2.2⟩⟩⟩
        refine ((scan_mem (l := c.Peers.l.map (·.Key)) (b := .inr (.inr false)) n (by rw [List.length_map]; omega) (by rw [List.length_map]; omega) ?_ ?_).2 hk1).trans ?_
        · intro i hi
          rw [if_pos (by rw [decide_eq_true_eq]; omega), idx_nat, List.getElem?_eq_getElem (show i < c.Peers.l.length by omega), List.getElem_map]
          simp only [Option.bind_some]
          exact ⟨fun e => by rw [if_pos (decide_eq_true e)]; rfl, fun e => by rw [if_neg (by rw [decide_eq_false e]; simp)]⟩
        · rw [if_neg (by rw [decide_eq_true_eq]; omega)]
        · dsimp only [Sum.elim_inl]
          refine (congrArg (fun x => Option.bind x _) (own_iter2 c.Peers.l[n].Allowed.l (.inr (.inr false)) ?_ ?_ (preOf (c.Peers.l.take n)) h4.2.2 (by omega))).trans ?_
          · intro k m h hm
            have hgl := gOf_l m
            have htst := okAt_test h (by omega) (f := r11_Right) (g := r11_Less) r11_right r11_less
            dsimp only
            rw [if_pos (by simpa using h), idx_nat, List.getElem?_eq_getElem h, Option.bind_some]
            simp only [orO] at htst
            rw [r11_right] at htst ⊢
            simp only [Option.bind_some] at htst ⊢
            rw [htst]
            by_cases hok : okAt c.Peers.l[n].Allowed.l k
            · rw [decide_eq_true hok]
              simp only [Option.bind_some, Bool.not_true, Bool.false_eq_true, if_false]
              by_cases hin : c.Peers.l[n].Allowed.l[k] ∈ m
              · rw [if_neg (fun h => h.2 hin)]
                refine ((scan_all (l := m) (x := c.Peers.l[n].Allowed.l[k]) (b := (Sum.inr (Sum.inr (Sum.inr (Sum.inr false))) : (Int × GS S_api_Prefix) ⊕ (GS S_api_Prefix ⊕ ((Int × GS S_api_Prefix) ⊕ (GS S_api_Prefix ⊕ Bool))))) (by omega) ?_ ?_).1 hin).trans ?_
                skip
                · intro i hi
                  rw [if_pos (by rw [decide_eq_true_eq, hgl]; omega), idxN_nat (by rw [hgl]; exact hi), Option.bind_some, hgl, List.getElem?_eq_getElem hi]
                  simp only [Option.map_some, Option.bind_some, cmpP]
                  exact ⟨fun e => by rw [if_pos (decide_eq_true e)], fun e => by rw [if_neg (by rw [decide_eq_false e]; simp)]⟩
                · rw [if_neg (by rw [decide_eq_true_eq, hgl]; omega)]
                · rfl
              · rw [if_pos ⟨hok, hin⟩]
                refine ((scan_all (l := m) (x := c.Peers.l[n].Allowed.l[k]) (b := (Sum.inr (Sum.inr (Sum.inr (Sum.inr false))) : (Int × GS S_api_Prefix) ⊕ (GS S_api_Prefix ⊕ ((Int × GS S_api_Prefix) ⊕ (GS S_api_Prefix ⊕ Bool))))) (by omega) ?_ ?_).2 hin).trans ?_
                skip
                · intro i hi
                  rw [if_pos (by rw [decide_eq_true_eq, hgl]; omega), idxN_nat (by rw [hgl]; exact hi), Option.bind_some, hgl, List.getElem?_eq_getElem hi]
                  simp only [Option.map_some, Option.bind_some, cmpP]
                  exact ⟨fun e => by rw [if_pos (decide_eq_true e)], fun e => by rw [if_neg (by rw [decide_eq_false e]; simp)]⟩
                · rw [if_neg (by rw [decide_eq_true_eq, hgl]; omega)]
                · dsimp only [Sum.elim_inl]
                  rw [apG_one (by rw [hgl]; unfold most; omega), show (k : Int) + 1 = ((k + 1 : Nat) : Int) by omega, wrapN (by omega), hgl, gOf_snoc]
                  rfl
            · rw [decide_eq_false hok, if_neg (fun h => hok h.1)]
              rfl
          · intro m
            dsimp only
            rw [if_neg (by simp)]
          · rw [if_neg hN]
            rfl
    · obtain rfl : n = c.Peers.l.length := by omega
      right
      rw [if_neg (by simp)]
      rw [List.take_length] at h4 ⊢
      exact ⟨_, rfl, .inl ⟨rfl, h4⟩⟩
  · rintro _ (⟨rfl, hG⟩ | ⟨rfl, hG⟩)
    · simp only [Sum.elim_inl, gOf_l]
      congr 1
      rw [decide_eq_decide]
      constructor
      · intro h; exact ⟨hp, by omega, hG, by omega⟩
      · intro h; have := h.2.2.2; omega
    · have : ¬ confOk c := fun h => hG h.2.2.1
      simp [this]
end Go.Proofs.YtoegmdfkcaojlaaGreat.Am
namespace Go.Proofs.YtoegmdfkcaojlaaGreat.Am
theorem apG_n {α : Type} {bytes : Nat} {g : GS α} {x : α} (h : (g.l.length + 1) * bytes ≤ most) : ∃ g', apG bytes g [x] = some g' ∧ g'.l = g.l ++ [x] := by
  cases g with
  | nil => exact ⟨.mk ([] ++ [x]), by unfold apG; rw [if_pos (by simpa using h)]; rfl, rfl⟩
  | mk l => exact ⟨_, apG_one h, rfl⟩
theorem largeC_val (c : S_api_Conf) : ∃ b, r34_Large c = some b ∧ (b = false → smallC c) := by
  unfold r34_Large
  by_cases h : 20 < c.Peers.l.length
  · exact ⟨true, by rw [if_pos (by rw [decide_eq_true_eq]; omega)], by simp⟩
  · rw [if_neg (by rw [decide_eq_true_eq]; omega)]
    obtain ⟨r, e, hq⟩ : ∃ r : Unit ⊕ Bool, iter (fun s4 : Int => if (decide (s4 < (c.Peers.l.length : Int))) = true then
       (idx c.Peers.l s4).bind fun x10 =>
       if (decide (80 < (x10.Allowed.l.length : Int))) = true then
       (some true).map fun r => .inr (.inr r)
       else
       some (.inl (IntKind.i64.wrap (s4 + 1)))
       else
       some (.inr (.inl ()))) 0 = some r ∧ (r = .inr true ∨ (r = .inl () ∧ smallC c)) := by
      refine iter_ind (fun s : Int => c.Peers.l.length - s.toNat) (fun s : Int => ∃ n : Nat, s = n ∧ n ≤ c.Peers.l.length ∧ ∀ i (hi : i < n) (hl : i < c.Peers.l.length), c.Peers.l[i].Allowed.l.length ≤ 80)
        (fun r : Unit ⊕ Bool => r = .inr true ∨ (r = .inl () ∧ smallC c)) ?_ ⟨0, rfl, by omega, fun i hi => absurd hi (by omega)⟩
      rintro _ ⟨n, rfl, h1, h2⟩
      by_cases hn : n < c.Peers.l.length
      · rw [if_pos (by simpa using hn), idx_nat, List.getElem?_eq_getElem hn, Option.bind_some]
        by_cases h8 : 80 < c.Peers.l[n].Allowed.l.length
        · rw [if_pos (by rw [decide_eq_true_eq]; omega)]
          exact .inr ⟨_, rfl, .inl rfl⟩
        · rw [if_neg (by rw [decide_eq_true_eq]; omega), show (n : Int) + 1 = ((n + 1 : Nat) : Int) by omega, wrapN (by omega)]
          refine .inl ⟨_, rfl, ⟨n + 1, rfl, by omega, fun i hi hl => ?_⟩, by omega⟩
          by_cases e : i < n
          · exact h2 i e hl
          · obtain rfl : i = n := by omega
            omega
      · rw [if_neg (by simpa using hn)]
        refine .inr ⟨_, rfl, .inr ⟨rfl, by omega, fun p hp => ?_⟩⟩
        obtain ⟨i, hi, rfl⟩ := List.mem_iff_getElem.1 hp
        exact Nat.le_trans (h2 i (by omega) hi) (by decide)
    refine ⟨Sum.elim (fun _ => false) (fun b => b) r, (congrArg (fun x : Option (Unit ⊕ Bool) => x.bind (Sum.elim (fun _ => some false) some)) e).trans (by cases r <;> rfl), ?_⟩
    rcases hq with rfl | ⟨rfl, hq⟩
    · intro h; cases h
    · exact fun _ => hq
def norP (p : S_api_Peer) : Ar UInt8 32 × Ar UInt8 32 × S_api_Endpoint × Int × UInt64 × UInt64 × List S_api_Prefix := (p.Key, p.Psk, p.End, p.Keep, p.Sent, p.Got, p.Allowed.l)
def norC (c : S_api_Conf) : Ar UInt8 32 × Int × UInt32 × List (Ar UInt8 32 × Ar UInt8 32 × S_api_Endpoint × Int × UInt64 × UInt64 × List S_api_Prefix) := (c.Private, c.Port, c.Mark, c.Peers.l.map norP)
theorem allI {n : Nat} {F : Int → Option (Int ⊕ (Unit ⊕ Bool))} {K : Option Bool} (p : Nat → Prop) (hn : n < 4611686018427387904)
    (h0 : ∀ i : Nat, i < n → p i → F (i : Int) = some (.inl (IntKind.i64.wrap ((i : Int) + 1)))) (h1 : ∀ i : Nat, i < n → ¬ p i → F (i : Int) = some (.inr (.inr false)))
    (h2 : F (n : Int) = some (.inr (.inl ()))) : ((∀ i, i < n → p i) ∧ (iter F 0).bind (Sum.elim (fun _ => K) some) = K) ∨ ((¬ ∀ i, i < n → p i) ∧ (iter F 0).bind (Sum.elim (fun _ => K) some) = some false) := by
  classical
  have := scanK (K := Sum.elim (fun _ => K) some) (k := 0) (n := n) (fun i => if p i then none else some false) (Nat.zero_le _) hn (fun i _ hi => by
    by_cases e : p i
    · rw [if_pos e, h0 i hi e]
    · rw [if_neg e, h1 i hi e]) h2
  have this' : (iter F 0).bind (Sum.elim (fun _ => K) some) = _ := this
  rw [this']
  cases e : (List.range' 0 (n - 0)).findSome? fun i => if p i then none else some false with
  | none =>
    left
    refine ⟨fun i hi => ?_, rfl⟩
    have h := List.findSome?_eq_none_iff.1 e i (by simp; omega)
    by_cases q : p i
    · exact q
    · rw [if_neg q] at h; cases h
  | some b =>
    right
    obtain ⟨i, hi, hb⟩ := List.exists_of_findSome?_eq_some e
    simp only [List.mem_range'_1] at hi
    by_cases q : p i
    · rw [if_pos q] at hb; cases hb
    · rw [if_neg q] at hb
      cases hb
      exact ⟨fun h => q (h i (by omega)), rfl⟩
theorem r11_same (a b : GS S_api_Prefix) (ha : a.l.length < 1000000000) : r11_Same a b = some (decide (a.l = b.l)) := by
  unfold r11_Same
  dsimp only
  by_cases h : a.l.length = b.l.length
  · rw [if_neg (by simp [h])]
    rcases allI (n := a.l.length) (F := fun (s4 : Int) =>
      if (decide (s4 < (a.l.length : Int))) = true then
      (idx a.l s4).bind fun x8 => (idx b.l s4).bind fun x10 => if (!(cmpB C_api_Prefix x8 x10)) = true then (some false).map fun r => .inr (.inr r) else some (.inl (IntKind.i64.wrap (s4 + 1)))
      else some (.inr (.inl ()))) (K := some true) (fun i => a.l[i]? = b.l[i]?) (by omega) (fun i hi hp => by
        have hb : i < b.l.length := by omega
        rw [List.getElem?_eq_getElem hi, List.getElem?_eq_getElem hb, Option.some.injEq] at hp
        rw [if_pos (by simpa using hi), idx_nat, idx_nat, List.getElem?_eq_getElem hi, List.getElem?_eq_getElem hb, Option.bind_some, Option.bind_some, if_neg (by rw [cmpP, decide_eq_true hp]; decide)]) (fun i hi hp => by
        have hb : i < b.l.length := by omega
        rw [List.getElem?_eq_getElem hi, List.getElem?_eq_getElem hb, Option.some.injEq] at hp
        rw [if_pos (by simpa using hi), idx_nat, idx_nat, List.getElem?_eq_getElem hi, List.getElem?_eq_getElem hb, Option.bind_some, Option.bind_some, if_pos (by rw [cmpP, decide_eq_false hp]; decide)]; rfl) (by rw [if_neg (by simp)]) with ⟨hq, e⟩ | ⟨hq, e⟩
    · refine e.trans (congrArg some (decide_eq_true (List.ext_getElem? fun i => ?_)).symm)
      by_cases hi : i < a.l.length
      · exact hq i hi
      · rw [List.getElem?_eq_none (by omega), List.getElem?_eq_none (by omega)]
    · exact e.trans (congrArg some (decide_eq_false fun h => hq fun i _ => by rw [h]).symm)
  · rw [if_pos (by simp only [Bool.not_eq_true', decide_eq_false_iff_not]; omega), decide_eq_false fun e => h (by rw [e])]
theorem u64_eq (x y : UInt64) : decide ((x.toNat : Int) = (y.toNat : Int)) = decide (x = y) := by
  by_cases h : x = y
  · subst h; simp
  · rw [decide_eq_false h, decide_eq_false]
    intro e
    exact h (UInt64.toNat_inj.1 (by omega))
theorem u32_eq (x y : UInt32) : decide ((x.toNat : Int) = (y.toNat : Int)) = decide (x = y) := by
  by_cases h : x = y
  · subst h; simp
  · rw [decide_eq_false h, decide_eq_false]
    intro e
    exact h (UInt32.toNat_inj.1 (by omega))
open Classical in
theorem same_peer (p q : S_api_Peer) (hp : p.Allowed.l.length < 1000000000) : r34_SamePeer p q = some (decide (norP p = norP q)) := by
  unfold r34_SamePeer
  dsimp only
  rw [cmpK, cmpK, cmpE, u64_eq, u64_eq, r11_same _ _ hp]
  unfold norP
  by_cases h1 : p.Key = q.Key <;> by_cases h2 : p.Psk = q.Psk <;> by_cases h3 : p.End = q.End <;> by_cases h4 : p.Keep = q.Keep <;> by_cases h5 : p.Sent = q.Sent <;> by_cases h6 : p.Got = q.Got <;> by_cases h7 : p.Allowed.l = q.Allowed.l <;> simp [andO, h1, h2, h3, h4, h5, h6, h7]
open Classical in
theorem same_conf (a b : S_api_Conf) (hs : smallC a) : r34_Same a b = some (decide (norC a = norC b)) := by
  unfold r34_Same
  dsimp only
  rw [cmpK, u32_eq]
  have hlen : (decide ((a.Peers.l.length : Int) = (b.Peers.l.length : Int))) = decide (a.Peers.l.length = b.Peers.l.length) := by
    by_cases h : a.Peers.l.length = b.Peers.l.length <;> simp [h]; omega
  rw [hlen]
  by_cases h1 : a.Private = b.Private
  · by_cases h2 : a.Port = b.Port
    · by_cases h3 : a.Mark = b.Mark
      · by_cases h4 : a.Peers.l.length = b.Peers.l.length
        · simp only [h1, h2, h3, h4, decide_true, Bool.not_true, orO, Option.bind_some, Bool.false_eq_true, if_false]
          rcases allI (n := a.Peers.l.length) (F := fun (s18 : Int) =>
            if (decide (s18 < (a.Peers.l.length : Int))) = true then
            (idx a.Peers.l s18).bind fun x24 => (idx b.Peers.l s18).bind fun x27 => (r34_SamePeer x24 x27).bind fun x29 => if (!x29) = true then (some false).map fun r => .inr (.inr r) else some (.inl (IntKind.i64.wrap (s18 + 1)))
            else some (.inr (.inl ()))) (K := some true) (fun i => (a.Peers.l.map norP)[i]? = (b.Peers.l.map norP)[i]?) (by have := hs.1; omega) (fun i hi hp => by
              have hb : i < b.Peers.l.length := by omega
              have hsm := hs.2 _ (List.getElem_mem hi)
              rw [List.getElem?_map, List.getElem?_map, List.getElem?_eq_getElem hi, List.getElem?_eq_getElem hb, Option.map_some, Option.map_some, Option.some.injEq] at hp
              rw [if_pos (by simpa using hi), idx_nat, idx_nat, List.getElem?_eq_getElem hi, List.getElem?_eq_getElem hb, Option.bind_some, Option.bind_some, same_peer _ _ (by omega), Option.bind_some, if_neg (by rw [decide_eq_true hp]; decide)]) (fun i hi hp => by
              have hb : i < b.Peers.l.length := by omega
              have hsm := hs.2 _ (List.getElem_mem hi)
              rw [List.getElem?_map, List.getElem?_map, List.getElem?_eq_getElem hi, List.getElem?_eq_getElem hb, Option.map_some, Option.map_some, Option.some.injEq] at hp
              rw [if_pos (by simpa using hi), idx_nat, idx_nat, List.getElem?_eq_getElem hi, List.getElem?_eq_getElem hb, Option.bind_some, Option.bind_some, same_peer _ _ (by omega), Option.bind_some, if_pos (by rw [decide_eq_false hp]; decide)]; rfl) (by rw [if_neg (by simp)]) with ⟨hq, e⟩ | ⟨hq, e⟩
          · refine Eq.trans ?_ (e.trans (congrArg some (decide_eq_true ?_).symm))
            · rw [h4]
            · unfold norC
              rw [h1, h2, h3, List.ext_getElem? (l₁ := a.Peers.l.map norP) (l₂ := b.Peers.l.map norP) fun i => ?_]
              by_cases hi : i < a.Peers.l.length
              · exact hq i hi
              · rw [List.getElem?_eq_none (by simp; omega), List.getElem?_eq_none (by simp; omega)]
          · refine Eq.trans ?_ (e.trans (congrArg some (decide_eq_false fun h => hq fun i _ => ?_).symm))
            · rw [h4]
            · have : a.Peers.l.map norP = b.Peers.l.map norP := congrArg (fun x => x.2.2.2) h
              rw [this]
        · simp only [h1, h2, h3, decide_true, Bool.not_true, orO, Option.bind_some, Bool.false_eq_true, if_false, decide_eq_false h4, Bool.not_false, if_true]
          rw [decide_eq_false]
          intro h
          have : a.Peers.l.map norP = b.Peers.l.map norP := congrArg (fun x => x.2.2.2) h
          exact h4 (by simpa using congrArg List.length this)
      · rw [decide_eq_false (p := norC a = norC b) fun h => h3 (congrArg (fun x => x.2.2.1) h)]
        simp [h1, h2, h3, orO]
    · rw [decide_eq_false (p := norC a = norC b) fun h => h2 (congrArg (fun x => x.2.1) h)]
      simp [h1, h2, orO]
  · rw [decide_eq_false (p := norC a = norC b) fun h => h1 (congrArg (fun x => x.1) h)]
    simp [h1, orO]
def bareP (x : S_api_Peer) : S_api_Peer := { x with Sent := 0, Got := 0 }
theorem clone_pre (g : GS S_api_Prefix) (hl : g.l.length ≤ 1000) : ∃ g', slices_Clone_api_Prefix g = some g' ∧ g'.l = g.l := by
  cases g with
  | nil => exact ⟨.nil, rfl, rfl⟩
  | mk l =>
    have hl : l.length ≤ 1000 := hl
    refine ⟨.mk ([] ++ l), ?_, rfl⟩
    show ((apG 32 (GS.mk []) l).bind fun x22 => some x22) = _
    unfold apG
    rw [if_pos (by unfold most; simp [GS.l]; omega)]
    rfl
theorem bare_iter {β : Type} (c : S_api_Conf) (hs : smallC c) {F : Int × GS S_api_Peer → Option ((Int × GS S_api_Peer) ⊕ (GS S_api_Peer ⊕ β))}
    (h1 : ∀ (i : Nat) (g : GS S_api_Peer) (x : S_api_Peer), c.Peers.l[i]? = some x → g.l.length ≤ 400 → ∃ y g', norP y = norP (bareP x) ∧ g'.l = g.l ++ [y] ∧ F ((i : Int), g) = some (.inl (IntKind.i64.wrap ((i : Int) + 1), g')))
    (h2 : ∀ g, F ((c.Peers.l.length : Int), g) = some (.inr (.inl g))) : ∃ g, iter F (0, .nil) = some (.inl g) ∧ g.l.map norP = c.Peers.l.map fun x => norP (bareP x) := by
  obtain ⟨r, e, g, rfl, hg⟩ := iter_ind (F := F) (s := ((0, GS.nil) : Int × GS S_api_Peer)) (fun s => c.Peers.l.length - s.1.toNat) (fun s => ∃ n : Nat, s.1 = n ∧ n ≤ c.Peers.l.length ∧ s.2.l.map norP = (c.Peers.l.take n).map fun x => norP (bareP x))
    (fun r => ∃ g, r = .inl g ∧ g.l.map norP = c.Peers.l.map fun x => norP (bareP x)) (fun s hI => by
      obtain ⟨i, g⟩ := s
      obtain ⟨n, hn, h3, h4⟩ := hI
      dsimp only at hn h4
      subst hn
      have hlen : g.l.length = n := by have := congrArg List.length h4; simp at this; omega
      rcases Nat.lt_or_ge n c.Peers.l.length with hlt | hge
      · obtain ⟨y, g', hy, hg', e⟩ := h1 n g _ (List.getElem?_eq_getElem hlt) (by have := hs.1; omega)
        rw [e, show (n : Int) + 1 = ((n + 1 : Nat) : Int) by omega, wrapN (by have := hs.1; omega)]
        refine .inl ⟨_, rfl, ⟨n + 1, rfl, by omega, ?_⟩, by dsimp only; omega⟩
        dsimp only
        rw [hg', List.map_append, h4, List.take_succ_eq_append_getElem hlt, List.map_append]
        simp [hy]
      · obtain rfl : n = c.Peers.l.length := by omega
        refine .inr ⟨_, h2 g, g, rfl, ?_⟩
        rw [List.take_length] at h4
        exact h4) ⟨0, rfl, by omega, by simp [GS.l]⟩
  exact ⟨g, e, hg⟩
theorem view_bare (c : S_api_Conf) (hs : smallC c) : ∃ g, view_Bare c = some { c with Peers := g } ∧ g.l.map norP = c.Peers.l.map fun x => norP (bareP x) := by
  unfold view_Bare
  obtain ⟨g, e, hg⟩ := bare_iter c hs (β := S_api_Conf) (F := fun (s4 : (Int × (GS S_api_Peer))) =>
   if (decide (s4.1 < (c.Peers.l.length : Int))) = true then
   (idx c.Peers.l s4.1).bind fun x7 =>
   (slices_Clone_api_Prefix x7.Allowed).bind fun x12 =>
   let x14 := { { x7 with Sent := (0 : UInt64) } with Got := (0 : UInt64) }
   (apG 144 s4.2 [({ x14 with Allowed := x12 })]).bind fun x18 =>
   some (.inl (IntKind.i64.wrap (s4.1 + 1), x18))
   else
   some (.inr (.inl s4.2))) (fun i g x hx hg => by
      have hi : i < c.Peers.l.length := (List.getElem?_eq_some_iff.1 hx).1
      have hm : x ∈ c.Peers.l := List.mem_of_getElem? hx
      obtain ⟨q, hq, hq'⟩ := clone_pre x.Allowed (by have := hs.2 x hm; omega)
      obtain ⟨g', e1, e2⟩ := apG_n (bytes := 144) (g := g) (x := ({ { { x with Sent := (0 : UInt64) } with Got := (0 : UInt64) } with Allowed := q } : S_api_Peer)) (by unfold most; omega)
      refine ⟨_, g', ?_, e2, ?_⟩
      · unfold norP bareP
        dsimp only
        rw [hq']
      · dsimp only
        rw [if_pos (by simpa using hi), idx_nat, hx, Option.bind_some, hq, Option.bind_some, e1]; rfl) (fun g => by dsimp only; rw [if_neg (by simp)])
  exact ⟨g, by rw [e]; rfl, hg⟩
theorem r34_bare (c : S_api_Conf) (hs : smallC c) : ∃ g, r34_Bare c = some { c with Peers := g } ∧ g.l.map norP = c.Peers.l.map fun x => norP (bareP x) := by
  unfold r34_Bare
  obtain ⟨g, e, hg⟩ := bare_iter c hs (β := S_api_Conf) (F := fun (s5 : (Int × (GS S_api_Peer))) =>
   if (decide (s5.1 < (c.Peers.l.length : Int))) = true then
   (idx c.Peers.l s5.1).bind fun x11 =>
   let x16 := { { x11 with Sent := (0 : UInt64) } with Got := (0 : UInt64) }
   (apG 144 s5.2 [x16]).bind fun x19 =>
   some (.inl (IntKind.i64.wrap (s5.1 + 1), x19))
   else
   some (.inr (.inl s5.2))) (fun i g x hx hg => by
      have hi : i < c.Peers.l.length := (List.getElem?_eq_some_iff.1 hx).1
      obtain ⟨g', e1, e2⟩ := apG_n (bytes := 144) (g := g) (x := ({ { x with Sent := (0 : UInt64) } with Got := (0 : UInt64) } : S_api_Peer)) (by unfold most; omega)
      refine ⟨_, g', rfl, e2, ?_⟩
      dsimp only
      rw [if_pos (by simpa using hi), idx_nat, hx, Option.bind_some, e1]; rfl) (fun g => by dsimp only; rw [if_neg (by simp)])
  exact ⟨g, by rw [e]; rfl, hg⟩
def seeN (x : Ar UInt8 32 × Ar UInt8 32 × S_api_Endpoint × Int × UInt64 × UInt64 × List S_api_Prefix) : Ar UInt8 32 × Int × S_api_Endpoint × List S_api_Prefix := (x.1, x.2.2.2.1, x.2.2.1, x.2.2.2.2.2.2)
def seeP (p : S_api_Peer) : Ar UInt8 32 × Int × S_api_Endpoint × List S_api_Prefix := (p.Key, p.Keep, p.End, p.Allowed.l)
theorem confOk_of {a b : S_api_Conf} (hp : a.Port = b.Port) (h : a.Peers.l.map seeP = b.Peers.l.map seeP) (ha : confOk a) : confOk b := by
  have hk : a.Peers.l.map (·.Key) = b.Peers.l.map (·.Key) := by
    have := congrArg (List.map (·.1)) h
    simpa [List.map_map, Function.comp_def, seeP] using this
  have hq : preOf a.Peers.l = preOf b.Peers.l := by
    have := congrArg (List.flatMap (·.2.2.2)) h
    simpa [List.flatMap_map, seeP, preOf] using this
  have hl : a.Peers.l.length = b.Peers.l.length := by simpa using congrArg List.length h
  obtain ⟨h1, h2, ⟨h3, h4, h5⟩, h6⟩ := ha
  refine ⟨hp ▸ h1, hl ▸ h2, ⟨fun p hm => ?_, ?_, hq ▸ h5⟩, hq ▸ h6⟩
  · have hm' : seeP p ∈ a.Peers.l.map seeP := by rw [h]; exact List.mem_map.2 ⟨p, hm, rfl⟩
    obtain ⟨q, hqm, e⟩ := List.mem_map.1 hm'
    have := h3 q hqm
    have e1 : q.Keep = p.Keep := congrArg (fun x => x.2.1) e
    have e2 : q.End = p.End := congrArg (fun x => x.2.2.1) e
    have e3 : q.Allowed.l = p.Allowed.l := congrArg (fun x => x.2.2.2) e
    exact ⟨e1 ▸ this.1, e2 ▸ this.2.1, e3 ▸ this.2.2⟩
  · unfold keysOf at h4 ⊢
    rw [← hk]; exact h4
theorem seen_of {l : List S_api_Peer} {m : List S_api_Peer} (h : l.map norP = m.map fun x => norP (bareP x)) : l.map seeP = m.map seeP := by
  have := congrArg (List.map seeN) h
  rw [List.map_map, List.map_map] at this
  exact this
open Classical in
theorem plain_ViewRight (c : S_api_Conf) : l34_ViewRight c = some true := by
  unfold l34_ViewRight
  obtain ⟨lc, ec, hc⟩ := largeC_val c
  rw [ec]
  cases lc with
  | true => rfl
  | false =>
    have hs := hc rfl
    obtain ⟨g, e1, h1⟩ := view_bare c hs
    obtain ⟨g', e2, h2⟩ := r34_bare c hs
    have hlen : g.l.length = c.Peers.l.length := by simpa using congrArg List.length h1
    have hsg : smallC { c with Peers := g } := by
      refine ⟨by show g.l.length ≤ 400; rw [hlen]; exact hs.1, fun p hp => ?_⟩
      have hm : norP p ∈ c.Peers.l.map fun x => norP (bareP x) := by rw [← h1]; exact List.mem_map.2 ⟨p, hp, rfl⟩
      obtain ⟨q, hq, e⟩ := List.mem_map.1 hm
      have e3 : q.Allowed.l = p.Allowed.l := congrArg (fun x => x.2.2.2.2.2.2) e
      rw [← e3]; exact hs.2 q hq
    have hok : confOk { c with Peers := g } ↔ confOk c := ⟨confOk_of rfl (seen_of h1), confOk_of rfl (seen_of h1).symm⟩
    have hn : norC { c with Peers := g } = norC { c with Peers := g' } := by
      unfold norC
      dsimp only
      rw [h1, h2]
    rw [e1, e2, view_right c hs, r34_right c hs]
    simp only [Option.bind_some, view_right _ hsg, same_conf _ _ hsg, hn, hok, decide_true, Bool.false_eq_true, if_false, andO, if_true, l34_alive]
end Go.Proofs.YtoegmdfkcaojlaaGreat.Am

