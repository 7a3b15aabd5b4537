/-
  Typed data as cells: rows of bytes, slices; what is read of cells, and written.
-/
import Derived.Test.YtggdinpopddhnaaAmC
namespace Go.Proofs.Ytggdinpopddhnaa.Am

def look {α : Type} (n : Nat) : List (Nat × α) → Option α
  | [] => none
  | (k, v) :: r => if Nat.beq n k then some v else look n r

/-! Cells that are read and written. -/
section
variable {a b c : List AV} {off n : Nat}
theorem sub_left (h : off + n ≤ a.length) : sub (a ++ b) off n = sub a off n := by
  simp only [sub]
  rw [List.drop_append, List.take_append_of_le_length (by simp only [List.length_drop]; omega)]
theorem sub_right (h : a.length ≤ off) : sub (a ++ b) off n = sub b (off - a.length) n := by
  simp only [sub]
  rw [List.drop_append, List.drop_of_length_le h, List.nil_append]
theorem sub_r {k o : Nat} (h : a.length = k) (e : off = k + o) : sub (a ++ b) off n = sub b o n := by rw [sub_right (by omega)]; congr 1; omega
theorem sub_all (h : a.length = n) : sub a 0 n = a := by simp [sub, ← h]
theorem sub_first (h : a.length = n) : sub (a ++ b) 0 n = a := by rw [sub_left (by omega), sub_all h]
theorem splice_left (h : off + c.length ≤ a.length) : splice (a ++ b) off c = splice a off c ++ b := by
  simp only [splice]
  rw [List.take_append_of_le_length (by omega), List.drop_append_of_le_length (by omega)]
  simp
theorem splice_right (h : a.length ≤ off) : splice (a ++ b) off c = a ++ splice b (off - a.length) c := by
  simp only [splice]
  rw [List.take_append, List.take_of_length_le h, List.drop_append, List.drop_of_length_le (by omega)]
  simp only [List.nil_append, List.append_assoc]
  congr 4
  omega
theorem splice_r {k o : Nat} (h : a.length = k) (e : off = k + o) : splice (a ++ b) off c = a ++ splice b o c := by rw [splice_right (by omega)]; congr 2; omega
theorem splice_all (h : a.length = c.length) : splice a 0 c = c := by simp [splice, ← h]
theorem splice_first (h : a.length = c.length) : splice (a ++ b) 0 c = c ++ b := by rw [splice_left (by omega), splice_all h]
theorem sub_sub {m k : Nat} (h : m + k ≤ n) : sub (sub a off n) m k = sub a (off + m) k := by
  simp only [sub]
  rw [List.drop_take, List.take_take, List.drop_drop, Nat.min_eq_left (by omega)]
end

/-! Bytes. -/
@[go_sem] theorem u8_inj {x y : UInt8} : ((x.toNat : Int) = (y.toNat : Int)) = (x = y) := by
  rw [← UInt8.toNat_inj]; exact propext (by omega)
@[go_sem] theorem u8_zero {x : UInt8} : ((x.toNat : Int) = 0) = (x = 0) := by
  have := @u8_inj x 0
  simpa using this
/-! Bytes in a row. -/
def Bs (n : Nat) : Type := { l : List UInt8 // l.length = n }
instance {n : Nat} : DecidableEq (Bs n) := inferInstanceAs (DecidableEq { l : List UInt8 // l.length = n })
namespace Bs
variable {n : Nat}
def c (b : Bs n) : List AV := b.1.map fun x => .i .u8 x.toNat
def z (n : Nat) : Bs n := ⟨List.replicate n 0, List.length_replicate⟩
def g (b : Bs n) (i : Nat) : UInt8 := b.1.getD i 0
def put (b : Bs n) (i : Nat) (v : UInt8) : Bs n := ⟨b.1.set i v, by rw [List.length_set]; exact b.2⟩
theorem ext {a b : Bs n} (h : a.1 = b.1) : a = b := Subtype.ext h
@[simp, go_sem] theorem c_len {b : Bs n} : b.c.length = n := by simp [c, b.2]
@[go_sem] theorem c_inj {a b : Bs n} : (a.c = b.c) = (a = b) := by
  refine propext ⟨fun h => ext ?_, fun h => by rw [h]⟩
  have : ∀ l m : List UInt8, (l.map fun x : UInt8 => AV.i .u8 x.toNat) = (m.map fun x : UInt8 => AV.i .u8 x.toNat) → l = m := by
    intro l
    induction l with
    | nil => intro m h; cases m <;> simp_all
    | cons x l ih =>
      intro m h
      cases m with
      | nil => simp at h
      | cons y m =>
        simp only [List.map_cons, List.cons.injEq, AV.i.injEq, true_and] at h
        have h1 := h.1
        have e : x = y := UInt8.toNat_inj.1 (by omega)
        rw [ih m h.2, e]
  exact this _ _ h
@[go_sem] theorem mentL_c {b : Bs n} : mentL b.c = 0 := by
  unfold c
  generalize b.1 = l
  induction l with
  | nil => rfl
  | cons x l ih => simp [mentL, ment, ih]
@[go_sem] theorem mvL_c {b : Bs n} {m L : Nat} : mvL m L b.c = some b.c := mvL_of (by rw [mentL_c]; omega)
@[go_sem] theorem frzL_c {b : Bs n} {h : Heap} {m : Nat} : frzL h m b.c = some b.c := frzL_ok (by rw [mentL_c]; omega)
@[go_sem] theorem sub_c {b : Bs n} : sub b.c 0 n = b.c := sub_all c_len
theorem g_eq {b : Bs n} {i : Nat} (h : i < n) : b.1[i]? = some (b.g i) := by
  have := b.2
  simp [g, List.getD, h, this]
@[go_sem] theorem sub_1 {b : Bs n} {i : Nat} (h : i < n) : sub b.c i 1 = [.i .u8 (b.g i).toNat] := by
  have := b.2
  simp only [sub, c]
  rw [List.drop_eq_getElem_cons (by simp; omega)]
  simp [g, List.getD, h, this]
@[go_sem] theorem splice_1 {b : Bs n} {i : Nat} {v : UInt8} (h : i < n) : splice b.c i [.i .u8 v.toNat] = (b.put i v).c := by
  have := b.2
  simp only [splice, c, put, ← List.map_take, ← List.map_drop]
  rw [List.set_eq_take_append_cons_drop, if_pos (by omega)]
  simp
@[go_sem] theorem splice_c {b d : Bs n} : splice b.c 0 d.c = d.c := splice_all (by rw [c_len, c_len])
@[go_sem] theorem z_c : List.replicate n (.i .u8 0) = (z n).c := by simp [z, c]
theorem eqS_c : ∀ {a b : List UInt8}, a.length = b.length → eqS (List.replicate a.length (.i .u8)) (a.map fun x => .i .u8 x.toNat) (b.map fun x => .i .u8 x.toNat) = some (decide (a = b))
  | [], [], _ => rfl
  | [], _ :: _, h => by simp at h
  | _ :: _, [], h => by simp at h
  | x :: a, y :: b, h => by
    simp only [List.length_cons, List.replicate_succ, List.map_cons, eqS, eq1]
    rw [eqS_c (by simpa using h)]
    simp only [and_self, if_true, Option.bind_some, Option.map_some, List.cons.injEq, Option.some.injEq]
    have : ((x.toNat : Int) == (y.toNat : Int)) = decide (x = y) := by
      rw [Bool.eq_iff_iff]
      simp only [beq_iff_eq, decide_eq_true_eq, ← UInt8.toNat_inj]
      omega
    rw [this, Bool.eq_iff_iff]
    simp
/-- some of them -/
def sub (b : Bs n) (i m : Nat) : Bs m := ⟨(List.range m).map fun k => b.g (i + k), by simp⟩
/-- some of them, written -/
def putL (b : Bs n) (i : Nat) (l : List UInt8) : Bs n := ⟨(b.1.take i ++ l ++ b.1.drop (i + l.length)).take n ++ List.replicate (n - (b.1.take i ++ l ++ b.1.drop (i + l.length)).length) 0, by simp only [List.length_append, List.length_take, List.length_replicate]; omega⟩
theorem ext_g {a b : Bs n} (h : ∀ i, i < n → a.g i = b.g i) : a = b := by
  apply ext
  apply List.ext_getElem?
  intro i
  by_cases hi : i < n
  · rw [g_eq hi, g_eq hi, h i hi]
  · have h1 := a.2; have h2 := b.2
    rw [List.getElem?_eq_none (by omega), List.getElem?_eq_none (by omega)]
theorem g_mk {l : List UInt8} {h : l.length = n} {i : Nat} : g (⟨l, h⟩ : Bs n) i = l.getD i 0 := rfl
@[go_sem] theorem g_z {i : Nat} : (z n).g i = 0 := by
  simp only [z, g, List.getD, List.getElem?_replicate]
  split <;> rfl
theorem g_sub {b : Bs n} {i m k : Nat} (h : k < m) : (b.sub i m).g k = b.g (i + k) := by simp [sub, g, List.getD, h]
theorem g_put {b : Bs n} {i k : Nat} {v : UInt8} : (b.put i v).g k = if i = k ∧ k < n then v else b.g k := by
  have := b.2
  simp only [put, g, List.getD, List.getElem?_set]
  by_cases h : i = k
  · subst h
    by_cases hi : i < n
    · simp [hi, this]
    · simp [hi, this, List.getElem?_eq_none (show b.1.length ≤ i by omega)]
  · simp [h]
theorem putL_1 {b : Bs n} {i : Nat} {l : List UInt8} (h : i + l.length ≤ n) : (b.putL i l).1 = b.1.take i ++ l ++ b.1.drop (i + l.length) := by
  have := b.2
  have hl : (b.1.take i ++ l ++ b.1.drop (i + l.length)).length = n := by simp only [List.length_append, List.length_take, List.length_drop]; omega
  simp only [putL]
  rw [List.take_of_length_le (by omega), hl]
  simp
theorem g_putL {b : Bs n} {i k : Nat} {l : List UInt8} (h : i + l.length ≤ n) : (b.putL i l).g k = if i ≤ k ∧ k < i + l.length then l.getD (k - i) 0 else b.g k := by
  have := b.2
  simp only [g, putL_1 h, List.getD]
  by_cases h1 : k < i
  · rw [if_neg (by omega), List.append_assoc, List.getElem?_append_left (by simp; omega), List.getElem?_take, if_pos h1]
  · rw [List.append_assoc, List.getElem?_append_right (by simp; omega)]
    simp only [List.length_take, show min i b.1.length = i by omega]
    by_cases h2 : k < i + l.length
    · rw [if_pos (by omega), List.getElem?_append_left (by omega)]
    · rw [if_neg (by omega), List.getElem?_append_right (by omega), List.getElem?_drop]
      congr 2; omega
@[go_sem] theorem sub_self {b : Bs n} : b.sub 0 n = b := ext_g fun i hi => by rw [g_sub hi, Nat.zero_add]
/-- cells of bytes -/
def bc (l : List UInt8) : List AV := l.map fun x => .i .u8 x.toNat
theorem bc_c {b : Bs n} : bc b.1 = b.c := rfl
@[go_sem] theorem bc_len {l : List UInt8} : (bc l).length = l.length := by simp [bc]
@[go_sem] theorem len_1 {b : Bs n} : b.1.length = n := b.2
theorem sub_m {b : Bs n} {i m : Nat} (h : i + m ≤ n) : Am.sub b.c i m = (b.sub i m).c := by
  have := b.2
  simp only [Am.sub, c, sub, ← List.map_drop, ← List.map_take]
  congr 1
  apply List.ext_getElem?
  intro k
  simp only [List.getElem?_take, List.getElem?_drop, List.getElem?_map]
  by_cases hk : k < m
  · rw [if_pos hk, g_eq (by omega)]; simp [hk]
  · rw [if_neg hk]; simp [hk]
theorem splice_l {b : Bs n} {i : Nat} {l : List UInt8} (h : i + l.length ≤ n) : splice b.c i (bc l) = (b.putL i l).c := by
  simp only [splice, bc, c, putL_1 h, List.map_append, List.map_take, List.map_drop, List.length_map]
@[go_sem] theorem sub_m' {b : Bs n} {i m : Nat} (h1 : 2 ≤ m) (h2 : i + m ≤ n) (h3 : m < n) : Am.sub b.c i m = (b.sub i m).c := sub_m h2
@[go_sem] theorem splice_l' {b : Bs n} {i : Nat} {l : List UInt8} (h : i + l.length ≤ n) : splice b.c i (bc l) = (b.putL i l).c := splice_l h
end Bs
def els1 (cs : List AV) : List (List AV) := cs.map fun v => [v]
@[go_sem] theorem sub_drop {cs : List AV} {off n : Nat} : sub (cs.drop off) 0 n = sub cs off n := by simp [sub]
theorem chunks_one' : ∀ (n : Nat) (cs : List AV), n ≤ cs.length → chunks 1 n cs = els1 (cs.take n)
  | 0, cs, _ => by simp [chunks, els1]
  | n + 1, [], h => by simp at h
  | n + 1, v :: cs, h => by
    simp only [chunks, List.take_succ_cons, List.take_zero, List.drop_succ_cons, List.drop_zero, els1, List.map_cons]
    rw [chunks_one' n cs (by simpa using h)]
    rfl
@[go_sem] theorem chunks_one {n : Nat} {cs : List AV} (h : n ≤ cs.length) : chunks 1 n cs = els1 (sub cs 0 n) := by rw [chunks_one' n cs h]; simp [sub]
@[go_sem] theorem els1_c {n : Nat} {b : Bs n} : els1 b.c = byteEls b.1 := by simp [els1, Bs.c, byteEls]
theorem byteEls_take {l : List UInt8} {m : Nat} : ((byteEls l).take m).flatten = Bs.bc (l.take m) := by
  simp only [byteEls, Bs.bc, ← List.map_take]
  induction l.take m with
  | nil => rfl
  | cons x l ih => simp [ih]
@[go_sem] theorem byteEls_len {l : List UInt8} : (byteEls l).length = l.length := by simp [byteEls]
@[go_sem] theorem copy_bytes {h : Heap} {id off len : Nat} {l : List UInt8} : copyTo h 1 (.ocel 1 id off len) (byteEls l) = (cellsAt h id).bind fun cs =>
    if off + len ≤ cs.length then some (.i .i64 (min l.length len : Nat), some (h.set id (.cells (splice cs off (Bs.bc (l.take (min l.length len))))))) else none := by
  simp only [copyTo, byteEls_len, byteEls_take, Nat.mul_one, true_and, splice, Bs.bc_len, List.length_take]
  cases cellsAt h id with
  | none => rfl
  | some cs =>
    simp only [Option.bind_some]
    rw [Nat.min_eq_left (Nat.min_le_left _ _)]
@[go_sem] theorem copy_nils {h : Heap} {sz : Nat} {src : List (List AV)} : copyTo h sz .nils src = some (.i .i64 0, none) := rfl
@[go_sem] theorem arrOf_ocel {n sz sz' id off len : Nat} : arrOf n sz (.ocel sz' id off len) = if sz' = sz ∧ n ≤ len then some (.ptr id off) else none := rfl
@[go_sem] theorem arrOf_sl {n sz sz' : Nat} {els : List (List AV)} : arrOf n sz (.sl sz' els) = if sz' = sz ∧ n ≤ els.length then some (.ip (els.take n).flatten 0) else none := rfl

theorem eqS_len : ∀ {l : List CK} {x y : List AV} {b : Bool}, eqS l x y = some b → x.length = l.length ∧ y.length = l.length
  | [], [], [], _, _ => ⟨rfl, rfl⟩
  | [], [], _ :: _, _, h => by simp [eqS] at h
  | [], _ :: _, _, _, h => by simp [eqS] at h
  | _ :: _, [], _, _, h => by simp [eqS] at h
  | _ :: _, _ :: _, [], _, h => by simp [eqS] at h
  | _ :: l, _ :: x, _ :: y, _, h => by
    simp only [eqS] at h
    obtain ⟨a, _, h⟩ := Option.bind_eq_some_iff.1 h
    obtain ⟨b, hb, _⟩ := Option.map_eq_some_iff.1 h
    have := eqS_len hb
    simp [this.1, this.2]
theorem eqS_app : ∀ {l m : List CK} {x y u v : List AV} {p q : Bool}, eqS l x y = some p → eqS m u v = some q → eqS (l ++ m) (x ++ u) (y ++ v) = some (p && q)
  | [], m, [], [], u, v, p, q, h1, h2 => by
    simp only [eqS, Option.some.injEq] at h1; subst h1; simpa using h2
  | [], _, [], _ :: _, _, _, _, _, h1, _ => by simp [eqS] at h1
  | [], _, _ :: _, _, _, _, _, _, h1, _ => by simp [eqS] at h1
  | _ :: _, _, [], _, _, _, _, _, h1, _ => by simp [eqS] at h1
  | _ :: _, _, _ :: _, [], _, _, _, _, h1, _ => by simp [eqS] at h1
  | k :: l, m, a :: x, b :: y, u, v, p, q, h1, h2 => by
    simp only [eqS] at h1
    obtain ⟨c, hc, h1⟩ := Option.bind_eq_some_iff.1 h1
    obtain ⟨d, hd, rfl⟩ := Option.map_eq_some_iff.1 h1
    simp only [List.cons_append, eqS, hc, Option.bind_some]
    rw [eqS_app hd h2]
    simp [Bool.and_assoc]
/-- cells that are compared -/
def EqC {α : Type} [DecidableEq α] (l : List CK) (c : α → List AV) : Prop := ∀ x y : α, eqS l (c x) (c y) = some (decide (x = y))
theorem Bs.eqC {n : Nat} : EqC (List.replicate n (.i .u8)) (Bs.c (n := n)) := by
  intro x y
  have h := Bs.eqS_c (x.2.trans y.2.symm)
  rw [x.2] at h
  unfold Bs.c
  rw [h]
  congr 1
  rw [Bool.eq_iff_iff]
  simp only [decide_eq_true_eq]
  exact ⟨Bs.ext, fun e => by rw [e]⟩
@[go_sem] theorem eqK_bs {n : Nat} {x y : Bs n} : eqK (.agg (kk [(n, .i .u8)])) (.agg x.c) (.agg y.c) = some (decide (x = y)) := by
  simp only [eqK, kk, List.append_nil]
  exact Bs.eqC x y
theorem eqC_b : EqC [.b] (fun x : Bool => [AV.b x]) := by
  intro x y; cases x <;> cases y <;> rfl
theorem eqC_i {k : IntKind} : EqC [.i k] (fun x : Int => [AV.i k x]) := by
  intro x y
  simp only [eqS, eq1, and_self, if_true, Option.bind_some, Option.map_some, Bool.and_true]
  congr 1
theorem eqC_s : EqC [.s] (fun x : List UInt8 => [AV.s x]) := by
  intro x y
  simp only [eqS, eq1, Option.bind_some, Option.map_some, Bool.and_true, Option.some.injEq]
  rw [Bool.eq_iff_iff]
  simp

/-! Slices. -/
inductive GS (α : Type) where
  | nil
  | mk (l : List α)
  deriving DecidableEq, Inhabited
namespace GS
variable {α β : Type}
def l : GS α → List α
  | nil => []
  | mk l => l
/-- what append makes of nothing -/
def of (l : List α) : GS α := match l with
  | [] => nil
  | x :: r => mk (x :: r)
@[simp, go_sem] theorem l_of (l : List α) : (of l).l = l := by cases l <;> rfl
@[simp, go_sem] theorem l_nil : (nil : GS α).l = [] := rfl
@[simp, go_sem] theorem l_mk (l : List α) : (mk l).l = l := rfl
theorem of_nil : of ([] : List α) = nil := rfl
theorem of_ne {l : List α} (h : l ≠ []) : of l = mk l := by cases l <;> simp_all [of]
end GS
section
variable {α : Type} {sz : Nat} {c : α → List AV}
def slv (sz : Nat) (c : α → List AV) : GS α → AV
  | .nil => .nils
  | .mk l => .sl sz (l.map c)
@[go_sem] theorem slv_nil : slv sz c .nil = .nils := rfl
@[go_sem] theorem slv_mk {l : List α} : slv sz c (.mk l) = .sl sz (l.map c) := rfl
@[go_sem] theorem slv_len {g : GS α} : len? (slv sz c g) = some g.l.length := by cases g <;> simp [slv, len?]
@[go_sem] theorem slv_els {g : GS α} {h : Heap} : els? h sz (slv sz c g) = some (g.l.map c) := by cases g <;> simp [slv, els?]
@[go_sem] theorem slv_news {g : GS α} {h : Heap} : news h sz (slv sz c g) = some (g.l.map c) := by cases g <;> simp [slv, news, els?]
theorem slv_Sl {g : GS α} : Sl sz (slv sz c g) (g.l.map c) := by cases g <;> constructor
@[go_sem] theorem slv_cells {g : GS α} : cellsOf (slv sz c g) = [slv sz c g] := by cases g <;> rfl
theorem slv_ia {g : GS α} {h : Heap} {i : Nat} (hi : i < g.l.length) : iaddr h sz (slv sz c g) i = some (.ip (c g.l[i]) 0) := by
  rw [slv_Sl.ia (by simpa using hi)]; simp
@[go_sem] theorem slv_isnil {g : GS α} : eqK .sl (slv sz c g) .nils = some (match g with | .nil => true | .mk _ => false) := by cases g <;> rfl
theorem mentLL_map (hc : ∀ x, mentL (c x) = 0) : ∀ (l : List α), mentLL (l.map c) = 0
  | [] => rfl
  | x :: l => by simp [mentLL, hc, mentLL_map hc l]
theorem slv_ment (hc : ∀ x, mentL (c x) = 0) {g : GS α} : ment (slv sz c g) = 0 := by cases g <;> simp [slv, ment, mentLL_map hc]
theorem slv_mv (hc : ∀ x, mentL (c x) = 0) {g : GS α} {n L : Nat} : mv n L (slv sz c g) = some (slv sz c g) := mv_of (by rw [slv_ment hc]; omega)
theorem slv_frz (hc : ∀ x, mentL (c x) = 0) {g : GS α} {n : Nat} {h : Heap} : frz h n (slv sz c g) = some (slv sz c g) := frz_ok (by rw [slv_ment hc]; omega)

/-! A slice that grows, from nothing: its value, its memory. -/
def acc (id : Nat) : List (List AV) → AV
  | [] => .nils
  | _ :: r => .orow id (r.length + 1) 0 (r.length + 1)
def accL (sz : Nat) : List (List AV) → Heap
  | [] => []
  | x :: r => [.row false sz (x :: r)]
@[go_sem] theorem acc_nil {id : Nat} : acc id [] = .nils := rfl
@[go_sem] theorem acc_cons {id : Nat} {x : List AV} {r : List (List AV)} : acc id (x :: r) = .orow id (r.length + 1) 0 (r.length + 1) := rfl
@[go_sem] theorem accL_nil : accL sz [] = [] := rfl
@[go_sem] theorem gs_of_nil {α : Type} : GS.of ([] : List α) = .nil := rfl
@[go_sem] theorem gs_of_cons {α : Type} {x : α} {l : List α} : GS.of (x :: l) = .mk (x :: l) := rfl
@[go_sem] theorem accL_cons {x : List AV} {r : List (List AV)} : accL sz (x :: r) = [.row false sz (x :: r)] := rfl
def accV (sz : Nat) : List (List AV) → AV
  | [] => .nils
  | x :: r => .sl sz (x :: r)
@[go_sem] theorem accV_nil : accV sz [] = .nils := rfl
@[go_sem] theorem accV_cons {x : List AV} {r : List (List AV)} : accV sz (x :: r) = .sl sz (x :: r) := rfl
theorem slv_of {l : List α} : slv sz c (GS.of l) = accV sz (l.map c) := by cases l <;> rfl
@[go_sem] theorem accV_map {l : List α} : accV sz (l.map c) = slv sz c (GS.of l) := slv_of.symm
@[go_sem] theorem acc_len {id : Nat} {els : List (List AV)} : len? (acc id els) = some els.length := by cases els <;> rfl
@[go_sem] theorem acc_cells {id : Nat} {els : List (List AV)} : cellsOf (acc id els) = [acc id els] := by cases els <;> rfl
@[go_sem] theorem acc_frz {h : Heap} {els : List (List AV)} (hm : mentLL els ≤ h.length) : frz (h ++ accL sz els) h.length (acc h.length els) = some (accV sz els) := by
  cases els with
  | nil => simp [acc, accV, frz, ment]
  | cons x r =>
    simp only [acc, accL, accV, frz_orow, if_neg (Nat.lt_irrefl _), rowAt_app0, rowAt_zero, Option.bind_some, List.length_cons]
    rw [if_pos ⟨trivial, by omega, hm⟩]
    simp
theorem acc_frz' {H : Heap} {n id : Nat} {els : List (List AV)} (hH : H[id]? = (accL sz els)[0]?) (hn : n ≤ id) (hm : mentLL els ≤ n) : frz H n (acc id els) = some (accV sz els) := by
  cases els with
  | nil => simp [acc, accV, frz, ment]
  | cons x r =>
    have hr : rowAt H id = some (false, sz, x :: r) := by simp only [rowAt, hH, accL, List.getElem?_cons_zero]
    simp only [acc, accV, frz_orow, if_neg (show ¬ id < n by omega), hr, Option.bind_some, List.length_cons]
    rw [if_pos ⟨trivial, by omega, hm⟩]
    simp
@[go_sem] theorem acc_frz1 {h : Heap} {els : List (List AV)} {a : AObj} (hm : mentLL els ≤ h.length) : frz (h ++ (a :: accL sz els)) h.length (acc (h.length + 1) els) = some (accV sz els) := acc_frz' (by rw [at_add]; rfl) (by omega) hm
@[go_sem] theorem acc_frz2 {h : Heap} {els : List (List AV)} {a b : AObj} (hm : mentLL els ≤ h.length) : frz (h ++ (a :: b :: accL sz els)) h.length (acc (h.length + 2) els) = some (accV sz els) := acc_frz' (by rw [at_add]; rfl) (by omega) hm
@[go_sem] theorem acc_frz3 {h : Heap} {els : List (List AV)} {a b c : AObj} (hm : mentLL els ≤ h.length) : frz (h ++ (a :: b :: c :: accL sz els)) h.length (acc (h.length + 3) els) = some (accV sz els) := acc_frz' (by rw [at_add]; rfl) (by omega) hm
@[go_sem] theorem acc_frz4 {h : Heap} {els : List (List AV)} {a b c d : AObj} (hm : mentLL els ≤ h.length) : frz (h ++ (a :: b :: c :: d :: accL sz els)) h.length (acc (h.length + 4) els) = some (accV sz els) := acc_frz' (by rw [at_add]; rfl) (by omega) hm
@[go_sem] theorem acc_frz5 {h : Heap} {els : List (List AV)} {a b c d e : AObj} (hm : mentLL els ≤ h.length) : frz (h ++ (a :: b :: c :: d :: e :: accL sz els)) h.length (acc (h.length + 5) els) = some (accV sz els) := acc_frz' (by rw [at_add]; rfl) (by omega) hm
@[go_sem] theorem acc_frz6 {h : Heap} {els : List (List AV)} {a b c d e f : AObj} (hm : mentLL els ≤ h.length) : frz (h ++ (a :: b :: c :: d :: e :: f :: accL sz els)) h.length (acc (h.length + 6) els) = some (accV sz els) := acc_frz' (by rw [at_add]; rfl) (by omega) hm
@[go_sem] theorem acc_frz7 {h : Heap} {els : List (List AV)} {a b c d e f g : AObj} (hm : mentLL els ≤ h.length) : frz (h ++ (a :: b :: c :: d :: e :: f :: g :: accL sz els)) h.length (acc (h.length + 7) els) = some (accV sz els) := acc_frz' (by rw [at_add]; rfl) (by omega) hm
@[go_sem] theorem accV_len {els : List (List AV)} : len? (accV sz els) = some els.length := by cases els <;> rfl
@[go_sem] theorem accV_els {h : Heap} {els : List (List AV)} : els? h sz (accV sz els) = some els := by cases els <;> simp [accV, els?]
end

end Go.Proofs.Ytggdinpopddhnaa.Am
