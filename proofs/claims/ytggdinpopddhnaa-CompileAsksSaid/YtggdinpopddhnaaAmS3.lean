/-
  What the functions come to: masks, prefixes.
-/
import Derived.Test.YtggdinpopddhnaaAmS2
set_option linter.unusedSimpArgs false
set_option linter.unusedVariables false
set_option maxRecDepth 100000
namespace Go.Proofs.Ytggdinpopddhnaa.Am

/-- a byte's first n bits alone -/
def mb (b : UInt8) (n : Nat) : UInt8 := b &&& UInt8.ofNat (256 - 2 ^ (8 - n))
def Bs.mask {n : Nat} (b : Bs n) (k : Nat) : Bs n := ⟨(List.range n).map fun j => mb (b.g j) (min 8 (k - 8 * j)), by simp⟩
def Bs.maskTo {n : Nat} (b : Bs n) (k i : Nat) : Bs n := ⟨(List.range n).map fun j => if j < i then mb (b.g j) (min 8 (k - 8 * j)) else b.g j, by simp⟩
theorem Bs.g_mask {n : Nat} {b : Bs n} {k j : Nat} (h : j < n) : (b.mask k).g j = mb (b.g j) (min 8 (k - 8 * j)) := by simp [mask, g, List.getD, h]
theorem Bs.g_maskTo {n : Nat} {b : Bs n} {k i j : Nat} (h : j < n) : (b.maskTo k i).g j = if j < i then mb (b.g j) (min 8 (k - 8 * j)) else b.g j := by simp [maskTo, g, List.getD, h]
theorem Bs.maskTo_zero {n : Nat} {b : Bs n} {k : Nat} : b.maskTo k 0 = b := Bs.ext_g fun i hi => by rw [g_maskTo hi, if_neg (by omega)]
theorem Bs.maskTo_all {n : Nat} {b : Bs n} {k : Nat} : b.maskTo k n = b.mask k := Bs.ext_g fun i hi => by rw [g_maskTo hi, g_mask hi, if_pos hi]
theorem Bs.maskTo_succ {n : Nat} {b : Bs n} {k i : Nat} (h : i < n) : b.maskTo k (i + 1) = (b.maskTo k i).put i (mb (b.g i) (min 8 (k - 8 * i))) := Bs.ext_g fun j hj => by
  rw [g_maskTo hj, g_put, g_maskTo hj]
  by_cases e : i = j
  · subst e; rw [if_pos (by omega), if_pos ⟨rfl, hj⟩]
  · rw [if_neg (c := i = j ∧ j < n) (fun x => e x.1)]
    by_cases hl : j < i
    · rw [if_pos (by omega), if_pos hl]
    · rw [if_neg (by omega), if_neg hl]
theorem and_mask : ∀ (b : UInt8) (n : Fin 9), bitsI .and .u8 b.toNat (IntKind.u8.wrap (255 * 2 ^ (8 - n.1))) = (mb b n.1).toNat := by
  intro b n
  have h : ∀ (x : Fin 256) (n : Fin 9), bitsI .and .u8 (UInt8.ofNat x.1).toNat (IntKind.u8.wrap (255 * 2 ^ (8 - n.1))) = (mb (UInt8.ofNat x.1) n.1).toNat := by decide +kernel
  have := h ⟨b.toNat, b.toNat_lt⟩ n
  simpa using this
def TAddr.mask (a : TAddr) (bits : Int) : TAddr := if a.ok then ⟨a.V, a.B.mask bits.toNat⟩ else TAddr.z

theorem addr_Mask_s {h : Heap} (hw : WF h) {a : TAddr} {bits : Int} (h0 : 0 ≤ bits) (h1 : bits ≤ 128) : calling tb (den tb) h fn_addr_Mask [.agg a.c, .i .i64 bits] = some (.agg (a.mask bits).c, some h) := by
  rw [go_fn f_addr_Mask]
  unfold TAddr.mask
  cases hok : a.ok
  · simp -implicitDefEqProofs (maxSteps := 4000000) (disch := first | omega | (simp only [go_sem, WF, List.length_take] <;> omega) | fail) only [go_sem, ↓reduceIte, Nat.reduceEqDiff, Nat.reduceAdd, Nat.reduceSub, Nat.reduceMul, Nat.reduceLeDiff, Nat.reduceLT, reduceCtorEq, Int.reduceEq, Int.reduceLT, Int.reduceLE, Int.reduceAdd, Int.reduceSub, Int.reduceMul, Int.reduceNeg, Int.reduceToNat, c_addr_Mask, hok]
  · let S : Nat → Fr × Heap := fun i => ([(1, .i .i64 bits), (2, .ptr h.length 0), (4, .ptr (h.length + 1) 0), (11, .i .i64 (i : Nat))], h ++ [.cells (TAddr.c ⟨a.V, a.B.maskTo bits.toNat i⟩), .cells TAddr.z.c])
    have loop := lp_for (F := round [1, 2, 4, 11] (exec tb (den tb) c_addr_Mask_l0)) S 16
      (by
        intro i hi
        have hw0 : IntKind.i64.wrap (8 * (i : Int)) = 8 * (i : Int) := wrap64 (by omega) (by omega)
        have hw1 : IntKind.i64.wrap (bits - 8 * (i : Int)) = bits - 8 * (i : Int) := wrap64 (by omega) (by omega)
        have hw2 : IntKind.i64.wrap ((i : Int) + 1) = (i : Int) + 1 := wrap64 (by omega) (by omega)
        have hn : ¬ bits < 0 := by omega
        have hg : (a.B.maskTo bits.toNat i).g i = a.B.g i := by rw [Bs.g_maskTo hi, if_neg (by omega)]
        obtain ⟨M, hM⟩ : ∃ M, M = bits.toNat - 8 * i := ⟨_, rfl⟩
        obtain ⟨L, hL⟩ : ∃ L, L = min 8 M := ⟨_, rfl⟩
        obtain ⟨K, hK⟩ : ∃ K, K = 8 - L := ⟨_, rfl⟩
        have hA : (if 0 > bits - 8 * (i : Int) then 0 else bits - 8 * (i : Int)) = (M : Int) := by split <;> omega
        have hB : (if 8 < (M : Int) then 8 else (M : Int)) = (L : Int) := by split <;> omega
        have hC : IntKind.i64.wrap (8 - (L : Int)) = (K : Int) := by rw [wrap64 (by omega) (by omega)]; omega
        have hD : IntKind.u64.wrap (K : Int) = (K : Int) := by simp [IntKind.wrap, IntKind.bits, IntKind.signed]; omega
        have hF : min K IntKind.u8.bits = K := by show min K 8 = K; omega
        have hG : bitsI .and .u8 ((a.B.g i).toNat : Int) (IntKind.u8.wrap (255 * 2 ^ K)) = ((mb (a.B.g i) L).toNat : Int) := by
          rw [hK]; exact and_mask (a.B.g i) ⟨L, by omega⟩
        simp only [S]
        rw [Bs.maskTo_succ hi, ← hM, ← hL]
        simp -implicitDefEqProofs (maxSteps := 4000000) (disch := first | omega | (simp only [go_sem, WF, List.length_take] <;> omega) | fail) only [go_sem, ↓reduceIte, Nat.reduceEqDiff, Nat.reduceAdd, Nat.reduceSub, Nat.reduceMul, Nat.reduceLeDiff, Nat.reduceLT, reduceCtorEq, Int.reduceEq, Int.reduceLT, Int.reduceLE, Int.reduceAdd, Int.reduceSub, Int.reduceMul, Int.reduceNeg, Int.reduceToNat, c_addr_Mask_l0, hw0, hw1, hw2, hn, hg, hA, hB, hC, hD, hF, hG])
    simp only [S, Int.cast_ofNat_Int, Bs.maskTo_zero, Bs.maskTo_all] at loop
    simp -implicitDefEqProofs (maxSteps := 4000000) (disch := first | omega | (simp only [go_sem, WF, List.length_take] <;> omega) | fail) only [go_sem, ↓reduceIte, Nat.reduceEqDiff, Nat.reduceAdd, Nat.reduceSub, Nat.reduceMul, Nat.reduceLeDiff, Nat.reduceLT, reduceCtorEq, Int.reduceEq, Int.reduceLT, Int.reduceLE, Int.reduceAdd, Int.reduceSub, Int.reduceMul, Int.reduceNeg, Int.reduceToNat, c_addr_Mask, hok, loop]
    simp -implicitDefEqProofs (maxSteps := 4000000) (disch := first | omega | (simp only [go_sem, WF, List.length_take] <;> omega) | fail) only [go_sem, ↓reduceIte, Nat.reduceEqDiff, Nat.reduceAdd, Nat.reduceSub, Nat.reduceMul, Nat.reduceLeDiff, Nat.reduceLT, reduceCtorEq, Int.reduceEq, Int.reduceLT, Int.reduceLE, Int.reduceAdd, Int.reduceSub, Int.reduceMul, Int.reduceNeg, Int.reduceToNat, c_addr_Mask_l0]

/-- a bit of an address -/
def Bs.dig {n : Nat} (b : Bs n) (i : Nat) : Nat := ((b.g (i / 8)).toNat / 2 ^ (7 - i % 8)) % 2
theorem q2 (m : Nat) : (m : Int).tdiv 2 = ((m / 2 : Nat) : Int) := rfl
theorem q8 (m : Nat) : (m : Int).tdiv 8 = ((m / 8 : Nat) : Int) := rfl
theorem r8 (m : Nat) : (m : Int).tmod 8 = ((m % 8 : Nat) : Int) := rfl
theorem r2 (m : Nat) : (m : Int).tmod 2 = ((m % 2 : Nat) : Int) := rfl
theorem wrapN {m : Nat} (h : m < 9223372036854775808) : IntKind.i64.wrap (m : Int) = m := wrap64 (by omega) (by omega)
theorem wrap8 {m : Nat} (h : m < 256) : IntKind.u8.wrap (m : Int) = m := by simp [IntKind.wrap, IntKind.bits, IntKind.signed]; omega
theorem r10_digit_s {h : Heap} (hw : WF h) {a : TAddr} {i : Nat} (hi : i < 128) : calling tb (den tb) h fn_r10_digit [.agg a.c, .i .i64 (i : Nat)] = some (.i .i64 (a.B.dig i : Nat), some h) := by
  rw [go_fn f_r10_digit]
  have hb := (a.B.g (i / 8)).toNat_lt
  let S : Nat → Fr × Heap := fun k => ([(1, .i .i64 (i : Nat)), (5, .i .i64 (((a.B.g (i / 8)).toNat / 2 ^ k : Nat) : Int)), (6, .i .i64 (7 - (k : Int)))], h ++ [.cells a.c])
  have loop := lp_for (F := round [1, 5, 6] (exec tb (den tb) c_r10_digit_l0)) S (7 - i % 8)
    (by
      intro k hk
      have hc : (7 - (k : Int) > ((i % 8 : Nat) : Int)) := by omega
      have hle := Nat.div_le_self (a.B.g (i / 8)).toNat (2 ^ k)
      have e2 : (a.B.g (i / 8)).toNat / 2 ^ k / 2 = (a.B.g (i / 8)).toNat / 2 ^ (k + 1) := by rw [Nat.div_div_eq_div_mul, Nat.pow_succ]
      have hle2 := Nat.div_le_self (a.B.g (i / 8)).toNat (2 ^ (k + 1))
      have hw1 : IntKind.i64.wrap (7 - (k : Int) - 1) = 7 - ((k : Int) + 1) := by rw [wrap64 (by omega) (by omega)]; omega
      simp only [S]
      simp -implicitDefEqProofs (maxSteps := 4000000) (disch := first | omega | (simp only [go_sem, WF, List.length_take] <;> omega) | fail) only [go_sem, ↓reduceIte, Nat.reduceEqDiff, Nat.reduceAdd, Nat.reduceSub, Nat.reduceMul, Nat.reduceLeDiff, Nat.reduceLT, reduceCtorEq, Int.reduceEq, Int.reduceLT, Int.reduceLE, Int.reduceAdd, Int.reduceSub, Int.reduceMul, Int.reduceNeg, Int.reduceToNat, c_r10_digit_l0, r8, q2, hc, e2, wrapN (show (a.B.g (i / 8)).toNat / 2 ^ (k + 1) < 9223372036854775808 by omega), hw1])
  have hz : 7 - (((7 - i % 8 : Nat)) : Int) = ((i % 8 : Nat) : Int) := by omega
  have hn : ¬ (((i % 8 : Nat) : Int) > ((i % 8 : Nat) : Int)) := by omega
  simp only [S, Int.cast_ofNat_Int, Nat.pow_zero, Nat.div_one, Int.sub_zero, hz] at loop
  have ha : 1 + i / 8 - 1 = i / 8 := by omega
  simp -implicitDefEqProofs (maxSteps := 4000000) (disch := first | omega | (simp only [go_sem, WF, List.length_take] <;> omega) | fail) only [go_sem, ↓reduceIte, Nat.reduceEqDiff, Nat.reduceAdd, Nat.reduceSub, Nat.reduceMul, Nat.reduceLeDiff, Nat.reduceLT, reduceCtorEq, Int.reduceEq, Int.reduceLT, Int.reduceLE, Int.reduceAdd, Int.reduceSub, Int.reduceMul, Int.reduceNeg, Int.reduceToNat, c_r10_digit, q8, wrapN (show i / 8 < 9223372036854775808 by omega), wrapN (show (a.B.g (i / 8)).toNat < 9223372036854775808 by omega), loop]
  simp -implicitDefEqProofs (maxSteps := 4000000) (disch := first | omega | (simp only [go_sem, WF, List.length_take] <;> omega) | fail) only [go_sem, ↓reduceIte, Nat.reduceEqDiff, Nat.reduceAdd, Nat.reduceSub, Nat.reduceMul, Nat.reduceLeDiff, Nat.reduceLT, reduceCtorEq, Int.reduceEq, Int.reduceLT, Int.reduceLE, Int.reduceAdd, Int.reduceSub, Int.reduceMul, Int.reduceNeg, Int.reduceToNat, c_r10_digit_l0, r8, r2, hn, Bs.dig]

theorem bit_step : ∀ (b : UInt8) (r : Fin 8), (mb b (r.1 + 1)).toNat = if (b.toNat / 2 ^ (7 - r.1)) % 2 = 1 then (mb b r.1).toNat + 128 / 2 ^ r.1 else (mb b r.1).toNat := by
  intro b r
  have h : ∀ (x : Fin 256) (r : Fin 8), (mb (UInt8.ofNat x.1) (r.1 + 1)).toNat = if ((UInt8.ofNat x.1).toNat / 2 ^ (7 - r.1)) % 2 = 1 then (mb (UInt8.ofNat x.1) r.1).toNat + 128 / 2 ^ r.1 else (mb (UInt8.ofNat x.1) r.1).toNat := by decide +kernel
  have := h ⟨b.toNat, b.toNat_lt⟩ r
  simpa using this
theorem Bs.mask_zero {n : Nat} {b : Bs n} : b.mask 0 = Bs.z n := Bs.ext_g fun i hi => by
  rw [g_mask hi, g_z]
  have : min 8 (0 - 8 * i) = 0 := by omega
  rw [this]
  show b.g i &&& UInt8.ofNat (256 - 2 ^ (8 - 0)) = 0
  have : UInt8.ofNat (256 - 2 ^ (8 - 0)) = 0 := by decide
  rw [this]
  exact UInt8.and_zero
theorem Bs.mask_succ {n : Nat} {b : Bs n} {i : Nat} (h : i / 8 < n) : b.mask (i + 1) = (b.mask i).put (i / 8) (mb (b.g (i / 8)) (i % 8 + 1)) := Bs.ext_g fun j hj => by
  rw [g_mask hj, g_put, g_mask hj]
  by_cases e : i / 8 = j
  · rw [if_pos ⟨e, hj⟩, ← e]; congr 1; omega
  · rw [if_neg fun x => e x.1]; congr 1; omega
theorem Bs.put_self {n : Nat} {b : Bs n} {i : Nat} {v : UInt8} (h : i < n) (e : b.g i = v) : b.put i v = b := Bs.ext_g fun j hj => by
  rw [g_put]
  by_cases x : i = j
  · subst x; rw [if_pos ⟨rfl, hj⟩, e]
  · rw [if_neg fun y => x y.1]
theorem Bs.mask_g {n : Nat} {b : Bs n} {i : Nat} (h : i / 8 < n) : (b.mask i).g (i / 8) = mb (b.g (i / 8)) (i % 8) := by rw [g_mask h]; congr 1; omega
theorem r10_Mask_s {h : Heap} (hw : WF h) {a : TAddr} {bits : Nat} (h1 : (bits : Int) ≤ a.width) : calling tb (den tb) h fn_r10_Mask [.agg a.c, .i .i64 (bits : Nat)] = some (.agg (a.mask bits).c, some h) := by
  rw [go_fn f_r10_Mask]
  unfold TAddr.mask
  cases hok : a.ok
  · simp -implicitDefEqProofs (maxSteps := 4000000) (disch := first | omega | (simp only [go_sem, WF, List.length_take] <;> omega) | fail) only [go_sem, ↓reduceIte, Nat.reduceEqDiff, Nat.reduceAdd, Nat.reduceSub, Nat.reduceMul, Nat.reduceLeDiff, Nat.reduceLT, reduceCtorEq, Int.reduceEq, Int.reduceLT, Int.reduceLE, Int.reduceAdd, Int.reduceSub, Int.reduceMul, Int.reduceNeg, Int.reduceToNat, c_r10_Mask, hok]
  · have hwd : a.width = 32 ∨ a.width = 128 := by unfold TAddr.width; rw [hok]; by_cases h4 : a.V = 4 <;> simp [h4]
    have hb : bits ≤ 128 := by omega
    have hdig := fun (h : Heap) (hw : WF h) (i : Nat) (hi : i < 128) => r10_digit_s hw (a := a) hi
    let S : Nat → Fr × Heap := fun i => ([(1, .i .i64 (bits : Nat)), (2, .ptr h.length 0), (4, .ptr (h.length + 1) 0), (5, .ptr (h.length + 2) 0), (6, .i .i64 a.width), (7, .i .i64 (i : Nat))],
      h ++ [.cells a.c, .cells TAddr.z.c, .cells (TAddr.c ⟨a.V, a.B.mask i⟩)])
    have loop := lp_for (F := round [1, 2, 4, 5, 6, 7] (exec tb (den tb) c_r10_Mask_l1)) S bits
      (by
        intro i hi
        have hi8 : i / 8 < 16 := by omega
        have hlt : (i : Int) < a.width := by omega
        have hd := fun (h : Heap) (hw : WF h) => hdig h hw i (by omega)
        have hw2 : IntKind.i64.wrap ((i : Int) + 1) = (i : Int) + 1 := wrap64 (by omega) (by omega)
        simp only [S]
        rw [Bs.mask_succ hi8]
        by_cases hbit : a.B.dig i = 1
        · let S2 : Nat → Fr × Heap := fun k => ([(1, .i .i64 (bits : Nat)), (2, .ptr h.length 0), (4, .ptr (h.length + 1) 0), (5, .ptr (h.length + 2) 0), (6, .i .i64 a.width), (7, .i .i64 (i : Nat)), (8, .i .i64 ((128 / 2 ^ k : Nat) : Int)), (9, .i .i64 (k : Nat))],
            h ++ [.cells a.c, .cells TAddr.z.c, .cells (TAddr.c ⟨a.V, a.B.mask i⟩)])
          have loop2 := lp_for (F := round [1, 2, 4, 5, 6, 7, 8, 9] (exec tb (den tb) c_r10_Mask_l0)) S2 (i % 8)
            (by
              intro k hk
              have hle := Nat.div_le_self 128 (2 ^ k)
              have e2 : 128 / 2 ^ k / 2 = 128 / 2 ^ (k + 1) := by rw [Nat.div_div_eq_div_mul, Nat.pow_succ]
              have hle2 := Nat.div_le_self 128 (2 ^ (k + 1))
              have hw1 : IntKind.i64.wrap ((k : Int) + 1) = (k : Int) + 1 := wrap64 (by omega) (by omega)
              have hc : (k : Int) < ((i % 8 : Nat) : Int) := by omega
              simp only [S2]
              simp -implicitDefEqProofs (maxSteps := 4000000) (disch := first | omega | (simp only [go_sem, WF, List.length_take] <;> omega) | fail) only [go_sem, ↓reduceIte, Nat.reduceEqDiff, Nat.reduceAdd, Nat.reduceSub, Nat.reduceMul, Nat.reduceLeDiff, Nat.reduceLT, reduceCtorEq, Int.reduceEq, Int.reduceLT, Int.reduceLE, Int.reduceAdd, Int.reduceSub, Int.reduceMul, Int.reduceNeg, Int.reduceToNat, c_r10_Mask_l0, r8, q2, e2, hc, hw1, wrapN (show 128 / 2 ^ (k + 1) < 9223372036854775808 by omega)])
          simp only [S2, Int.cast_ofNat_Int, Nat.pow_zero, Nat.div_one] at loop2
          have hc : ¬ (((i % 8 : Nat) : Int) < ((i % 8 : Nat) : Int)) := by omega
          have hb2 := bit_step (a.B.g (i / 8)) ⟨i % 8, by omega⟩
          have hb3 := (mb (a.B.g (i / 8)) (i % 8 + 1)).toNat_lt
          unfold Bs.dig at hbit
          rw [if_pos hbit] at hb2
          simp only at hb2
          have hle := Nat.div_le_self 128 (2 ^ (i % 8))
          have hwa : IntKind.u8.wrap ((128 / 2 ^ (i % 8) : Nat) : Int) = ((128 / 2 ^ (i % 8) : Nat) : Int) := wrap8 (by omega)
          have hwb : IntKind.u8.wrap (((mb (a.B.g (i / 8)) (i % 8)).toNat : Int) + ((128 / 2 ^ (i % 8) : Nat) : Int)) = ((mb (a.B.g (i / 8)) (i % 8 + 1)).toNat : Int) := by
            rw [← Int.natCast_add, wrap8 (by omega), hb2]
          have hbit' : a.B.dig i = 1 := hbit
          have ha : 1 + i / 8 - 1 = i / 8 := by omega
          simp -implicitDefEqProofs (maxSteps := 4000000) (disch := first | omega | (simp only [go_sem, WF, List.length_take] <;> omega) | fail) only [go_sem, ↓reduceIte, Nat.reduceEqDiff, Nat.reduceAdd, Nat.reduceSub, Nat.reduceMul, Nat.reduceLeDiff, Nat.reduceLT, reduceCtorEq, Int.reduceEq, Int.reduceLT, Int.reduceLE, Int.reduceAdd, Int.reduceSub, Int.reduceMul, Int.reduceNeg, Int.reduceToNat, c_r10_Mask_l1, hlt, hd, hbit', loop2]
          simp -implicitDefEqProofs (maxSteps := 4000000) (disch := first | omega | (simp only [go_sem, WF, List.length_take] <;> omega) | fail) only [go_sem, ↓reduceIte, Nat.reduceEqDiff, Nat.reduceAdd, Nat.reduceSub, Nat.reduceMul, Nat.reduceLeDiff, Nat.reduceLT, reduceCtorEq, Int.reduceEq, Int.reduceLT, Int.reduceLE, Int.reduceAdd, Int.reduceSub, Int.reduceMul, Int.reduceNeg, Int.reduceToNat, c_r10_Mask_l0, r8, q8, hc, wrapN (show i / 8 < 9223372036854775808 by omega), Bs.mask_g hi8, hwa, hwb, hw2]
        · have hb2 := bit_step (a.B.g (i / 8)) ⟨i % 8, by omega⟩
          have hbit' := hbit
          unfold Bs.dig at hbit
          rw [if_neg hbit] at hb2
          simp only at hb2
          have hb4 : mb (a.B.g (i / 8)) (i % 8 + 1) = mb (a.B.g (i / 8)) (i % 8) := UInt8.toNat_inj.1 hb2
          rw [hb4, Bs.put_self hi8 (Bs.mask_g hi8)]
          have hne : ¬ ((a.B.dig i : Nat) : Int) = 1 := by omega
          simp -implicitDefEqProofs (maxSteps := 4000000) (disch := first | omega | (simp only [go_sem, WF, List.length_take] <;> omega) | fail) only [go_sem, ↓reduceIte, Nat.reduceEqDiff, Nat.reduceAdd, Nat.reduceSub, Nat.reduceMul, Nat.reduceLeDiff, Nat.reduceLT, reduceCtorEq, Int.reduceEq, Int.reduceLT, Int.reduceLE, Int.reduceAdd, Int.reduceSub, Int.reduceMul, Int.reduceNeg, Int.reduceToNat, c_r10_Mask_l1, hlt, hd, hne, hw2])
    simp only [S, Int.cast_ofNat_Int, Bs.mask_zero] at loop
    have hc : ¬ ((bits : Int) < (bits : Int)) := by omega
    simp -implicitDefEqProofs (maxSteps := 4000000) (disch := first | omega | (simp only [go_sem, WF, List.length_take] <;> omega) | fail) only [go_sem, ↓reduceIte, Nat.reduceEqDiff, Nat.reduceAdd, Nat.reduceSub, Nat.reduceMul, Nat.reduceLeDiff, Nat.reduceLT, reduceCtorEq, Int.reduceEq, Int.reduceLT, Int.reduceLE, Int.reduceAdd, Int.reduceSub, Int.reduceMul, Int.reduceNeg, Int.reduceToNat, c_r10_Mask, hok, loop]
    by_cases hlt : (bits : Int) < a.width
    · simp -implicitDefEqProofs (maxSteps := 4000000) (disch := first | omega | (simp only [go_sem, WF, List.length_take] <;> omega) | fail) only [go_sem, ↓reduceIte, Nat.reduceEqDiff, Nat.reduceAdd, Nat.reduceSub, Nat.reduceMul, Nat.reduceLeDiff, Nat.reduceLT, reduceCtorEq, Int.reduceEq, Int.reduceLT, Int.reduceLE, Int.reduceAdd, Int.reduceSub, Int.reduceMul, Int.reduceNeg, Int.reduceToNat, c_r10_Mask_l1, hlt, hc]
    · simp -implicitDefEqProofs (maxSteps := 4000000) (disch := first | omega | (simp only [go_sem, WF, List.length_take] <;> omega) | fail) only [go_sem, ↓reduceIte, Nat.reduceEqDiff, Nat.reduceAdd, Nat.reduceSub, Nat.reduceMul, Nat.reduceLeDiff, Nat.reduceLT, reduceCtorEq, Int.reduceEq, Int.reduceLT, Int.reduceLE, Int.reduceAdd, Int.reduceSub, Int.reduceMul, Int.reduceNeg, Int.reduceToNat, c_r10_Mask_l1, hlt, hc]
end Go.Proofs.Ytggdinpopddhnaa.Am
