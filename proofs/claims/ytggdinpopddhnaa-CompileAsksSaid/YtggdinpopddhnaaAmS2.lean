/-
  What the functions come to: addresses, prefixes.
-/
import Derived.Test.YtggdinpopddhnaaAmS1
set_option linter.unusedSimpArgs false
set_option linter.unusedVariables false
namespace Go.Proofs.Ytggdinpopddhnaa.Am

def short16 (n : Int) : Bool := decide (0 ≤ n) && decide (n ≤ 65535)
@[go_sem] theorem r34_from_s {h : Heap} (hw : WF h) {n : Int} : calling tb (den tb) h fn_r34_from [.i .i64 n] = some (.b (short16 n), some h) := by
  rw [go_fn f_r34_from]
  unfold short16
  by_cases h1 : 0 ≤ n
  · simp -implicitDefEqProofs (maxSteps := 4000000) (disch := first | omega | (simp only [go_sem, WF, List.length_take] <;> omega) | fail) only [go_sem, ↓reduceIte, Nat.reduceEqDiff, Nat.reduceAdd, Nat.reduceSub, Nat.reduceMul, Nat.reduceLeDiff, Nat.reduceLT, reduceCtorEq, Int.reduceEq, Int.reduceLT, Int.reduceLE, Int.reduceAdd, Int.reduceSub, Int.reduceMul, Int.reduceNeg, Int.reduceToNat, c_r34_from, h1]
  · simp -implicitDefEqProofs (maxSteps := 4000000) (disch := first | omega | (simp only [go_sem, WF, List.length_take] <;> omega) | fail) only [go_sem, ↓reduceIte, Nat.reduceEqDiff, Nat.reduceAdd, Nat.reduceSub, Nat.reduceMul, Nat.reduceLeDiff, Nat.reduceLT, reduceCtorEq, Int.reduceEq, Int.reduceLT, Int.reduceLE, Int.reduceAdd, Int.reduceSub, Int.reduceMul, Int.reduceNeg, Int.reduceToNat, c_r34_from, h1]
@[go_sem] theorem iniwrite_short_s {h : Heap} (hw : WF h) {n : Int} : calling tb (den tb) h fn_iniwrite_short [.i .i64 n] = some (.b (short16 n), some h) := by
  rw [go_fn f_iniwrite_short]
  unfold short16
  by_cases h1 : 0 ≤ n
  · simp -implicitDefEqProofs (maxSteps := 4000000) (disch := first | omega | (simp only [go_sem, WF, List.length_take] <;> omega) | fail) only [go_sem, ↓reduceIte, Nat.reduceEqDiff, Nat.reduceAdd, Nat.reduceSub, Nat.reduceMul, Nat.reduceLeDiff, Nat.reduceLT, reduceCtorEq, Int.reduceEq, Int.reduceLT, Int.reduceLE, Int.reduceAdd, Int.reduceSub, Int.reduceMul, Int.reduceNeg, Int.reduceToNat, c_iniwrite_short, h1]
  · simp -implicitDefEqProofs (maxSteps := 4000000) (disch := first | omega | (simp only [go_sem, WF, List.length_take] <;> omega) | fail) only [go_sem, ↓reduceIte, Nat.reduceEqDiff, Nat.reduceAdd, Nat.reduceSub, Nat.reduceMul, Nat.reduceLeDiff, Nat.reduceLT, reduceCtorEq, Int.reduceEq, Int.reduceLT, Int.reduceLE, Int.reduceAdd, Int.reduceSub, Int.reduceMul, Int.reduceNeg, Int.reduceToNat, c_iniwrite_short, h1]
@[go_sem] theorem keys_Zero_s {h : Heap} (hw : WF h) {k : Bs 32} : calling tb (den tb) h fn_keys_Zero [.agg k.c] = some (.b (decide (k = Bs.z 32)), some h) := by
  rw [go_fn f_keys_Zero]
  simp -implicitDefEqProofs (maxSteps := 4000000) (disch := first | omega | (simp only [go_sem, WF, List.length_take] <;> omega) | fail) only [go_sem, ↓reduceIte, Nat.reduceEqDiff, Nat.reduceAdd, Nat.reduceSub, Nat.reduceMul, Nat.reduceLeDiff, Nat.reduceLT, reduceCtorEq, Int.reduceEq, Int.reduceLT, Int.reduceLE, Int.reduceAdd, Int.reduceSub, Int.reduceMul, Int.reduceNeg, Int.reduceToNat, c_keys_Zero]

/-- may an address be? -/
def TAddr.four (a : TAddr) : Bool := (List.range 12).all fun i => decide (a.B.g (i + 4) = 0)
def TAddr.ok (a : TAddr) : Bool := decide (a.V = 6) || (decide (a.V = 4) && a.four)
@[go_sem] theorem r10_Right_s {h : Heap} (hw : WF h) {a : TAddr} : calling tb (den tb) h fn_r10_Right [.agg a.c] = some (.b a.ok, some h) := by
  rw [go_fn f_r10_Right]
  by_cases h6 : a.V = 6
  · simp -implicitDefEqProofs (maxSteps := 4000000) (disch := first | omega | (simp only [go_sem, WF, List.length_take] <;> omega) | fail) only [go_sem, ↓reduceIte, Nat.reduceEqDiff, Nat.reduceAdd, Nat.reduceSub, Nat.reduceMul, Nat.reduceLeDiff, Nat.reduceLT, reduceCtorEq, Int.reduceEq, Int.reduceLT, Int.reduceLE, Int.reduceAdd, Int.reduceSub, Int.reduceMul, Int.reduceNeg, Int.reduceToNat, c_r10_Right, TAddr.ok, h6]
  · let S : Nat → Fr × Heap := fun i => ([(1, .ptr h.length 0), (3, .i .i64 ((i + 4 : Nat) : Int))], h ++ [.cells a.c])
    have loop := lp_scan (F := round [1, 3] (exec tb (den tb) c_r10_Right_l0)) S 12 (fun i => decide (a.B.g (i + 4) = 0)) (fun _ r => ∃ f X, r = (.ret, f, h ++ X) ∧ get f 2 = .b false)
      (by
        intro i hi hp
        simp only [decide_eq_true_eq] at hp
        have e1 : ((i : Int) + 4).toNat = i + 4 := by omega
        have hw1 : IntKind.i64.wrap ((i : Int) + 4 + 1) = (i : Int) + 1 + 4 := by rw [wrap64 (by omega) (by omega)]; omega
        simp only [S]
        simp -implicitDefEqProofs (maxSteps := 4000000) (disch := first | omega | (simp only [go_sem, WF, List.length_take] <;> omega) | fail) only [go_sem, ↓reduceIte, Nat.reduceEqDiff, Nat.reduceAdd, Nat.reduceSub, Nat.reduceMul, Nat.reduceLeDiff, Nat.reduceLT, reduceCtorEq, Int.reduceEq, Int.reduceLT, Int.reduceLE, Int.reduceAdd, Int.reduceSub, Int.reduceMul, Int.reduceNeg, Int.reduceToNat, c_r10_Right_l0, e1, hp, hw1])
      (by
        intro i hi hp
        simp only [decide_eq_false_iff_not] at hp
        have e1 : ((i : Int) + 4).toNat = i + 4 := by omega
        simp only [S]
        simp -implicitDefEqProofs (maxSteps := 4000000) (disch := first | omega | (simp only [go_sem, WF, List.length_take] <;> omega) | fail) only [go_sem, ↓reduceIte, Nat.reduceEqDiff, Nat.reduceAdd, Nat.reduceSub, Nat.reduceMul, Nat.reduceLeDiff, Nat.reduceLT, reduceCtorEq, Int.reduceEq, Int.reduceLT, Int.reduceLE, Int.reduceAdd, Int.reduceSub, Int.reduceMul, Int.reduceNeg, Int.reduceToNat, c_r10_Right_l0, e1, hp]
        exact ⟨_, rfl, by simp, _, _, rfl, rfl⟩)
    simp only [S, Nat.zero_add, Nat.reduceAdd, Int.cast_ofNat_Int] at loop
    rcases loop with ⟨hall, loop⟩ | ⟨i, hi, hf, _, r, loop, _, f, X, rfl, hg⟩
    · have h4 : a.four = true := by simp only [TAddr.four, List.all_eq_true, List.mem_range]; exact fun i hi => hall i hi
      simp -implicitDefEqProofs (maxSteps := 4000000) (disch := first | omega | (simp only [go_sem, WF, List.length_take] <;> omega) | fail) only [go_sem, ↓reduceIte, Nat.reduceEqDiff, Nat.reduceAdd, Nat.reduceSub, Nat.reduceMul, Nat.reduceLeDiff, Nat.reduceLT, reduceCtorEq, Int.reduceEq, Int.reduceLT, Int.reduceLE, Int.reduceAdd, Int.reduceSub, Int.reduceMul, Int.reduceNeg, Int.reduceToNat, c_r10_Right, TAddr.ok, h6, h4, loop]
      simp -implicitDefEqProofs (maxSteps := 4000000) (disch := first | omega | (simp only [go_sem, WF, List.length_take] <;> omega) | fail) only [go_sem, ↓reduceIte, Nat.reduceEqDiff, Nat.reduceAdd, Nat.reduceSub, Nat.reduceMul, Nat.reduceLeDiff, Nat.reduceLT, reduceCtorEq, Int.reduceEq, Int.reduceLT, Int.reduceLE, Int.reduceAdd, Int.reduceSub, Int.reduceMul, Int.reduceNeg, Int.reduceToNat, c_r10_Right_l0]
    · have h4 : a.four = false := by
        simp only [TAddr.four, List.all_eq_false, List.mem_range]; exact ⟨i, hi, by rw [hf]; simp⟩
      simp -implicitDefEqProofs (maxSteps := 4000000) (disch := first | omega | (simp only [go_sem, WF, List.length_take] <;> omega) | fail) only [go_sem, ↓reduceIte, Nat.reduceEqDiff, Nat.reduceAdd, Nat.reduceSub, Nat.reduceMul, Nat.reduceLeDiff, Nat.reduceLT, reduceCtorEq, Int.reduceEq, Int.reduceLT, Int.reduceLE, Int.reduceAdd, Int.reduceSub, Int.reduceMul, Int.reduceNeg, Int.reduceToNat, c_r10_Right, TAddr.ok, h6, h4, loop, hg]

def TAddr.width (a : TAddr) : Int := if a.ok then (if a.V = 4 then 32 else 128) else 0
@[go_sem] theorem r10_Width_s {h : Heap} (hw : WF h) {a : TAddr} : calling tb (den tb) h fn_r10_Width [.agg a.c] = some (.i .i64 a.width, some h) := by
  rw [go_fn f_r10_Width]
  unfold TAddr.width
  cases h1 : a.ok
  · simp -implicitDefEqProofs (maxSteps := 4000000) (disch := first | omega | (simp only [go_sem, WF, List.length_take] <;> omega) | fail) only [go_sem, ↓reduceIte, Nat.reduceEqDiff, Nat.reduceAdd, Nat.reduceSub, Nat.reduceMul, Nat.reduceLeDiff, Nat.reduceLT, reduceCtorEq, Int.reduceEq, Int.reduceLT, Int.reduceLE, Int.reduceAdd, Int.reduceSub, Int.reduceMul, Int.reduceNeg, Int.reduceToNat, c_r10_Width, h1]
  · by_cases h4 : a.V = 4
    · simp -implicitDefEqProofs (maxSteps := 4000000) (disch := first | omega | (simp only [go_sem, WF, List.length_take] <;> omega) | fail) only [go_sem, ↓reduceIte, Nat.reduceEqDiff, Nat.reduceAdd, Nat.reduceSub, Nat.reduceMul, Nat.reduceLeDiff, Nat.reduceLT, reduceCtorEq, Int.reduceEq, Int.reduceLT, Int.reduceLE, Int.reduceAdd, Int.reduceSub, Int.reduceMul, Int.reduceNeg, Int.reduceToNat, c_r10_Width, h1, h4]
    · simp -implicitDefEqProofs (maxSteps := 4000000) (disch := first | omega | (simp only [go_sem, WF, List.length_take] <;> omega) | fail) only [go_sem, ↓reduceIte, Nat.reduceEqDiff, Nat.reduceAdd, Nat.reduceSub, Nat.reduceMul, Nat.reduceLeDiff, Nat.reduceLT, reduceCtorEq, Int.reduceEq, Int.reduceLT, Int.reduceLE, Int.reduceAdd, Int.reduceSub, Int.reduceMul, Int.reduceNeg, Int.reduceToNat, c_r10_Width, h1, h4]

@[go_sem] theorem addr_Four_s {h : Heap} (hw : WF h) {b : Bs 4} : calling tb (den tb) h fn_addr_Four [.agg b.c] = some (.agg (TAddr.c ⟨4, (Bs.z 16).putL 0 b.1⟩), some h) := by
  rw [go_fn f_addr_Four]
  have e : b.1.take (min 4 16) = b.1 := List.take_of_length_le (by have := b.2; omega)
  simp -implicitDefEqProofs (maxSteps := 4000000) (disch := first | omega | (simp only [go_sem, WF, List.length_take] <;> omega) | fail) only [go_sem, ↓reduceIte, Nat.reduceEqDiff, Nat.reduceAdd, Nat.reduceSub, Nat.reduceMul, Nat.reduceLeDiff, Nat.reduceLT, reduceCtorEq, Int.reduceEq, Int.reduceLT, Int.reduceLE, Int.reduceAdd, Int.reduceSub, Int.reduceMul, Int.reduceNeg, Int.reduceToNat, c_addr_Four, e]
theorem addr_four_eq {a : TAddr} (h4 : a.V = 4) : decide (a = ⟨4, (Bs.z 16).putL 0 (a.B.sub 0 4).1⟩) = a.four := by
  rw [Bool.eq_iff_iff]
  simp only [decide_eq_true_eq, TAddr.four, List.all_eq_true, List.mem_range]
  have hl : (0 : Nat) + (a.B.sub 0 4).1.length ≤ 16 := by rw [Bs.len_1]; omega
  constructor
  · intro e i hi
    have := congrArg (fun x => TAddr.B x |>.g (i + 4)) e
    simp only [Bs.g_putL hl, Bs.len_1, Bs.g_z] at this
    rwa [if_neg (by omega)] at this
  · intro e
    obtain ⟨V, B⟩ := a
    simp only at h4
    subst h4
    congr 1
    refine Bs.ext_g fun i hi => ?_
    rw [Bs.g_putL hl, Bs.len_1, Bs.g_z]
    split
    · rw [← Bs.g_mk (h := (Bs.sub B 0 4).2), Nat.sub_zero]
      show _ = (B.sub 0 4).g i
      rw [Bs.g_sub (by omega), Nat.zero_add]
    · have := e (i - 4) (by omega)
      rwa [show i - 4 + 4 = i by omega] at this
@[go_sem] theorem addr_Right_s {h : Heap} (hw : WF h) {a : TAddr} : calling tb (den tb) h fn_addr_Right [.agg a.c] = some (.b a.ok, some h) := by
  rw [go_fn f_addr_Right]
  by_cases h6 : a.V = 6
  · simp -implicitDefEqProofs (maxSteps := 4000000) (disch := first | omega | (simp only [go_sem, WF, List.length_take] <;> omega) | fail) only [go_sem, ↓reduceIte, Nat.reduceEqDiff, Nat.reduceAdd, Nat.reduceSub, Nat.reduceMul, Nat.reduceLeDiff, Nat.reduceLT, reduceCtorEq, Int.reduceEq, Int.reduceLT, Int.reduceLE, Int.reduceAdd, Int.reduceSub, Int.reduceMul, Int.reduceNeg, Int.reduceToNat, c_addr_Right, TAddr.ok, h6]
  · by_cases h4 : a.V = 4
    · have e := addr_four_eq h4
      simp -implicitDefEqProofs (maxSteps := 4000000) (disch := first | omega | (simp only [go_sem, WF, List.length_take] <;> omega) | fail) only [go_sem, ↓reduceIte, Nat.reduceEqDiff, Nat.reduceAdd, Nat.reduceSub, Nat.reduceMul, Nat.reduceLeDiff, Nat.reduceLT, reduceCtorEq, Int.reduceEq, Int.reduceLT, Int.reduceLE, Int.reduceAdd, Int.reduceSub, Int.reduceMul, Int.reduceNeg, Int.reduceToNat, c_addr_Right, TAddr.ok, h6, h4, e]

    · simp -implicitDefEqProofs (maxSteps := 4000000) (disch := first | omega | (simp only [go_sem, WF, List.length_take] <;> omega) | fail) only [go_sem, ↓reduceIte, Nat.reduceEqDiff, Nat.reduceAdd, Nat.reduceSub, Nat.reduceMul, Nat.reduceLeDiff, Nat.reduceLT, reduceCtorEq, Int.reduceEq, Int.reduceLT, Int.reduceLE, Int.reduceAdd, Int.reduceSub, Int.reduceMul, Int.reduceNeg, Int.reduceToNat, c_addr_Right, TAddr.ok, h6, h4]
@[go_sem] theorem addr_Width_s {h : Heap} (hw : WF h) {a : TAddr} : calling tb (den tb) h fn_addr_Width [.agg a.c] = some (.i .i64 a.width, some h) := by
  rw [go_fn f_addr_Width]
  unfold TAddr.width
  cases h1 : a.ok
  · simp -implicitDefEqProofs (maxSteps := 4000000) (disch := first | omega | (simp only [go_sem, WF, List.length_take] <;> omega) | fail) only [go_sem, ↓reduceIte, Nat.reduceEqDiff, Nat.reduceAdd, Nat.reduceSub, Nat.reduceMul, Nat.reduceLeDiff, Nat.reduceLT, reduceCtorEq, Int.reduceEq, Int.reduceLT, Int.reduceLE, Int.reduceAdd, Int.reduceSub, Int.reduceMul, Int.reduceNeg, Int.reduceToNat, c_addr_Width, h1]
  · by_cases h4 : a.V = 4
    · simp -implicitDefEqProofs (maxSteps := 4000000) (disch := first | omega | (simp only [go_sem, WF, List.length_take] <;> omega) | fail) only [go_sem, ↓reduceIte, Nat.reduceEqDiff, Nat.reduceAdd, Nat.reduceSub, Nat.reduceMul, Nat.reduceLeDiff, Nat.reduceLT, reduceCtorEq, Int.reduceEq, Int.reduceLT, Int.reduceLE, Int.reduceAdd, Int.reduceSub, Int.reduceMul, Int.reduceNeg, Int.reduceToNat, c_addr_Width, h1, h4]
    · simp -implicitDefEqProofs (maxSteps := 4000000) (disch := first | omega | (simp only [go_sem, WF, List.length_take] <;> omega) | fail) only [go_sem, ↓reduceIte, Nat.reduceEqDiff, Nat.reduceAdd, Nat.reduceSub, Nat.reduceMul, Nat.reduceLeDiff, Nat.reduceLT, reduceCtorEq, Int.reduceEq, Int.reduceLT, Int.reduceLE, Int.reduceAdd, Int.reduceSub, Int.reduceMul, Int.reduceNeg, Int.reduceToNat, c_addr_Width, h1, h4]

def TEndpoint.ok (e : TEndpoint) : Bool := e.A.ok && (decide (1 ≤ e.Port) && decide (e.Port ≤ 65535))
@[go_sem] theorem r12_Right_s {h : Heap} (hw : WF h) {e : TEndpoint} : calling tb (den tb) h fn_r12_Right [.agg e.c] = some (.b e.ok, some h) := by
  rw [go_fn f_r12_Right]
  unfold TEndpoint.ok
  cases h1 : e.A.ok
  · simp -implicitDefEqProofs (maxSteps := 4000000) (disch := first | omega | (simp only [go_sem, WF, List.length_take] <;> omega) | fail) only [go_sem, ↓reduceIte, Nat.reduceEqDiff, Nat.reduceAdd, Nat.reduceSub, Nat.reduceMul, Nat.reduceLeDiff, Nat.reduceLT, reduceCtorEq, Int.reduceEq, Int.reduceLT, Int.reduceLE, Int.reduceAdd, Int.reduceSub, Int.reduceMul, Int.reduceNeg, Int.reduceToNat, c_r12_Right, h1]
  · by_cases h2 : 1 ≤ e.Port
    · simp -implicitDefEqProofs (maxSteps := 4000000) (disch := first | omega | (simp only [go_sem, WF, List.length_take] <;> omega) | fail) only [go_sem, ↓reduceIte, Nat.reduceEqDiff, Nat.reduceAdd, Nat.reduceSub, Nat.reduceMul, Nat.reduceLeDiff, Nat.reduceLT, reduceCtorEq, Int.reduceEq, Int.reduceLT, Int.reduceLE, Int.reduceAdd, Int.reduceSub, Int.reduceMul, Int.reduceNeg, Int.reduceToNat, c_r12_Right, h1, h2]
    · simp -implicitDefEqProofs (maxSteps := 4000000) (disch := first | omega | (simp only [go_sem, WF, List.length_take] <;> omega) | fail) only [go_sem, ↓reduceIte, Nat.reduceEqDiff, Nat.reduceAdd, Nat.reduceSub, Nat.reduceMul, Nat.reduceLeDiff, Nat.reduceLT, reduceCtorEq, Int.reduceEq, Int.reduceLT, Int.reduceLE, Int.reduceAdd, Int.reduceSub, Int.reduceMul, Int.reduceNeg, Int.reduceToNat, c_r12_Right, h1, h2]
@[go_sem] theorem hostport_Right_s {h : Heap} (hw : WF h) {e : TEndpoint} : calling tb (den tb) h fn_hostport_Right [.agg e.c] = some (.b e.ok, some h) := by
  rw [go_fn f_hostport_Right]
  unfold TEndpoint.ok
  cases h1 : e.A.ok
  · simp -implicitDefEqProofs (maxSteps := 4000000) (disch := first | omega | (simp only [go_sem, WF, List.length_take] <;> omega) | fail) only [go_sem, ↓reduceIte, Nat.reduceEqDiff, Nat.reduceAdd, Nat.reduceSub, Nat.reduceMul, Nat.reduceLeDiff, Nat.reduceLT, reduceCtorEq, Int.reduceEq, Int.reduceLT, Int.reduceLE, Int.reduceAdd, Int.reduceSub, Int.reduceMul, Int.reduceNeg, Int.reduceToNat, c_hostport_Right, h1]
  · by_cases h2 : 1 ≤ e.Port
    · simp -implicitDefEqProofs (maxSteps := 4000000) (disch := first | omega | (simp only [go_sem, WF, List.length_take] <;> omega) | fail) only [go_sem, ↓reduceIte, Nat.reduceEqDiff, Nat.reduceAdd, Nat.reduceSub, Nat.reduceMul, Nat.reduceLeDiff, Nat.reduceLT, reduceCtorEq, Int.reduceEq, Int.reduceLT, Int.reduceLE, Int.reduceAdd, Int.reduceSub, Int.reduceMul, Int.reduceNeg, Int.reduceToNat, c_hostport_Right, h1, h2]
    · simp -implicitDefEqProofs (maxSteps := 4000000) (disch := first | omega | (simp only [go_sem, WF, List.length_take] <;> omega) | fail) only [go_sem, ↓reduceIte, Nat.reduceEqDiff, Nat.reduceAdd, Nat.reduceSub, Nat.reduceMul, Nat.reduceLeDiff, Nat.reduceLT, reduceCtorEq, Int.reduceEq, Int.reduceLT, Int.reduceLE, Int.reduceAdd, Int.reduceSub, Int.reduceMul, Int.reduceNeg, Int.reduceToNat, c_hostport_Right, h1, h2]
end Go.Proofs.Ytggdinpopddhnaa.Am
