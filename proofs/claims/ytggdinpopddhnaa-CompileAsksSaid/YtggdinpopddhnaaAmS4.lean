/-
  What the functions come to: prefixes; what a file may say.
-/
import Derived.Test.YtggdinpopddhnaaAmS3
set_option linter.unusedSimpArgs false
set_option linter.unusedVariables false
set_option maxRecDepth 100000
namespace Go.Proofs.Ytggdinpopddhnaa.Am

def TPrefix.ok (p : TPrefix) : Bool := p.A.ok && (decide (0 ≤ p.Bits) && (decide (p.Bits ≤ p.A.width) && decide (p.A = p.A.mask p.Bits)))
theorem width_le (a : TAddr) : a.width ≤ 128 := by
  unfold TAddr.width; split
  · split <;> omega
  · omega
@[go_sem] theorem r11_Right_s {h : Heap} (hw : WF h) {p : TPrefix} : calling tb (den tb) h fn_r11_Right [.agg p.c] = some (.b p.ok, some h) := by
  rw [go_fn f_r11_Right]
  unfold TPrefix.ok
  cases h1 : p.A.ok
  · simp -implicitDefEqProofs (maxSteps := 4000000) (disch := first | omega | (simp only [go_sem, WF, List.length_take] <;> omega) | fail) only [go_sem, ↓reduceIte, Nat.reduceEqDiff, Nat.reduceAdd, Nat.reduceSub, Nat.reduceMul, Nat.reduceLeDiff, Nat.reduceLT, reduceCtorEq, Int.reduceEq, Int.reduceLT, Int.reduceLE, Int.reduceAdd, Int.reduceSub, Int.reduceMul, Int.reduceNeg, Int.reduceToNat, c_r11_Right, h1]
  · by_cases h2 : p.Bits < 0
    · have h2' : ¬ 0 ≤ p.Bits := by omega
      simp -implicitDefEqProofs (maxSteps := 4000000) (disch := first | omega | (simp only [go_sem, WF, List.length_take] <;> omega) | fail) only [go_sem, ↓reduceIte, Nat.reduceEqDiff, Nat.reduceAdd, Nat.reduceSub, Nat.reduceMul, Nat.reduceLeDiff, Nat.reduceLT, reduceCtorEq, Int.reduceEq, Int.reduceLT, Int.reduceLE, Int.reduceAdd, Int.reduceSub, Int.reduceMul, Int.reduceNeg, Int.reduceToNat, c_r11_Right, h1, h2, h2']
    · have h2' : 0 ≤ p.Bits := by omega
      by_cases h3 : p.A.width < p.Bits
      · have h3' : ¬ p.Bits ≤ p.A.width := by omega
        simp -implicitDefEqProofs (maxSteps := 4000000) (disch := first | omega | (simp only [go_sem, WF, List.length_take] <;> omega) | fail) only [go_sem, ↓reduceIte, Nat.reduceEqDiff, Nat.reduceAdd, Nat.reduceSub, Nat.reduceMul, Nat.reduceLeDiff, Nat.reduceLT, reduceCtorEq, Int.reduceEq, Int.reduceLT, Int.reduceLE, Int.reduceAdd, Int.reduceSub, Int.reduceMul, Int.reduceNeg, Int.reduceToNat, c_r11_Right, h1, h2, h2', h3, h3']
      · have h3' : p.Bits ≤ p.A.width := by omega
        have hm := fun (h : Heap) (hw : WF h) => r10_Mask_s hw (a := p.A) (bits := p.Bits.toNat) (by omega)
        rw [show ((p.Bits.toNat : Nat) : Int) = p.Bits by omega] at hm
        simp -implicitDefEqProofs (maxSteps := 4000000) (disch := first | omega | (simp only [go_sem, WF, List.length_take] <;> omega) | fail) only [go_sem, ↓reduceIte, Nat.reduceEqDiff, Nat.reduceAdd, Nat.reduceSub, Nat.reduceMul, Nat.reduceLeDiff, Nat.reduceLT, reduceCtorEq, Int.reduceEq, Int.reduceLT, Int.reduceLE, Int.reduceAdd, Int.reduceSub, Int.reduceMul, Int.reduceNeg, Int.reduceToNat, c_r11_Right, h1, h2, h2', h3, h3', hm]

def cidrOf (a : TAddr) (bits : Int) : TPrefix × Int :=
  if a.ok then (if bits < 0 ∨ a.width < bits then (TPrefix.z, 6) else (⟨a.mask bits, bits⟩, 0)) else (TPrefix.z, 1)
@[go_sem] theorem cidr_Of_s {h : Heap} (hw : WF h) {a : TAddr} {bits : Int} : calling tb (den tb) h fn_cidr_Of [.agg a.c, .i .i64 bits] = some (.tup [.agg (cidrOf a bits).1.c, .i .i64 (cidrOf a bits).2], some h) := by
  rw [go_fn f_cidr_Of]
  unfold cidrOf
  cases h1 : a.ok
  · simp -implicitDefEqProofs (maxSteps := 4000000) (disch := first | omega | (simp only [go_sem, WF, List.length_take] <;> omega) | fail) only [go_sem, ↓reduceIte, Nat.reduceEqDiff, Nat.reduceAdd, Nat.reduceSub, Nat.reduceMul, Nat.reduceLeDiff, Nat.reduceLT, reduceCtorEq, Int.reduceEq, Int.reduceLT, Int.reduceLE, Int.reduceAdd, Int.reduceSub, Int.reduceMul, Int.reduceNeg, Int.reduceToNat, c_cidr_Of, h1]
  · by_cases h2 : bits < 0
    · have h2' : bits < 0 ∨ a.width < bits := .inl h2
      simp -implicitDefEqProofs (maxSteps := 4000000) (disch := first | omega | (simp only [go_sem, WF, List.length_take] <;> omega) | fail) only [go_sem, ↓reduceIte, Nat.reduceEqDiff, Nat.reduceAdd, Nat.reduceSub, Nat.reduceMul, Nat.reduceLeDiff, Nat.reduceLT, reduceCtorEq, Int.reduceEq, Int.reduceLT, Int.reduceLE, Int.reduceAdd, Int.reduceSub, Int.reduceMul, Int.reduceNeg, Int.reduceToNat, c_cidr_Of, h1, h2, h2', true_or]
    · by_cases h3 : a.width < bits
      · simp -implicitDefEqProofs (maxSteps := 4000000) (disch := first | omega | (simp only [go_sem, WF, List.length_take] <;> omega) | fail) only [go_sem, ↓reduceIte, Nat.reduceEqDiff, Nat.reduceAdd, Nat.reduceSub, Nat.reduceMul, Nat.reduceLeDiff, Nat.reduceLT, reduceCtorEq, Int.reduceEq, Int.reduceLT, Int.reduceLE, Int.reduceAdd, Int.reduceSub, Int.reduceMul, Int.reduceNeg, Int.reduceToNat, c_cidr_Of, h1, h2, h3, or_true]
      · have hw2 := width_le a
        have hm := fun (h : Heap) (hw : WF h) => addr_Mask_s hw (a := a) (bits := bits) (by omega) (by omega)
        have h2' : ¬ (bits < 0 ∨ a.width < bits) := by omega
        simp -implicitDefEqProofs (maxSteps := 4000000) (disch := first | omega | (simp only [go_sem, WF, List.length_take] <;> omega) | fail) only [go_sem, ↓reduceIte, Nat.reduceEqDiff, Nat.reduceAdd, Nat.reduceSub, Nat.reduceMul, Nat.reduceLeDiff, Nat.reduceLT, reduceCtorEq, Int.reduceEq, Int.reduceLT, Int.reduceLE, Int.reduceAdd, Int.reduceSub, Int.reduceMul, Int.reduceNeg, Int.reduceToNat, c_cidr_Of, h1, h2, h3, h2', hm, or_false]
@[go_sem] theorem cidr_Right_s {h : Heap} (hw : WF h) {p : TPrefix} : calling tb (den tb) h fn_cidr_Right [.agg p.c] = some (.b p.ok, some h) := by
  rw [go_fn f_cidr_Right]
  unfold TPrefix.ok
  cases h1 : p.A.ok
  · simp -implicitDefEqProofs (maxSteps := 4000000) (disch := first | omega | (simp only [go_sem, WF, List.length_take] <;> omega) | fail) only [go_sem, ↓reduceIte, Nat.reduceEqDiff, Nat.reduceAdd, Nat.reduceSub, Nat.reduceMul, Nat.reduceLeDiff, Nat.reduceLT, reduceCtorEq, Int.reduceEq, Int.reduceLT, Int.reduceLE, Int.reduceAdd, Int.reduceSub, Int.reduceMul, Int.reduceNeg, Int.reduceToNat, c_cidr_Right, h1, cidrOf]
  · by_cases h2 : p.Bits < 0
    · have h2' : ¬ 0 ≤ p.Bits := by omega
      simp -implicitDefEqProofs (maxSteps := 4000000) (disch := first | omega | (simp only [go_sem, WF, List.length_take] <;> omega) | fail) only [go_sem, ↓reduceIte, Nat.reduceEqDiff, Nat.reduceAdd, Nat.reduceSub, Nat.reduceMul, Nat.reduceLeDiff, Nat.reduceLT, reduceCtorEq, Int.reduceEq, Int.reduceLT, Int.reduceLE, Int.reduceAdd, Int.reduceSub, Int.reduceMul, Int.reduceNeg, Int.reduceToNat, c_cidr_Right, h1, h2, h2', cidrOf, true_or]
    · have h2' : 0 ≤ p.Bits := by omega
      by_cases h3 : p.A.width < p.Bits
      · have h3' : ¬ p.Bits ≤ p.A.width := by omega
        simp -implicitDefEqProofs (maxSteps := 4000000) (disch := first | omega | (simp only [go_sem, WF, List.length_take] <;> omega) | fail) only [go_sem, ↓reduceIte, Nat.reduceEqDiff, Nat.reduceAdd, Nat.reduceSub, Nat.reduceMul, Nat.reduceLeDiff, Nat.reduceLT, reduceCtorEq, Int.reduceEq, Int.reduceLT, Int.reduceLE, Int.reduceAdd, Int.reduceSub, Int.reduceMul, Int.reduceNeg, Int.reduceToNat, c_cidr_Right, h1, h2, h2', h3, h3', cidrOf, or_true]
      · have h3' : p.Bits ≤ p.A.width := by omega
        have e : (({ A := p.A.mask p.Bits, Bits := p.Bits } : TPrefix) = p) = (p.A = p.A.mask p.Bits) := by
          obtain ⟨A, b⟩ := p
          simp only [TPrefix.mk.injEq, and_true]
          exact propext ⟨fun h => h.symm, fun h => h.symm⟩
        simp -implicitDefEqProofs (maxSteps := 4000000) (disch := first | omega | (simp only [go_sem, WF, List.length_take] <;> omega) | fail) only [go_sem, ↓reduceIte, Nat.reduceEqDiff, Nat.reduceAdd, Nat.reduceSub, Nat.reduceMul, Nat.reduceLeDiff, Nat.reduceLT, reduceCtorEq, Int.reduceEq, Int.reduceLT, Int.reduceLE, Int.reduceAdd, Int.reduceSub, Int.reduceMul, Int.reduceNeg, Int.reduceToNat, c_cidr_Right, h1, h2, h2', h3, h3', cidrOf, or_false]
        simp only [e]
@[go_sem] theorem iniwrite_wrong_1_s {h : Heap} (hw : WF h) {p : TPrefix} : calling tb (den tb) h fn_iniwrite_wrong_1 [.agg p.c] = some (.b (!p.ok), some h) := by
  rw [go_fn f_iniwrite_wrong_1]
  simp -implicitDefEqProofs (maxSteps := 4000000) (disch := first | omega | (simp only [go_sem, WF, List.length_take] <;> omega) | fail) only [go_sem, ↓reduceIte, Nat.reduceEqDiff, Nat.reduceAdd, Nat.reduceSub, Nat.reduceMul, Nat.reduceLeDiff, Nat.reduceLT, reduceCtorEq, Int.reduceEq, Int.reduceLT, Int.reduceLE, Int.reduceAdd, Int.reduceSub, Int.reduceMul, Int.reduceNeg, Int.reduceToNat, c_iniwrite_wrong_1]
theorem slices_IndexFunc_api_Prefix_s {h : Heap} (hw : WF h) {g : GS (TPrefix)} {fn : Nat} {fs cs : List AV} {P : TPrefix → Bool} (hb : g.l.length ≤ 1073741824) (hfs : mentL fs ≤ h.length) (hcs : mentL cs ≤ h.length)
    (hP : ∀ x ∈ g.l, calling tb (den tb) h fn (fs ++ (.agg x.c :: cs)) = some (.b (P x), some h)) :
    calling tb (den tb) h fn_slices_IndexFunc_api_Prefix [slv 18 TPrefix.c g, .fn (.func fn) fs cs] = some (.i .i64 (match g.l.findIdx? P with | some i => (i : Int) | none => -1), some h) := by
  rw [go_fn f_slices_IndexFunc_api_Prefix]
  let S : Nat → Fr × Heap := fun i => ([(0, slv 18 TPrefix.c g), (1, .fn (.func fn) fs cs), (7, .i .i64 (g.l.length : Nat)), (8, .i .i64 (i : Nat))], h)
  have loop := lp_scan (F := round [0, 1, 7, 8] (exec tb (den tb) c_slices_IndexFunc_api_Prefix_l0)) S g.l.length (fun i => !((g.l[i]?).any P)) (fun i r => ∃ f, r = (.ret, f, h) ∧ get f 4 = .i .i64 (i : Nat))
    (by
      intro i hi hp
      have hw1 := wrap64 (n := (i : Int) + 1) (by omega) (by omega)
      have hx := hP g.l[i] (List.getElem_mem hi)
      have hp' : P g.l[i] = false := by simpa [hi] using hp
      simp only [S]
      simp -implicitDefEqProofs (maxSteps := 4000000) (disch := first | omega | (simp only [go_sem, WF, List.length_take] <;> omega) | fail) only [go_sem, ↓reduceIte, Nat.reduceEqDiff, Nat.reduceAdd, Nat.reduceSub, Nat.reduceMul, Nat.reduceLeDiff, Nat.reduceLT, reduceCtorEq, Int.reduceEq, Int.reduceLT, Int.reduceLE, Int.reduceAdd, Int.reduceSub, Int.reduceMul, Int.reduceNeg, Int.reduceToNat, c_slices_IndexFunc_api_Prefix_l0, slv_ia hi, hx, hp', hw1])
    (by
      intro i hi hp
      have hx := hP g.l[i] (List.getElem_mem hi)
      have hp' : P g.l[i] = true := by simpa [hi] using hp
      simp only [S]
      simp -implicitDefEqProofs (maxSteps := 4000000) (disch := first | omega | (simp only [go_sem, WF, List.length_take] <;> omega) | fail) only [go_sem, ↓reduceIte, Nat.reduceEqDiff, Nat.reduceAdd, Nat.reduceSub, Nat.reduceMul, Nat.reduceLeDiff, Nat.reduceLT, reduceCtorEq, Int.reduceEq, Int.reduceLT, Int.reduceLE, Int.reduceAdd, Int.reduceSub, Int.reduceMul, Int.reduceNeg, Int.reduceToNat, c_slices_IndexFunc_api_Prefix_l0, slv_ia hi, hx, hp']
      exact ⟨_, rfl, by simp, _, rfl, rfl⟩)
  simp only [S, Int.cast_ofNat_Int] at loop
  rcases loop with ⟨hall, loop⟩ | ⟨i, hi, hp, hj, r, loop, _, f, rfl, hg⟩
  · have e : g.l.findIdx? P = none := by
      rw [List.findIdx?_eq_none_iff]
      intro x hx
      obtain ⟨i, hi, rfl⟩ := List.getElem_of_mem hx
      simpa [hi] using hall i hi
    rw [e]
    simp -implicitDefEqProofs (maxSteps := 4000000) (disch := first | omega | (simp only [go_sem, WF, List.length_take] <;> omega) | fail) only [go_sem, ↓reduceIte, Nat.reduceEqDiff, Nat.reduceAdd, Nat.reduceSub, Nat.reduceMul, Nat.reduceLeDiff, Nat.reduceLT, reduceCtorEq, Int.reduceEq, Int.reduceLT, Int.reduceLE, Int.reduceAdd, Int.reduceSub, Int.reduceMul, Int.reduceNeg, Int.reduceToNat, c_slices_IndexFunc_api_Prefix, loop]
    simp -implicitDefEqProofs (maxSteps := 4000000) (disch := first | omega | (simp only [go_sem, WF, List.length_take] <;> omega) | fail) only [go_sem, ↓reduceIte, Nat.reduceEqDiff, Nat.reduceAdd, Nat.reduceSub, Nat.reduceMul, Nat.reduceLeDiff, Nat.reduceLT, reduceCtorEq, Int.reduceEq, Int.reduceLT, Int.reduceLE, Int.reduceAdd, Int.reduceSub, Int.reduceMul, Int.reduceNeg, Int.reduceToNat, c_slices_IndexFunc_api_Prefix_l0]
  · have e : g.l.findIdx? P = some i := by
      rw [List.findIdx?_eq_some_iff_getElem]
      refine ⟨hi, by simpa [hi] using hp, fun j hji => ?_⟩
      have := hj j hji
      have hjl : j < g.l.length := by omega
      simpa [hjl] using this
    rw [e]
    simp -implicitDefEqProofs (maxSteps := 4000000) (disch := first | omega | (simp only [go_sem, WF, List.length_take] <;> omega) | fail) only [go_sem, ↓reduceIte, Nat.reduceEqDiff, Nat.reduceAdd, Nat.reduceSub, Nat.reduceMul, Nat.reduceLeDiff, Nat.reduceLT, reduceCtorEq, Int.reduceEq, Int.reduceLT, Int.reduceLE, Int.reduceAdd, Int.reduceSub, Int.reduceMul, Int.reduceNeg, Int.reduceToNat, c_slices_IndexFunc_api_Prefix, loop, hg]
theorem slices_ContainsFunc_api_Prefix_s {h : Heap} (hw : WF h) {g : GS (TPrefix)} {fn : Nat} {fs cs : List AV} {P : TPrefix → Bool} (hb : g.l.length ≤ 1073741824) (hfs : mentL fs ≤ h.length) (hcs : mentL cs ≤ h.length)
    (hP : ∀ x ∈ g.l, calling tb (den tb) h fn (fs ++ (.agg x.c :: cs)) = some (.b (P x), some h)) :
    calling tb (den tb) h fn_slices_ContainsFunc_api_Prefix [slv 18 TPrefix.c g, .fn (.func fn) fs cs] = some (.b (g.l.any P), some h) := by
  rw [go_fn f_slices_ContainsFunc_api_Prefix]
  have hi := slices_IndexFunc_api_Prefix_s hw hb hfs hcs hP
  simp -implicitDefEqProofs (maxSteps := 4000000) (disch := first | omega | (simp only [go_sem, WF, List.length_take] <;> omega) | fail) only [go_sem, ↓reduceIte, Nat.reduceEqDiff, Nat.reduceAdd, Nat.reduceSub, Nat.reduceMul, Nat.reduceLeDiff, Nat.reduceLT, reduceCtorEq, Int.reduceEq, Int.reduceLT, Int.reduceLE, Int.reduceAdd, Int.reduceSub, Int.reduceMul, Int.reduceNeg, Int.reduceToNat, c_slices_ContainsFunc_api_Prefix, hi]
  cases e : g.l.findIdx? P with
  | none =>
    rw [List.findIdx?_eq_none_iff] at e
    have : g.l.any P = false := by rw [List.any_eq_false]; intro x hx; rw [e x hx]; simp
    rw [this]; rfl
  | some i =>
    obtain ⟨hl, hp, _⟩ := List.findIdx?_eq_some_iff_getElem.1 e
    have : g.l.any P = true := List.any_eq_true.2 ⟨_, List.getElem_mem hl, hp⟩
    rw [this]
    simp

theorem slices_IndexFunc_api_IniPeer_s {h : Heap} (hw : WF h) {g : GS (TIniPeer)} {fn : Nat} {fs cs : List AV} {P : TIniPeer → Bool} (hb : g.l.length ≤ 1073741824) (hfs : mentL fs ≤ h.length) (hcs : mentL cs ≤ h.length)
    (hP : ∀ x ∈ g.l, calling tb (den tb) h fn (fs ++ (.agg x.c :: cs)) = some (.b (P x), some h)) :
    calling tb (den tb) h fn_slices_IndexFunc_api_IniPeer [slv 84 TIniPeer.c g, .fn (.func fn) fs cs] = some (.i .i64 (match g.l.findIdx? P with | some i => (i : Int) | none => -1), some h) := by
  rw [go_fn f_slices_IndexFunc_api_IniPeer]
  let S : Nat → Fr × Heap := fun i => ([(0, slv 84 TIniPeer.c g), (1, .fn (.func fn) fs cs), (7, .i .i64 (g.l.length : Nat)), (8, .i .i64 (i : Nat))], h)
  have loop := lp_scan (F := round [0, 1, 7, 8] (exec tb (den tb) c_slices_IndexFunc_api_IniPeer_l0)) S g.l.length (fun i => !((g.l[i]?).any P)) (fun i r => ∃ f, r = (.ret, f, h) ∧ get f 4 = .i .i64 (i : Nat))
    (by
      intro i hi hp
      have hw1 := wrap64 (n := (i : Int) + 1) (by omega) (by omega)
      have hx := hP g.l[i] (List.getElem_mem hi)
      have hp' : P g.l[i] = false := by simpa [hi] using hp
      simp only [S]
      simp -implicitDefEqProofs (maxSteps := 4000000) (disch := first | omega | (simp only [go_sem, WF, List.length_take] <;> omega) | fail) only [go_sem, ↓reduceIte, Nat.reduceEqDiff, Nat.reduceAdd, Nat.reduceSub, Nat.reduceMul, Nat.reduceLeDiff, Nat.reduceLT, reduceCtorEq, Int.reduceEq, Int.reduceLT, Int.reduceLE, Int.reduceAdd, Int.reduceSub, Int.reduceMul, Int.reduceNeg, Int.reduceToNat, c_slices_IndexFunc_api_IniPeer_l0, slv_ia hi, hx, hp', hw1])
    (by
      intro i hi hp
      have hx := hP g.l[i] (List.getElem_mem hi)
      have hp' : P g.l[i] = true := by simpa [hi] using hp
      simp only [S]
      simp -implicitDefEqProofs (maxSteps := 4000000) (disch := first | omega | (simp only [go_sem, WF, List.length_take] <;> omega) | fail) only [go_sem, ↓reduceIte, Nat.reduceEqDiff, Nat.reduceAdd, Nat.reduceSub, Nat.reduceMul, Nat.reduceLeDiff, Nat.reduceLT, reduceCtorEq, Int.reduceEq, Int.reduceLT, Int.reduceLE, Int.reduceAdd, Int.reduceSub, Int.reduceMul, Int.reduceNeg, Int.reduceToNat, c_slices_IndexFunc_api_IniPeer_l0, slv_ia hi, hx, hp']
      exact ⟨_, rfl, by simp, _, rfl, rfl⟩)
  simp only [S, Int.cast_ofNat_Int] at loop
  rcases loop with ⟨hall, loop⟩ | ⟨i, hi, hp, hj, r, loop, _, f, rfl, hg⟩
  · have e : g.l.findIdx? P = none := by
      rw [List.findIdx?_eq_none_iff]
      intro x hx
      obtain ⟨i, hi, rfl⟩ := List.getElem_of_mem hx
      simpa [hi] using hall i hi
    rw [e]
    simp -implicitDefEqProofs (maxSteps := 4000000) (disch := first | omega | (simp only [go_sem, WF, List.length_take] <;> omega) | fail) only [go_sem, ↓reduceIte, Nat.reduceEqDiff, Nat.reduceAdd, Nat.reduceSub, Nat.reduceMul, Nat.reduceLeDiff, Nat.reduceLT, reduceCtorEq, Int.reduceEq, Int.reduceLT, Int.reduceLE, Int.reduceAdd, Int.reduceSub, Int.reduceMul, Int.reduceNeg, Int.reduceToNat, c_slices_IndexFunc_api_IniPeer, loop]
    simp -implicitDefEqProofs (maxSteps := 4000000) (disch := first | omega | (simp only [go_sem, WF, List.length_take] <;> omega) | fail) only [go_sem, ↓reduceIte, Nat.reduceEqDiff, Nat.reduceAdd, Nat.reduceSub, Nat.reduceMul, Nat.reduceLeDiff, Nat.reduceLT, reduceCtorEq, Int.reduceEq, Int.reduceLT, Int.reduceLE, Int.reduceAdd, Int.reduceSub, Int.reduceMul, Int.reduceNeg, Int.reduceToNat, c_slices_IndexFunc_api_IniPeer_l0]
  · have e : g.l.findIdx? P = some i := by
      rw [List.findIdx?_eq_some_iff_getElem]
      refine ⟨hi, by simpa [hi] using hp, fun j hji => ?_⟩
      have := hj j hji
      have hjl : j < g.l.length := by omega
      simpa [hjl] using this
    rw [e]
    simp -implicitDefEqProofs (maxSteps := 4000000) (disch := first | omega | (simp only [go_sem, WF, List.length_take] <;> omega) | fail) only [go_sem, ↓reduceIte, Nat.reduceEqDiff, Nat.reduceAdd, Nat.reduceSub, Nat.reduceMul, Nat.reduceLeDiff, Nat.reduceLT, reduceCtorEq, Int.reduceEq, Int.reduceLT, Int.reduceLE, Int.reduceAdd, Int.reduceSub, Int.reduceMul, Int.reduceNeg, Int.reduceToNat, c_slices_IndexFunc_api_IniPeer, loop, hg]
theorem slices_ContainsFunc_api_IniPeer_s {h : Heap} (hw : WF h) {g : GS (TIniPeer)} {fn : Nat} {fs cs : List AV} {P : TIniPeer → Bool} (hb : g.l.length ≤ 1073741824) (hfs : mentL fs ≤ h.length) (hcs : mentL cs ≤ h.length)
    (hP : ∀ x ∈ g.l, calling tb (den tb) h fn (fs ++ (.agg x.c :: cs)) = some (.b (P x), some h)) :
    calling tb (den tb) h fn_slices_ContainsFunc_api_IniPeer [slv 84 TIniPeer.c g, .fn (.func fn) fs cs] = some (.b (g.l.any P), some h) := by
  rw [go_fn f_slices_ContainsFunc_api_IniPeer]
  have hi := slices_IndexFunc_api_IniPeer_s hw hb hfs hcs hP
  simp -implicitDefEqProofs (maxSteps := 4000000) (disch := first | omega | (simp only [go_sem, WF, List.length_take] <;> omega) | fail) only [go_sem, ↓reduceIte, Nat.reduceEqDiff, Nat.reduceAdd, Nat.reduceSub, Nat.reduceMul, Nat.reduceLeDiff, Nat.reduceLT, reduceCtorEq, Int.reduceEq, Int.reduceLT, Int.reduceLE, Int.reduceAdd, Int.reduceSub, Int.reduceMul, Int.reduceNeg, Int.reduceToNat, c_slices_ContainsFunc_api_IniPeer, hi]
  cases e : g.l.findIdx? P with
  | none =>
    rw [List.findIdx?_eq_none_iff] at e
    have : g.l.any P = false := by rw [List.any_eq_false]; intro x hx; rw [e x hx]; simp
    rw [this]; rfl
  | some i =>
    obtain ⟨hl, hp, _⟩ := List.findIdx?_eq_some_iff_getElem.1 e
    have : g.l.any P = true := List.any_eq_true.2 ⟨_, List.getElem_mem hl, hp⟩
    rw [this]
    simp

end Go.Proofs.Ytggdinpopddhnaa.Am
