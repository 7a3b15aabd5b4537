/-
  What the functions come to: files and configurations, said and compared.
-/
import Derived.Test.YtggdinpopddhnaaAmS4
set_option linter.unusedSimpArgs false
set_option linter.unusedVariables false
set_option maxRecDepth 100000
namespace Go.Proofs.Ytggdinpopddhnaa.Am

def TIniPeer.wrong (p : TIniPeer) : Bool := decide (p.Key = Bs.z 32) || (!short16 p.Keep || (decide (64 < p.Allowed.l.length) || ((!decide (p.End = TEndpoint.z) && !p.End.ok) || p.Allowed.l.any fun q => !q.ok)))
theorem iniwrite_wrong_s {h : Heap} (hw : WF h) {p : TIniPeer} (hb : p.Allowed.l.length ≤ 1073741824) : calling tb (den tb) h fn_iniwrite_wrong [.agg p.c] = some (.b p.wrong, some h) := by
  rw [go_fn f_iniwrite_wrong]
  unfold TIniPeer.wrong
  have hc := fun (h : Heap) (hw : WF h) => slices_ContainsFunc_api_Prefix_s hw (g := p.Allowed) (fn := fn_iniwrite_wrong_1) (fs := []) (cs := []) (P := fun q => !q.ok) hb (by simp [mentL]) (by simp [mentL]) fun x _ => iniwrite_wrong_1_s hw
  by_cases h1 : p.Key = Bs.z 32
  · simp -implicitDefEqProofs (maxSteps := 4000000) (disch := first | omega | (simp only [go_sem, WF, List.length_take] <;> omega) | fail) only [go_sem, ↓reduceIte, Nat.reduceEqDiff, Nat.reduceAdd, Nat.reduceSub, Nat.reduceMul, Nat.reduceLeDiff, Nat.reduceLT, reduceCtorEq, Int.reduceEq, Int.reduceLT, Int.reduceLE, Int.reduceAdd, Int.reduceSub, Int.reduceMul, Int.reduceNeg, Int.reduceToNat, c_iniwrite_wrong, h1]
  · cases h2 : short16 p.Keep
    · simp -implicitDefEqProofs (maxSteps := 4000000) (disch := first | omega | (simp only [go_sem, WF, List.length_take] <;> omega) | fail) only [go_sem, ↓reduceIte, Nat.reduceEqDiff, Nat.reduceAdd, Nat.reduceSub, Nat.reduceMul, Nat.reduceLeDiff, Nat.reduceLT, reduceCtorEq, Int.reduceEq, Int.reduceLT, Int.reduceLE, Int.reduceAdd, Int.reduceSub, Int.reduceMul, Int.reduceNeg, Int.reduceToNat, c_iniwrite_wrong, h1, h2]
    · by_cases h3 : 64 < p.Allowed.l.length
      · have h3' : (p.Allowed.l.length : Int) > 64 := by omega
        simp -implicitDefEqProofs (maxSteps := 4000000) (disch := first | omega | (simp only [go_sem, WF, List.length_take] <;> omega) | fail) only [go_sem, ↓reduceIte, Nat.reduceEqDiff, Nat.reduceAdd, Nat.reduceSub, Nat.reduceMul, Nat.reduceLeDiff, Nat.reduceLT, reduceCtorEq, Int.reduceEq, Int.reduceLT, Int.reduceLE, Int.reduceAdd, Int.reduceSub, Int.reduceMul, Int.reduceNeg, Int.reduceToNat, c_iniwrite_wrong, h1, h2, h3, h3']
      · have h3' : ¬ (64 : Int) < (p.Allowed.l.length : Int) := by omega
        by_cases h4 : p.End = TEndpoint.z
        · simp -implicitDefEqProofs (maxSteps := 4000000) (disch := first | omega | (simp only [go_sem, WF, List.length_take] <;> omega) | fail) only [go_sem, ↓reduceIte, Nat.reduceEqDiff, Nat.reduceAdd, Nat.reduceSub, Nat.reduceMul, Nat.reduceLeDiff, Nat.reduceLT, reduceCtorEq, Int.reduceEq, Int.reduceLT, Int.reduceLE, Int.reduceAdd, Int.reduceSub, Int.reduceMul, Int.reduceNeg, Int.reduceToNat, c_iniwrite_wrong, h1, h2, h3, h3', h4, hc]
        · cases h5 : p.End.ok
          · simp -implicitDefEqProofs (maxSteps := 4000000) (disch := first | omega | (simp only [go_sem, WF, List.length_take] <;> omega) | fail) only [go_sem, ↓reduceIte, Nat.reduceEqDiff, Nat.reduceAdd, Nat.reduceSub, Nat.reduceMul, Nat.reduceLeDiff, Nat.reduceLT, reduceCtorEq, Int.reduceEq, Int.reduceLT, Int.reduceLE, Int.reduceAdd, Int.reduceSub, Int.reduceMul, Int.reduceNeg, Int.reduceToNat, c_iniwrite_wrong, h1, h2, h3, h3', h4, h5, hc]
          · simp -implicitDefEqProofs (maxSteps := 4000000) (disch := first | omega | (simp only [go_sem, WF, List.length_take] <;> omega) | fail) only [go_sem, ↓reduceIte, Nat.reduceEqDiff, Nat.reduceAdd, Nat.reduceSub, Nat.reduceMul, Nat.reduceLeDiff, Nat.reduceLT, reduceCtorEq, Int.reduceEq, Int.reduceLT, Int.reduceLE, Int.reduceAdd, Int.reduceSub, Int.reduceMul, Int.reduceNeg, Int.reduceToNat, c_iniwrite_wrong, h1, h2, h3, h3', h4, h5, hc]
def TIni.right (x : TIni) : Bool := short16 x.Port && (decide (x.Peers.l.length ≤ 64) && !x.Peers.l.any TIniPeer.wrong)
theorem iniwrite_Right_s {h : Heap} (hw : WF h) {x : TIni} (hb : x.Peers.l.length ≤ 1073741824) (hc : ∀ p ∈ x.Peers.l, p.Allowed.l.length ≤ 1073741824) : calling tb (den tb) h fn_iniwrite_Right [.agg x.c] = some (.b x.right, some h) := by
  rw [go_fn f_iniwrite_Right]
  unfold TIni.right
  have hc := fun (h : Heap) (hw : WF h) => slices_ContainsFunc_api_IniPeer_s hw (g := x.Peers) (fn := fn_iniwrite_wrong) (fs := []) (cs := []) (P := TIniPeer.wrong) hb (by simp [mentL]) (by simp [mentL]) fun p hp => iniwrite_wrong_s hw (hc p hp)
  cases h1 : short16 x.Port
  · simp -implicitDefEqProofs (maxSteps := 4000000) (disch := first | omega | (simp only [go_sem, WF, List.length_take] <;> omega) | fail) only [go_sem, ↓reduceIte, Nat.reduceEqDiff, Nat.reduceAdd, Nat.reduceSub, Nat.reduceMul, Nat.reduceLeDiff, Nat.reduceLT, reduceCtorEq, Int.reduceEq, Int.reduceLT, Int.reduceLE, Int.reduceAdd, Int.reduceSub, Int.reduceMul, Int.reduceNeg, Int.reduceToNat, c_iniwrite_Right, h1]
  · by_cases h2 : x.Peers.l.length ≤ 64
    · have h2' : (x.Peers.l.length : Int) ≤ 64 := by omega
      simp -implicitDefEqProofs (maxSteps := 4000000) (disch := first | omega | (simp only [go_sem, WF, List.length_take] <;> omega) | fail) only [go_sem, ↓reduceIte, Nat.reduceEqDiff, Nat.reduceAdd, Nat.reduceSub, Nat.reduceMul, Nat.reduceLeDiff, Nat.reduceLT, reduceCtorEq, Int.reduceEq, Int.reduceLT, Int.reduceLE, Int.reduceAdd, Int.reduceSub, Int.reduceMul, Int.reduceNeg, Int.reduceToNat, c_iniwrite_Right, h1, h2, h2', hc]
    · have h2' : ¬ (x.Peers.l.length : Int) ≤ 64 := by omega
      simp -implicitDefEqProofs (maxSteps := 4000000) (disch := first | omega | (simp only [go_sem, WF, List.length_take] <;> omega) | fail) only [go_sem, ↓reduceIte, Nat.reduceEqDiff, Nat.reduceAdd, Nat.reduceSub, Nat.reduceMul, Nat.reduceLeDiff, Nat.reduceLT, reduceCtorEq, Int.reduceEq, Int.reduceLT, Int.reduceLE, Int.reduceAdd, Int.reduceSub, Int.reduceMul, Int.reduceNeg, Int.reduceToNat, c_iniwrite_Right, h1, h2, h2', hc]

theorem all_of_scan {α : Type} {l : List α} {f : α → Bool} (h : ∀ i, i < l.length → (l[i]?).all f = true) : l.all f = true := by
  rw [List.all_eq_true]
  intro x hx
  obtain ⟨i, hi, rfl⟩ := List.getElem_of_mem hx
  simpa [hi] using h i hi
theorem not_all_of_scan {α : Type} {l : List α} {f : α → Bool} {i : Nat} (hi : i < l.length) (h : (l[i]?).all f = false) : l.all f = false := by
  rw [List.all_eq_false]
  exact ⟨l[i], List.getElem_mem hi, by simpa [hi] using h⟩

def TConf.large (c : TConf) : Bool := decide (20 < c.Peers.l.length) || !c.Peers.l.all fun p => decide (p.Allowed.l.length ≤ 80)
theorem r34_Large_s {h : Heap} (hw : WF h) {c : TConf} : calling tb (den tb) h fn_r34_Large [.agg c.c] = some (.b c.large, some h) := by
  rw [go_fn f_r34_Large]
  unfold TConf.large
  by_cases h1 : 20 < c.Peers.l.length
  · have h1' : (c.Peers.l.length : Int) > 20 := by omega
    simp -implicitDefEqProofs (maxSteps := 4000000) (disch := first | omega | (simp only [go_sem, WF, List.length_take] <;> omega) | fail) only [go_sem, ↓reduceIte, Nat.reduceEqDiff, Nat.reduceAdd, Nat.reduceSub, Nat.reduceMul, Nat.reduceLeDiff, Nat.reduceLT, reduceCtorEq, Int.reduceEq, Int.reduceLT, Int.reduceLE, Int.reduceAdd, Int.reduceSub, Int.reduceMul, Int.reduceNeg, Int.reduceToNat, c_r34_Large, h1, h1']
  · have h1' : ¬ (20 : Int) < (c.Peers.l.length : Int) := by omega
    let S : Nat → Fr × Heap := fun i => ([(1, .ptr h.length 0), (3, .i .i64 (i : Nat))], h ++ [.cells c.c])
    have loop := lp_scan (F := round [1, 3] (exec tb (den tb) c_r34_Large_l0)) S c.Peers.l.length (fun i => (c.Peers.l[i]?).all fun p => decide (p.Allowed.l.length ≤ 80)) (fun _ r => ∃ f X, r = (.ret, f, h ++ X) ∧ get f 2 = .b true)
      (by
        intro i hi hp
        have hp' : c.Peers.l[i].Allowed.l.length ≤ 80 := by simpa [hi] using hp
        have hp2 : ¬ (80 : Int) < (c.Peers.l[i].Allowed.l.length : Int) := by omega
        have hw1 := wrap64 (n := (i : Int) + 1) (by omega) (by omega)
        simp only [S]
        simp -implicitDefEqProofs (maxSteps := 4000000) (disch := first | omega | (simp only [go_sem, WF, List.length_take] <;> omega) | fail) only [go_sem, ↓reduceIte, Nat.reduceEqDiff, Nat.reduceAdd, Nat.reduceSub, Nat.reduceMul, Nat.reduceLeDiff, Nat.reduceLT, reduceCtorEq, Int.reduceEq, Int.reduceLT, Int.reduceLE, Int.reduceAdd, Int.reduceSub, Int.reduceMul, Int.reduceNeg, Int.reduceToNat, c_r34_Large_l0, slv_ia hi, hp2, hw1])
      (by
        intro i hi hp
        have hp' : 80 < c.Peers.l[i].Allowed.l.length := by simpa [hi] using hp
        have hp2 : (80 : Int) < (c.Peers.l[i].Allowed.l.length : Int) := by omega
        simp only [S]
        simp -implicitDefEqProofs (maxSteps := 4000000) (disch := first | omega | (simp only [go_sem, WF, List.length_take] <;> omega) | fail) only [go_sem, ↓reduceIte, Nat.reduceEqDiff, Nat.reduceAdd, Nat.reduceSub, Nat.reduceMul, Nat.reduceLeDiff, Nat.reduceLT, reduceCtorEq, Int.reduceEq, Int.reduceLT, Int.reduceLE, Int.reduceAdd, Int.reduceSub, Int.reduceMul, Int.reduceNeg, Int.reduceToNat, c_r34_Large_l0, slv_ia hi, hp2]
        exact ⟨_, rfl, by simp, _, _, rfl, rfl⟩)
    simp only [S, Int.cast_ofNat_Int] at loop
    rcases loop with ⟨hall, loop⟩ | ⟨i, hi, hp, hj, r, loop, _, f, X, rfl, hg⟩
    · have e := all_of_scan hall
      simp -implicitDefEqProofs (maxSteps := 4000000) (disch := first | omega | (simp only [go_sem, WF, List.length_take] <;> omega) | fail) only [go_sem, ↓reduceIte, Nat.reduceEqDiff, Nat.reduceAdd, Nat.reduceSub, Nat.reduceMul, Nat.reduceLeDiff, Nat.reduceLT, reduceCtorEq, Int.reduceEq, Int.reduceLT, Int.reduceLE, Int.reduceAdd, Int.reduceSub, Int.reduceMul, Int.reduceNeg, Int.reduceToNat, c_r34_Large, h1, h1', e, loop]
      simp -implicitDefEqProofs (maxSteps := 4000000) (disch := first | omega | (simp only [go_sem, WF, List.length_take] <;> omega) | fail) only [go_sem, ↓reduceIte, Nat.reduceEqDiff, Nat.reduceAdd, Nat.reduceSub, Nat.reduceMul, Nat.reduceLeDiff, Nat.reduceLT, reduceCtorEq, Int.reduceEq, Int.reduceLT, Int.reduceLE, Int.reduceAdd, Int.reduceSub, Int.reduceMul, Int.reduceNeg, Int.reduceToNat, c_r34_Large_l0]
    · have e := not_all_of_scan hi hp
      simp -implicitDefEqProofs (maxSteps := 4000000) (disch := first | omega | (simp only [go_sem, WF, List.length_take] <;> omega) | fail) only [go_sem, ↓reduceIte, Nat.reduceEqDiff, Nat.reduceAdd, Nat.reduceSub, Nat.reduceMul, Nat.reduceLeDiff, Nat.reduceLT, reduceCtorEq, Int.reduceEq, Int.reduceLT, Int.reduceLE, Int.reduceAdd, Int.reduceSub, Int.reduceMul, Int.reduceNeg, Int.reduceToNat, c_r34_Large, h1, h1', e, loop, hg]

@[go_sem] theorem r11_Same_s {h : Heap} (hw : WF h) {a b : GS TPrefix} (ha : a.l.length ≤ 1073741824) : calling tb (den tb) h fn_r11_Same [slv 18 TPrefix.c a, slv 18 TPrefix.c b] = some (.b (decide (a.l = b.l)), some h) := by
  rw [go_fn f_r11_Same]
  by_cases hl : a.l.length = b.l.length
  · have hl' : ((a.l.length : Int) = (b.l.length : Int)) := by omega
    let S : Nat → Fr × Heap := fun i => ([(0, slv 18 TPrefix.c a), (1, slv 18 TPrefix.c b), (5, .i .i64 (i : Nat))], h)
    have loop := lp_scan (F := round [0, 1, 5] (exec tb (den tb) c_r11_Same_l0)) S a.l.length (fun i => decide (a.l[i]? = b.l[i]?)) (fun _ r => ∃ f, r = (.ret, f, h) ∧ get f 4 = .b false)
      (by
        intro i hi hp
        have hi2 : i < b.l.length := by omega
        have hp' : a.l[i] = b.l[i] := by simpa [hi, hi2] using hp
        have hw1 := wrap64 (n := (i : Int) + 1) (by omega) (by omega)
        simp only [S]
        simp -implicitDefEqProofs (maxSteps := 4000000) (disch := first | omega | (simp only [go_sem, WF, List.length_take] <;> omega) | fail) only [go_sem, ↓reduceIte, Nat.reduceEqDiff, Nat.reduceAdd, Nat.reduceSub, Nat.reduceMul, Nat.reduceLeDiff, Nat.reduceLT, reduceCtorEq, Int.reduceEq, Int.reduceLT, Int.reduceLE, Int.reduceAdd, Int.reduceSub, Int.reduceMul, Int.reduceNeg, Int.reduceToNat, c_r11_Same_l0, slv_ia hi, slv_ia hi2, hp', hw1])
      (by
        intro i hi hp
        have hi2 : i < b.l.length := by omega
        have hp' : ¬ a.l[i] = b.l[i] := by simpa [hi, hi2] using hp
        simp only [S]
        simp -implicitDefEqProofs (maxSteps := 4000000) (disch := first | omega | (simp only [go_sem, WF, List.length_take] <;> omega) | fail) only [go_sem, ↓reduceIte, Nat.reduceEqDiff, Nat.reduceAdd, Nat.reduceSub, Nat.reduceMul, Nat.reduceLeDiff, Nat.reduceLT, reduceCtorEq, Int.reduceEq, Int.reduceLT, Int.reduceLE, Int.reduceAdd, Int.reduceSub, Int.reduceMul, Int.reduceNeg, Int.reduceToNat, c_r11_Same_l0, slv_ia hi, slv_ia hi2, hp']
        exact ⟨_, rfl, by simp, _, rfl, rfl⟩)
    simp only [S, Int.cast_ofNat_Int] at loop
    rcases loop with ⟨hall, loop⟩ | ⟨i, hi, hp, hj, r, loop, _, f, rfl, hg⟩
    · have e : a.l = b.l := by
        apply List.ext_getElem?
        intro i
        by_cases hi : i < a.l.length
        · simpa using hall i hi
        · rw [List.getElem?_eq_none (by omega), List.getElem?_eq_none (by omega)]
      have e' : decide (a.l = b.l) = true := decide_eq_true e
      rw [e']
      simp -implicitDefEqProofs (maxSteps := 4000000) (disch := first | omega | (simp only [go_sem, WF, List.length_take] <;> omega) | fail) only [go_sem, ↓reduceIte, Nat.reduceEqDiff, Nat.reduceAdd, Nat.reduceSub, Nat.reduceMul, Nat.reduceLeDiff, Nat.reduceLT, reduceCtorEq, Int.reduceEq, Int.reduceLT, Int.reduceLE, Int.reduceAdd, Int.reduceSub, Int.reduceMul, Int.reduceNeg, Int.reduceToNat, c_r11_Same, hl', loop]
      simp -implicitDefEqProofs (maxSteps := 4000000) (disch := first | omega | (simp only [go_sem, WF, List.length_take] <;> omega) | fail) only [go_sem, ↓reduceIte, Nat.reduceEqDiff, Nat.reduceAdd, Nat.reduceSub, Nat.reduceMul, Nat.reduceLeDiff, Nat.reduceLT, reduceCtorEq, Int.reduceEq, Int.reduceLT, Int.reduceLE, Int.reduceAdd, Int.reduceSub, Int.reduceMul, Int.reduceNeg, Int.reduceToNat, c_r11_Same_l0]
    · have e : ¬ a.l = b.l := fun e => by rw [e] at hp; simp at hp
      simp -implicitDefEqProofs (maxSteps := 4000000) (disch := first | omega | (simp only [go_sem, WF, List.length_take] <;> omega) | fail) only [go_sem, ↓reduceIte, Nat.reduceEqDiff, Nat.reduceAdd, Nat.reduceSub, Nat.reduceMul, Nat.reduceLeDiff, Nat.reduceLT, reduceCtorEq, Int.reduceEq, Int.reduceLT, Int.reduceLE, Int.reduceAdd, Int.reduceSub, Int.reduceMul, Int.reduceNeg, Int.reduceToNat, c_r11_Same, hl', e, loop, hg]
  · have hl' : ¬ ((a.l.length : Int) = (b.l.length : Int)) := by omega
    have e : ¬ a.l = b.l := fun e => hl (by rw [e])
    simp -implicitDefEqProofs (maxSteps := 4000000) (disch := first | omega | (simp only [go_sem, WF, List.length_take] <;> omega) | fail) only [go_sem, ↓reduceIte, Nat.reduceEqDiff, Nat.reduceAdd, Nat.reduceSub, Nat.reduceMul, Nat.reduceLeDiff, Nat.reduceLT, reduceCtorEq, Int.reduceEq, Int.reduceLT, Int.reduceLE, Int.reduceAdd, Int.reduceSub, Int.reduceMul, Int.reduceNeg, Int.reduceToNat, c_r11_Same, hl', e]

def TIniPeer.same (x y : TIniPeer) : Bool := decide (x.Key = y.Key) && (decide (x.Psk = y.Psk) && (decide (x.End = y.End) && (decide (x.Keep = y.Keep) && decide (x.Allowed.l = y.Allowed.l))))
def TIni.same (a b : TIni) : Bool := decide (a.Private = b.Private) && (decide (a.Port = b.Port) && (decide (a.Mark = b.Mark) && (decide (a.Peers.l.length = b.Peers.l.length) && (a.Peers.l.zip b.Peers.l).all fun p => p.1.same p.2)))
theorem r43_Same_s {h : Heap} (hw : WF h) {a b : TIni} (hb : a.Peers.l.length ≤ 1073741824) (hc : ∀ p ∈ a.Peers.l, p.Allowed.l.length ≤ 1073741824) : calling tb (den tb) h fn_r43_Same [.agg a.c, .agg b.c] = some (.b (a.same b), some h) := by
  rw [go_fn f_r43_Same]
  unfold TIni.same
  by_cases h1 : a.Private = b.Private
  case neg => simp -implicitDefEqProofs (maxSteps := 4000000) (disch := first | omega | (simp only [go_sem, WF, List.length_take] <;> omega) | fail) only [go_sem, ↓reduceIte, Nat.reduceEqDiff, Nat.reduceAdd, Nat.reduceSub, Nat.reduceMul, Nat.reduceLeDiff, Nat.reduceLT, reduceCtorEq, Int.reduceEq, Int.reduceLT, Int.reduceLE, Int.reduceAdd, Int.reduceSub, Int.reduceMul, Int.reduceNeg, Int.reduceToNat, c_r43_Same, h1]
  by_cases h2 : a.Port = b.Port
  case neg => simp -implicitDefEqProofs (maxSteps := 4000000) (disch := first | omega | (simp only [go_sem, WF, List.length_take] <;> omega) | fail) only [go_sem, ↓reduceIte, Nat.reduceEqDiff, Nat.reduceAdd, Nat.reduceSub, Nat.reduceMul, Nat.reduceLeDiff, Nat.reduceLT, reduceCtorEq, Int.reduceEq, Int.reduceLT, Int.reduceLE, Int.reduceAdd, Int.reduceSub, Int.reduceMul, Int.reduceNeg, Int.reduceToNat, c_r43_Same, h1, h2]
  by_cases h3 : a.Mark = b.Mark
  case neg => simp -implicitDefEqProofs (maxSteps := 4000000) (disch := first | omega | (simp only [go_sem, WF, List.length_take] <;> omega) | fail) only [go_sem, ↓reduceIte, Nat.reduceEqDiff, Nat.reduceAdd, Nat.reduceSub, Nat.reduceMul, Nat.reduceLeDiff, Nat.reduceLT, reduceCtorEq, Int.reduceEq, Int.reduceLT, Int.reduceLE, Int.reduceAdd, Int.reduceSub, Int.reduceMul, Int.reduceNeg, Int.reduceToNat, c_r43_Same, h1, h2, h3]
  by_cases h4 : a.Peers.l.length = b.Peers.l.length
  case neg =>
    have h4' : ¬ (a.Peers.l.length : Int) = (b.Peers.l.length : Int) := by omega
    simp -implicitDefEqProofs (maxSteps := 4000000) (disch := first | omega | (simp only [go_sem, WF, List.length_take] <;> omega) | fail) only [go_sem, ↓reduceIte, Nat.reduceEqDiff, Nat.reduceAdd, Nat.reduceSub, Nat.reduceMul, Nat.reduceLeDiff, Nat.reduceLT, reduceCtorEq, Int.reduceEq, Int.reduceLT, Int.reduceLE, Int.reduceAdd, Int.reduceSub, Int.reduceMul, Int.reduceNeg, Int.reduceToNat, c_r43_Same, h1, h2, h3, h4, h4']
  have h4' : ((a.Peers.l.length : Int) = (b.Peers.l.length : Int)) = True := by simp; omega
  have hz : (a.Peers.l.zip b.Peers.l).length = a.Peers.l.length := by simp; omega
  let S : Nat → Fr × Heap := fun i => ([(2, .ptr h.length 0), (3, .ptr (h.length + 1) 0), (5, .i .i64 (i : Nat))], h ++ [.cells a.c, .cells b.c])
  have loop := lp_scan (F := round [2, 3, 5] (exec tb (den tb) c_r43_Same_l0)) S a.Peers.l.length (fun i => ((a.Peers.l.zip b.Peers.l)[i]?).all fun p => p.1.same p.2) (fun _ r => ∃ f X, r = (.ret, f, h ++ X) ∧ get f 4 = .b false)
    (by
      intro i hi hp
      have hi2 : i < b.Peers.l.length := by omega
      have hzi : (a.Peers.l.zip b.Peers.l)[i]? = some (a.Peers.l[i], b.Peers.l[i]) := by rw [List.getElem?_eq_getElem (by omega)]; simp
      have hp' : a.Peers.l[i].same b.Peers.l[i] = true := by simpa [hzi] using hp
      simp only [TIniPeer.same, Bool.and_eq_true, decide_eq_true_eq] at hp'
      obtain ⟨p1, p2, p3, p4, p5⟩ := hp'
      have hal := hc _ (List.getElem_mem hi)
      have hw1 := wrap64 (n := (i : Int) + 1) (by omega) (by omega)
      simp only [S]
      simp -implicitDefEqProofs (maxSteps := 4000000) (disch := first | omega | (simp only [go_sem, WF, List.length_take] <;> omega) | fail) only [go_sem, ↓reduceIte, Nat.reduceEqDiff, Nat.reduceAdd, Nat.reduceSub, Nat.reduceMul, Nat.reduceLeDiff, Nat.reduceLT, reduceCtorEq, Int.reduceEq, Int.reduceLT, Int.reduceLE, Int.reduceAdd, Int.reduceSub, Int.reduceMul, Int.reduceNeg, Int.reduceToNat, c_r43_Same_l0, slv_ia hi, slv_ia hi2, p1, p2, p3, p4, p5, hw1])
    (by
      intro i hi hp
      have hi2 : i < b.Peers.l.length := by omega
      have hzi : (a.Peers.l.zip b.Peers.l)[i]? = some (a.Peers.l[i], b.Peers.l[i]) := by rw [List.getElem?_eq_getElem (by omega)]; simp
      have hp' : a.Peers.l[i].same b.Peers.l[i] = false := by simpa [hzi] using hp
      have hal := hc _ (List.getElem_mem hi)
      simp only [TIniPeer.same] at hp'
      simp only [S]
      by_cases p1 : a.Peers.l[i].Key = b.Peers.l[i].Key
      case neg =>
        simp -implicitDefEqProofs (maxSteps := 4000000) (disch := first | omega | (simp only [go_sem, WF, List.length_take] <;> omega) | fail) only [go_sem, ↓reduceIte, Nat.reduceEqDiff, Nat.reduceAdd, Nat.reduceSub, Nat.reduceMul, Nat.reduceLeDiff, Nat.reduceLT, reduceCtorEq, Int.reduceEq, Int.reduceLT, Int.reduceLE, Int.reduceAdd, Int.reduceSub, Int.reduceMul, Int.reduceNeg, Int.reduceToNat, c_r43_Same_l0, slv_ia hi, slv_ia hi2, p1]
        exact ⟨_, rfl, by simp, _, _, rfl, rfl⟩
      by_cases p2 : a.Peers.l[i].Psk = b.Peers.l[i].Psk
      case neg =>
        simp -implicitDefEqProofs (maxSteps := 4000000) (disch := first | omega | (simp only [go_sem, WF, List.length_take] <;> omega) | fail) only [go_sem, ↓reduceIte, Nat.reduceEqDiff, Nat.reduceAdd, Nat.reduceSub, Nat.reduceMul, Nat.reduceLeDiff, Nat.reduceLT, reduceCtorEq, Int.reduceEq, Int.reduceLT, Int.reduceLE, Int.reduceAdd, Int.reduceSub, Int.reduceMul, Int.reduceNeg, Int.reduceToNat, c_r43_Same_l0, slv_ia hi, slv_ia hi2, p1, p2]
        exact ⟨_, rfl, by simp, _, _, rfl, rfl⟩
      by_cases p3 : a.Peers.l[i].End = b.Peers.l[i].End
      case neg =>
        simp -implicitDefEqProofs (maxSteps := 4000000) (disch := first | omega | (simp only [go_sem, WF, List.length_take] <;> omega) | fail) only [go_sem, ↓reduceIte, Nat.reduceEqDiff, Nat.reduceAdd, Nat.reduceSub, Nat.reduceMul, Nat.reduceLeDiff, Nat.reduceLT, reduceCtorEq, Int.reduceEq, Int.reduceLT, Int.reduceLE, Int.reduceAdd, Int.reduceSub, Int.reduceMul, Int.reduceNeg, Int.reduceToNat, c_r43_Same_l0, slv_ia hi, slv_ia hi2, p1, p2, p3]
        exact ⟨_, rfl, by simp, _, _, rfl, rfl⟩
      by_cases p4 : a.Peers.l[i].Keep = b.Peers.l[i].Keep
      case neg =>
        simp -implicitDefEqProofs (maxSteps := 4000000) (disch := first | omega | (simp only [go_sem, WF, List.length_take] <;> omega) | fail) only [go_sem, ↓reduceIte, Nat.reduceEqDiff, Nat.reduceAdd, Nat.reduceSub, Nat.reduceMul, Nat.reduceLeDiff, Nat.reduceLT, reduceCtorEq, Int.reduceEq, Int.reduceLT, Int.reduceLE, Int.reduceAdd, Int.reduceSub, Int.reduceMul, Int.reduceNeg, Int.reduceToNat, c_r43_Same_l0, slv_ia hi, slv_ia hi2, p1, p2, p3, p4]
        exact ⟨_, rfl, by simp, _, _, rfl, rfl⟩
      have p5 : ¬ a.Peers.l[i].Allowed.l = b.Peers.l[i].Allowed.l := by simpa [p1, p2, p3, p4] using hp'
      simp -implicitDefEqProofs (maxSteps := 4000000) (disch := first | omega | (simp only [go_sem, WF, List.length_take] <;> omega) | fail) only [go_sem, ↓reduceIte, Nat.reduceEqDiff, Nat.reduceAdd, Nat.reduceSub, Nat.reduceMul, Nat.reduceLeDiff, Nat.reduceLT, reduceCtorEq, Int.reduceEq, Int.reduceLT, Int.reduceLE, Int.reduceAdd, Int.reduceSub, Int.reduceMul, Int.reduceNeg, Int.reduceToNat, c_r43_Same_l0, slv_ia hi, slv_ia hi2, p1, p2, p3, p4, p5]
      exact ⟨_, rfl, by simp, _, _, rfl, rfl⟩)
  simp only [S, Int.cast_ofNat_Int] at loop
  rcases loop with ⟨hall, loop⟩ | ⟨i, hi, hp, hj, r, loop, _, f, X, rfl, hg⟩
  · have e := all_of_scan (l := a.Peers.l.zip b.Peers.l) (by rw [hz]; exact hall)
    simp -implicitDefEqProofs (maxSteps := 4000000) (disch := first | omega | (simp only [go_sem, WF, List.length_take] <;> omega) | fail) only [go_sem, ↓reduceIte, Nat.reduceEqDiff, Nat.reduceAdd, Nat.reduceSub, Nat.reduceMul, Nat.reduceLeDiff, Nat.reduceLT, reduceCtorEq, Int.reduceEq, Int.reduceLT, Int.reduceLE, Int.reduceAdd, Int.reduceSub, Int.reduceMul, Int.reduceNeg, Int.reduceToNat, c_r43_Same, h1, h2, h3, h4', e, loop]
    simp -implicitDefEqProofs (maxSteps := 4000000) (disch := first | omega | (simp only [go_sem, WF, List.length_take] <;> omega) | fail) only [go_sem, ↓reduceIte, Nat.reduceEqDiff, Nat.reduceAdd, Nat.reduceSub, Nat.reduceMul, Nat.reduceLeDiff, Nat.reduceLT, reduceCtorEq, Int.reduceEq, Int.reduceLT, Int.reduceLE, Int.reduceAdd, Int.reduceSub, Int.reduceMul, Int.reduceNeg, Int.reduceToNat, c_r43_Same_l0, h4']
    simp [h4]
  · have e := not_all_of_scan (l := a.Peers.l.zip b.Peers.l) (by rw [hz]; exact hi) hp
    simp -implicitDefEqProofs (maxSteps := 4000000) (disch := first | omega | (simp only [go_sem, WF, List.length_take] <;> omega) | fail) only [go_sem, ↓reduceIte, Nat.reduceEqDiff, Nat.reduceAdd, Nat.reduceSub, Nat.reduceMul, Nat.reduceLeDiff, Nat.reduceLT, reduceCtorEq, Int.reduceEq, Int.reduceLT, Int.reduceLE, Int.reduceAdd, Int.reduceSub, Int.reduceMul, Int.reduceNeg, Int.reduceToNat, c_r43_Same, h1, h2, h3, h4', e, loop, hg]

/-- the files that configurations are -/
def TPeer.ini (p : TPeer) : TIniPeer := ⟨p.Key, p.Psk, p.End, p.Keep, p.Allowed⟩
def TConf.ini (c : TConf) : TIni := ⟨c.Private, c.Port, c.Mark, GS.of (c.Peers.l.map TPeer.ini)⟩
theorem r45_Of_s {h : Heap} (hw : WF h) {c : TConf} (hb : c.Peers.l.length ≤ 1073741824) : calling tb (den tb) h fn_r45_Of [.agg c.c] = some (.agg c.ini.c, some h) := by
  rw [go_fn f_r45_Of]
  let els : Nat → List (List AV) := fun i => (c.Peers.l.take i).map fun x => x.ini.c
  let S : Nat → Fr × Heap := fun i => ([(1, .ptr h.length 0), (2, .ptr (h.length + 1) 0), (3, .ptr (h.length + 2) 0), (4, .i .i64 (i : Nat))],
    h ++ (.cells c.c :: .cells TIni.z.c :: .cells (TIni.cs c.Private c.Port c.Mark (acc (h.length + 3) (els i))) :: accL 84 (els i)))
  have loop := lp_for (F := round [1, 2, 3, 4] (exec tb (den tb) c_r45_Of_l0)) S c.Peers.l.length (by
    intro i hi
    have hE : els (i + 1) = els i ++ [c.Peers.l[i].ini.c] := by simp [els, List.take_add_one, hi]
    have hl : (els i).length = i := by simp [els]; omega
    have hm : mentLL (els i) = 0 := mentLL_map (fun x => TIniPeer.mentL_c) _
    have hw1 := wrap64 (n := (i : Int) + 1) (by omega) (by omega)
    simp only [S]
    rw [hE]
    generalize els i = E at *
    unfold TPeer.ini at *
    rcases E with _ | ⟨e, E⟩ <;> simp only [mentLL, List.length_cons, List.length_nil] at hm hl
    · simp -implicitDefEqProofs (maxSteps := 4000000) (disch := first | omega | (simp only [go_sem, WF, List.length_take] <;> omega) | fail) only [go_sem, ↓reduceIte, Nat.reduceEqDiff, Nat.reduceAdd, Nat.reduceSub, Nat.reduceMul, Nat.reduceLeDiff, Nat.reduceLT, reduceCtorEq, Int.reduceEq, Int.reduceLT, Int.reduceLE, Int.reduceAdd, Int.reduceSub, Int.reduceMul, Int.reduceNeg, Int.reduceToNat, c_r45_Of_l0, slv_ia hi, hw1]
    · simp -implicitDefEqProofs (maxSteps := 4000000) (disch := first | omega | (simp only [go_sem, WF, List.length_take] <;> omega) | fail) only [go_sem, ↓reduceIte, Nat.reduceEqDiff, Nat.reduceAdd, Nat.reduceSub, Nat.reduceMul, Nat.reduceLeDiff, Nat.reduceLT, reduceCtorEq, Int.reduceEq, Int.reduceLT, Int.reduceLE, Int.reduceAdd, Int.reduceSub, Int.reduceMul, Int.reduceNeg, Int.reduceToNat, c_r45_Of_l0, slv_ia hi, hw1])
  have hE : els c.Peers.l.length = (c.Peers.l.map TPeer.ini).map TIniPeer.c := by simp only [els, List.take_length, List.map_map]; rfl
  have h0 : els 0 = [] := rfl
  simp only [S, hE, h0, acc_nil, accL_nil, List.append_nil, Int.cast_ofNat_Int, TIni.fold_nil] at loop
  simp -implicitDefEqProofs (maxSteps := 4000000) (disch := first | omega | (simp only [go_sem, WF, List.length_take] <;> omega) | fail) only [go_sem, ↓reduceIte, Nat.reduceEqDiff, Nat.reduceAdd, Nat.reduceSub, Nat.reduceMul, Nat.reduceLeDiff, Nat.reduceLT, reduceCtorEq, Int.reduceEq, Int.reduceLT, Int.reduceLE, Int.reduceAdd, Int.reduceSub, Int.reduceMul, Int.reduceNeg, Int.reduceToNat, c_r45_Of, loop]
  simp -implicitDefEqProofs (maxSteps := 4000000) (disch := first | omega | (simp only [go_sem, WF, List.length_take] <;> omega) | fail) only [go_sem, ↓reduceIte, Nat.reduceEqDiff, Nat.reduceAdd, Nat.reduceSub, Nat.reduceMul, Nat.reduceLeDiff, Nat.reduceLT, reduceCtorEq, Int.reduceEq, Int.reduceLT, Int.reduceLE, Int.reduceAdd, Int.reduceSub, Int.reduceMul, Int.reduceNeg, Int.reduceToNat, c_r45_Of_l0, TConf.ini]
end Go.Proofs.Ytggdinpopddhnaa.Am
