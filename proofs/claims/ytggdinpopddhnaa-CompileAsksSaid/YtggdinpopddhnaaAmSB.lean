/-
  The law: what any file asks for.
-/
import Derived.Test.YtggdinpopddhnaaAmSA
set_option linter.unusedSimpArgs false
set_option linter.unusedVariables false
set_option maxRecDepth 100000
namespace Go.Proofs.Ytggdinpopddhnaa.Am

theorem any_not {l : List TPrefix} : (l.any fun q => !q.ok) = !(l.all TPrefix.ok) := by
  induction l with
  | nil => rfl
  | cons x l ih => simp only [List.any_cons, List.all_cons, ih, Bool.not_and]
theorem r44_Right_s {h : Heap} (hw : WF h) {x : TIni} (hb : x.Peers.l.length ≤ 1073741824) (hc : ∀ p ∈ x.Peers.l, p.Allowed.l.length ≤ 1073741824) : calling tb (den tb) h fn_r44_Right [.agg x.c] = some (.b x.right, some h) := by
  rw [go_fn f_r44_Right]
  unfold TIni.right
  cases h1 : short16 x.Port
  case false => simp -implicitDefEqProofs (maxSteps := 4000000) (disch := first | omega | (simp only [go_sem, WF, List.length_take] <;> omega) | fail) only [go_sem, ↓reduceIte, Nat.reduceEqDiff, Nat.reduceAdd, Nat.reduceSub, Nat.reduceMul, Nat.reduceLeDiff, Nat.reduceLT, reduceCtorEq, Int.reduceEq, Int.reduceLT, Int.reduceLE, Int.reduceAdd, Int.reduceSub, Int.reduceMul, Int.reduceNeg, Int.reduceToNat, c_r44_Right, h1]
  by_cases h2 : x.Peers.l.length ≤ 64
  case neg =>
    have h2' : (64 : Int) < (x.Peers.l.length : Int) := by omega
    simp -implicitDefEqProofs (maxSteps := 4000000) (disch := first | omega | (simp only [go_sem, WF, List.length_take] <;> omega) | fail) only [go_sem, ↓reduceIte, Nat.reduceEqDiff, Nat.reduceAdd, Nat.reduceSub, Nat.reduceMul, Nat.reduceLeDiff, Nat.reduceLT, reduceCtorEq, Int.reduceEq, Int.reduceLT, Int.reduceLE, Int.reduceAdd, Int.reduceSub, Int.reduceMul, Int.reduceNeg, Int.reduceToNat, c_r44_Right, h1, h2, h2']
  have h2' : ¬ (64 : Int) < (x.Peers.l.length : Int) := by omega
  let S : Nat → Fr × Heap := fun i => ([(1, .ptr h.length 0), (3, .i .i64 (i : Nat))], h ++ [.cells x.c])
  have loop := lp_scan (F := round [1, 3] (exec tb (den tb) c_r44_Right_l1)) S x.Peers.l.length (fun i => (x.Peers.l[i]?).all fun p => !p.wrong) (fun _ r => ∃ f X, r = (.ret, f, h ++ X) ∧ get f 2 = .b false)
    (by
      intro i hi hp
      have hp' : x.Peers.l[i].wrong = false := by simpa [hi] using hp
      have hal := hc _ (List.getElem_mem hi)
      generalize hpp : x.Peers.l[i] = p at *
      simp only [TIniPeer.wrong, Bool.or_eq_false_iff, decide_eq_false_iff_not, Bool.not_eq_false', any_not] at hp'
      obtain ⟨p1, p2, p3, p4, p5⟩ := hp'
      have p3' : ¬ (64 : Int) < (p.Allowed.l.length : Int) := by omega
      have l0 := (r44_l0 hw (x := x) (p := p) (i := i) hal).resolve_right (fun ⟨k, hk, hx, _⟩ => by
        rw [List.getElem?_eq_getElem hk] at hx
        have := List.all_eq_true.1 p5 _ (List.getElem_mem hk)
        simp only [Option.all_some] at hx
        rw [this] at hx; cases hx)
      replace l0 := l0.2
      simp only [S]
      by_cases hz : p.End = TEndpoint.z
      · simp -implicitDefEqProofs (maxSteps := 4000000) (disch := first | omega | (simp only [go_sem, WF, List.length_take] <;> omega) | fail) only [go_sem, ↓reduceIte, Nat.reduceEqDiff, Nat.reduceAdd, Nat.reduceSub, Nat.reduceMul, Nat.reduceLeDiff, Nat.reduceLT, reduceCtorEq, Int.reduceEq, Int.reduceLT, Int.reduceLE, Int.reduceAdd, Int.reduceSub, Int.reduceMul, Int.reduceNeg, Int.reduceToNat, c_r44_Right_l1, slv_ia hi, hpp, p1, p2, p3', hz, l0]
        simp -implicitDefEqProofs (maxSteps := 4000000) (disch := first | omega | (simp only [go_sem, WF, List.length_take] <;> omega) | fail) only [go_sem, ↓reduceIte, Nat.reduceEqDiff, Nat.reduceAdd, Nat.reduceSub, Nat.reduceMul, Nat.reduceLeDiff, Nat.reduceLT, reduceCtorEq, Int.reduceEq, Int.reduceLT, Int.reduceLE, Int.reduceAdd, Int.reduceSub, Int.reduceMul, Int.reduceNeg, Int.reduceToNat, c_r44_Right_l0]
      · have hok : p.End.ok = true := by simpa [hz] using p4
        simp -implicitDefEqProofs (maxSteps := 4000000) (disch := first | omega | (simp only [go_sem, WF, List.length_take] <;> omega) | fail) only [go_sem, ↓reduceIte, Nat.reduceEqDiff, Nat.reduceAdd, Nat.reduceSub, Nat.reduceMul, Nat.reduceLeDiff, Nat.reduceLT, reduceCtorEq, Int.reduceEq, Int.reduceLT, Int.reduceLE, Int.reduceAdd, Int.reduceSub, Int.reduceMul, Int.reduceNeg, Int.reduceToNat, c_r44_Right_l1, slv_ia hi, hpp, p1, p2, p3', hz, hok, l0]
        simp -implicitDefEqProofs (maxSteps := 4000000) (disch := first | omega | (simp only [go_sem, WF, List.length_take] <;> omega) | fail) only [go_sem, ↓reduceIte, Nat.reduceEqDiff, Nat.reduceAdd, Nat.reduceSub, Nat.reduceMul, Nat.reduceLeDiff, Nat.reduceLT, reduceCtorEq, Int.reduceEq, Int.reduceLT, Int.reduceLE, Int.reduceAdd, Int.reduceSub, Int.reduceMul, Int.reduceNeg, Int.reduceToNat, c_r44_Right_l0])
    (by
      intro i hi hp
      have hp' : x.Peers.l[i].wrong = true := by simpa [hi] using hp
      have hal := hc _ (List.getElem_mem hi)
      generalize hpp : x.Peers.l[i] = p at *
      simp only [S]
      by_cases p1 : p.Key = Bs.z 32
      · simp -implicitDefEqProofs (maxSteps := 4000000) (disch := first | omega | (simp only [go_sem, WF, List.length_take] <;> omega) | fail) only [go_sem, ↓reduceIte, Nat.reduceEqDiff, Nat.reduceAdd, Nat.reduceSub, Nat.reduceMul, Nat.reduceLeDiff, Nat.reduceLT, reduceCtorEq, Int.reduceEq, Int.reduceLT, Int.reduceLE, Int.reduceAdd, Int.reduceSub, Int.reduceMul, Int.reduceNeg, Int.reduceToNat, c_r44_Right_l1, slv_ia hi, hpp, p1]
        exact ⟨_, rfl, by simp, _, _, rfl, rfl⟩
      have hcs : (p.End = TEndpoint.z ∨ (¬ p.End = TEndpoint.z ∧ p.End.ok = true)) ∨ (¬ p.End = TEndpoint.z ∧ p.End.ok = false) := by
        by_cases hz : p.End = TEndpoint.z
        · exact .inl (.inl hz)
        · cases hok : p.End.ok
          · exact .inr ⟨hz, rfl⟩
          · exact .inl (.inr ⟨hz, rfl⟩)
      rcases hcs with hend | ⟨hz, hok⟩
      case inr =>
        simp -implicitDefEqProofs (maxSteps := 4000000) (disch := first | omega | (simp only [go_sem, WF, List.length_take] <;> omega) | fail) only [go_sem, ↓reduceIte, Nat.reduceEqDiff, Nat.reduceAdd, Nat.reduceSub, Nat.reduceMul, Nat.reduceLeDiff, Nat.reduceLT, reduceCtorEq, Int.reduceEq, Int.reduceLT, Int.reduceLE, Int.reduceAdd, Int.reduceSub, Int.reduceMul, Int.reduceNeg, Int.reduceToNat, c_r44_Right_l1, slv_ia hi, hpp, p1, hz, hok]
        exact ⟨_, rfl, by simp, _, _, rfl, rfl⟩
      cases p2 : short16 p.Keep
      case false =>
        rcases hend with hz | ⟨hz, hok⟩
        · simp -implicitDefEqProofs (maxSteps := 4000000) (disch := first | omega | (simp only [go_sem, WF, List.length_take] <;> omega) | fail) only [go_sem, ↓reduceIte, Nat.reduceEqDiff, Nat.reduceAdd, Nat.reduceSub, Nat.reduceMul, Nat.reduceLeDiff, Nat.reduceLT, reduceCtorEq, Int.reduceEq, Int.reduceLT, Int.reduceLE, Int.reduceAdd, Int.reduceSub, Int.reduceMul, Int.reduceNeg, Int.reduceToNat, c_r44_Right_l1, slv_ia hi, hpp, p1, p2, hz]
          exact ⟨_, rfl, by simp, _, _, rfl, rfl⟩
        · simp -implicitDefEqProofs (maxSteps := 4000000) (disch := first | omega | (simp only [go_sem, WF, List.length_take] <;> omega) | fail) only [go_sem, ↓reduceIte, Nat.reduceEqDiff, Nat.reduceAdd, Nat.reduceSub, Nat.reduceMul, Nat.reduceLeDiff, Nat.reduceLT, reduceCtorEq, Int.reduceEq, Int.reduceLT, Int.reduceLE, Int.reduceAdd, Int.reduceSub, Int.reduceMul, Int.reduceNeg, Int.reduceToNat, c_r44_Right_l1, slv_ia hi, hpp, p1, p2, hz, hok]
          exact ⟨_, rfl, by simp, _, _, rfl, rfl⟩
      by_cases p3 : 64 < p.Allowed.l.length
      case pos =>
        have p3' : (64 : Int) < (p.Allowed.l.length : Int) := by omega
        rcases hend with hz | ⟨hz, hok⟩
        · simp -implicitDefEqProofs (maxSteps := 4000000) (disch := first | omega | (simp only [go_sem, WF, List.length_take] <;> omega) | fail) only [go_sem, ↓reduceIte, Nat.reduceEqDiff, Nat.reduceAdd, Nat.reduceSub, Nat.reduceMul, Nat.reduceLeDiff, Nat.reduceLT, reduceCtorEq, Int.reduceEq, Int.reduceLT, Int.reduceLE, Int.reduceAdd, Int.reduceSub, Int.reduceMul, Int.reduceNeg, Int.reduceToNat, c_r44_Right_l1, slv_ia hi, hpp, p1, p2, p3', hz]
          exact ⟨_, rfl, by simp, _, _, rfl, rfl⟩
        · simp -implicitDefEqProofs (maxSteps := 4000000) (disch := first | omega | (simp only [go_sem, WF, List.length_take] <;> omega) | fail) only [go_sem, ↓reduceIte, Nat.reduceEqDiff, Nat.reduceAdd, Nat.reduceSub, Nat.reduceMul, Nat.reduceLeDiff, Nat.reduceLT, reduceCtorEq, Int.reduceEq, Int.reduceLT, Int.reduceLE, Int.reduceAdd, Int.reduceSub, Int.reduceMul, Int.reduceNeg, Int.reduceToNat, c_r44_Right_l1, slv_ia hi, hpp, p1, p2, p3', hz, hok]
          exact ⟨_, rfl, by simp, _, _, rfl, rfl⟩
      have p3' : ¬ (64 : Int) < (p.Allowed.l.length : Int) := by omega
      have p5 : p.Allowed.l.all TPrefix.ok = false := by
        simp only [TIniPeer.wrong, p1, p2, p3, any_not, decide_false, Bool.not_true, Bool.false_or] at hp'
        rcases hend with hz | ⟨hz, hok⟩
        · simpa [hz] using hp'
        · simpa [hz, hok] using hp'
      rcases r44_l0 hw (x := x) (p := p) (i := i) hal with ⟨hall, _⟩ | ⟨k, hk, hx, f, l0, hg⟩
      · rw [all_of_scan hall] at p5; cases p5
      · rcases hend with hz | ⟨hz, hok⟩
        · simp -implicitDefEqProofs (maxSteps := 4000000) (disch := first | omega | (simp only [go_sem, WF, List.length_take] <;> omega) | fail) only [go_sem, ↓reduceIte, Nat.reduceEqDiff, Nat.reduceAdd, Nat.reduceSub, Nat.reduceMul, Nat.reduceLeDiff, Nat.reduceLT, reduceCtorEq, Int.reduceEq, Int.reduceLT, Int.reduceLE, Int.reduceAdd, Int.reduceSub, Int.reduceMul, Int.reduceNeg, Int.reduceToNat, c_r44_Right_l1, slv_ia hi, hpp, p1, p2, p3', hz, l0]
          exact ⟨_, rfl, by simp, _, _, rfl, hg⟩
        · simp -implicitDefEqProofs (maxSteps := 4000000) (disch := first | omega | (simp only [go_sem, WF, List.length_take] <;> omega) | fail) only [go_sem, ↓reduceIte, Nat.reduceEqDiff, Nat.reduceAdd, Nat.reduceSub, Nat.reduceMul, Nat.reduceLeDiff, Nat.reduceLT, reduceCtorEq, Int.reduceEq, Int.reduceLT, Int.reduceLE, Int.reduceAdd, Int.reduceSub, Int.reduceMul, Int.reduceNeg, Int.reduceToNat, c_r44_Right_l1, slv_ia hi, hpp, p1, p2, p3', hz, hok, l0]
          exact ⟨_, rfl, by simp, _, _, rfl, hg⟩)
  simp only [S, Int.cast_ofNat_Int] at loop
  have hany : ∀ l : List TIniPeer, (l.all fun p => !p.wrong) = !(l.any TIniPeer.wrong) := by
    intro l
    induction l with
    | nil => rfl
    | cons x l ih => simp only [List.any_cons, List.all_cons, ih, Bool.not_or]
  rcases loop with ⟨hall, loop⟩ | ⟨i, hi, hp, hj, r, loop, _, f, X, rfl, hg⟩
  · have e := all_of_scan hall
    rw [hany] at e
    simp -implicitDefEqProofs (maxSteps := 4000000) (disch := first | omega | (simp only [go_sem, WF, List.length_take] <;> omega) | fail) only [go_sem, ↓reduceIte, Nat.reduceEqDiff, Nat.reduceAdd, Nat.reduceSub, Nat.reduceMul, Nat.reduceLeDiff, Nat.reduceLT, reduceCtorEq, Int.reduceEq, Int.reduceLT, Int.reduceLE, Int.reduceAdd, Int.reduceSub, Int.reduceMul, Int.reduceNeg, Int.reduceToNat, c_r44_Right, h1, h2, h2', e, loop]
    simp -implicitDefEqProofs (maxSteps := 4000000) (disch := first | omega | (simp only [go_sem, WF, List.length_take] <;> omega) | fail) only [go_sem, ↓reduceIte, Nat.reduceEqDiff, Nat.reduceAdd, Nat.reduceSub, Nat.reduceMul, Nat.reduceLeDiff, Nat.reduceLT, reduceCtorEq, Int.reduceEq, Int.reduceLT, Int.reduceLE, Int.reduceAdd, Int.reduceSub, Int.reduceMul, Int.reduceNeg, Int.reduceToNat, c_r44_Right_l1]
  · have e := not_all_of_scan hi hp
    rw [hany] at e
    simp -implicitDefEqProofs (maxSteps := 4000000) (disch := first | omega | (simp only [go_sem, WF, List.length_take] <;> omega) | fail) only [go_sem, ↓reduceIte, Nat.reduceEqDiff, Nat.reduceAdd, Nat.reduceSub, Nat.reduceMul, Nat.reduceLeDiff, Nat.reduceLT, reduceCtorEq, Int.reduceEq, Int.reduceLT, Int.reduceLE, Int.reduceAdd, Int.reduceSub, Int.reduceMul, Int.reduceNeg, Int.reduceToNat, c_r44_Right, h1, h2, h2', e, loop, hg]

theorem right_req {x : TIni} (h : x.right = true) : x.req.right = true := by
  simp only [TIni.right, Bool.and_eq_true, decide_eq_true_eq, Bool.not_eq_true'] at h
  obtain ⟨h1, h2, h3⟩ := h
  simp only [TRequest.right, TIni.req, GS.l_of, List.length_map, Bool.true_or, Bool.true_and, h1, Bool.and_eq_true, decide_eq_true_eq, Bool.not_eq_true']
  refine ⟨h2, ?_⟩
  rw [List.any_eq_false] at h3 ⊢
  intro y hy
  obtain ⟨p, hp, rfl⟩ := List.mem_map.1 hy
  have hw := h3 p hp
  simp only [TIniPeer.wrong, Bool.not_eq_true, Bool.or_eq_false_iff, decide_eq_false_iff_not, Bool.not_eq_false'] at hw
  obtain ⟨w1, w2, w3, w4, w5⟩ := hw
  have w3' : p.Allowed.l.length ≤ 64 := by omega
  simp only [TPeerChange.right, TIniPeer.req, w1, w2, w3', w5, decide_false, decide_true, Bool.not_false, Bool.true_and, Bool.true_or, Bool.and_true, Bool.not_eq_true']
  by_cases hz : p.End = TEndpoint.z
  · simp [hz]
  · simp only [hz, decide_false, Bool.not_false, Bool.true_and, Bool.not_eq_false'] at w4
    simp [hz, w4]
theorem same_self_req (x : TRequest) : x.same x = true := by
  simp only [TRequest.same, decide_true, Bool.true_and]
  rw [List.all_eq_true]
  intro p hp
  obtain ⟨i, hi, rfl⟩ := List.getElem_of_mem hp
  simp [TPeerChange.same]

theorem l45_CompileAsks_s {h : Heap} (hw : WF h) {c : TIni} : calling tb (den tb) h fn_l45_CompileAsks [.agg c.c] = some (.b true, some h) := by
  rw [go_fn f_l45_CompileAsks]
  have hla := fun (h : Heap) (hw : WF h) => r43_Large_s hw (c := c)
  have hal := fun (h : Heap) (hw : WF h) => l45_alive_s hw
  cases hl : c.large
  · have hl' := hl
    simp only [TIni.large, Bool.or_eq_false_iff, decide_eq_false_iff_not, Bool.not_eq_false', List.all_eq_true, decide_eq_true_eq] at hl'
    obtain ⟨h1, h2⟩ := hl'
    have h2' : ∀ p ∈ c.Peers.l, p.Allowed.l.length ≤ 1073741824 := fun p hp => by have := h2 p hp; omega
    have hof := fun (h : Heap) (hw : WF h) => compile_Request_s hw (x := c) (by omega) h2'
    have hrf := fun (h : Heap) (hw : WF h) => r45_Request_s hw (x := c) (by omega)
    have hpi : c.req.Peers.l.length ≤ 1073741824 := by simp only [TIni.req, GS.l_of, List.length_map]; omega
    have hpa : ∀ p ∈ c.req.Peers.l, p.Allowed.l.length ≤ 1073741824 := by
      intro p hp
      simp only [TIni.req, GS.l_of] at hp
      obtain ⟨q, hq, rfl⟩ := List.mem_map.1 hp
      exact h2' q hq
    have hsm := fun (h : Heap) (hw : WF h) => r32_Same_s hw (a := c.req) (b := c.req) hpi hpa
    have hri := fun (h : Heap) (hw : WF h) => r44_Right_s hw (x := c) (by omega) h2'
    have hir := fun (h : Heap) (hw : WF h) => change_Right_s hw (r := c.req) hpi hpa
    cases hr : c.right
    · simp -implicitDefEqProofs (maxSteps := 4000000) (disch := first | omega | (simp only [go_sem, WF, List.length_take] <;> omega) | fail) only [go_sem, ↓reduceIte, Nat.reduceEqDiff, Nat.reduceAdd, Nat.reduceSub, Nat.reduceMul, Nat.reduceLeDiff, Nat.reduceLT, reduceCtorEq, Int.reduceEq, Int.reduceLT, Int.reduceLE, Int.reduceAdd, Int.reduceSub, Int.reduceMul, Int.reduceNeg, Int.reduceToNat, c_l45_CompileAsks, hla, hal, hl, hof, hrf, hsm, same_self_req, hri, hr]
    · have hr2 := right_req hr
      simp -implicitDefEqProofs (maxSteps := 4000000) (disch := first | omega | (simp only [go_sem, WF, List.length_take] <;> omega) | fail) only [go_sem, ↓reduceIte, Nat.reduceEqDiff, Nat.reduceAdd, Nat.reduceSub, Nat.reduceMul, Nat.reduceLeDiff, Nat.reduceLT, reduceCtorEq, Int.reduceEq, Int.reduceLT, Int.reduceLE, Int.reduceAdd, Int.reduceSub, Int.reduceMul, Int.reduceNeg, Int.reduceToNat, c_l45_CompileAsks, hla, hal, hl, hof, hrf, hsm, same_self_req, hri, hr, hir, hr2]
  · simp -implicitDefEqProofs (maxSteps := 4000000) (disch := first | omega | (simp only [go_sem, WF, List.length_take] <;> omega) | fail) only [go_sem, ↓reduceIte, Nat.reduceEqDiff, Nat.reduceAdd, Nat.reduceSub, Nat.reduceMul, Nat.reduceLeDiff, Nat.reduceLT, reduceCtorEq, Int.reduceEq, Int.reduceLT, Int.reduceLE, Int.reduceAdd, Int.reduceSub, Int.reduceMul, Int.reduceNeg, Int.reduceToNat, c_l45_CompileAsks, hla, hal, hl]
end Go.Proofs.Ytggdinpopddhnaa.Am
