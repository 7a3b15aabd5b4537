/-
  What the functions come to: requests.
-/
import Derived.Test.YtggdinpopddhnaaAmS6
set_option linter.unusedSimpArgs false
set_option linter.unusedVariables false
set_option maxRecDepth 100000
namespace Go.Proofs.Ytggdinpopddhnaa.Am

def TIni.large (c : TIni) : Bool := decide (80 < c.Peers.l.length) || !c.Peers.l.all fun p => decide (p.Allowed.l.length ≤ 80)
theorem r43_Large_s {h : Heap} (hw : WF h) {c : TIni} : calling tb (den tb) h fn_r43_Large [.agg c.c] = some (.b c.large, some h) := by
  rw [go_fn f_r43_Large]
  unfold TIni.large
  by_cases h1 : 80 < c.Peers.l.length
  · have h1' : (c.Peers.l.length : Int) > 80 := by omega
    simp -implicitDefEqProofs (maxSteps := 4000000) (disch := first | omega | (simp only [go_sem, WF, List.length_take] <;> omega) | fail) only [go_sem, ↓reduceIte, Nat.reduceEqDiff, Nat.reduceAdd, Nat.reduceSub, Nat.reduceMul, Nat.reduceLeDiff, Nat.reduceLT, reduceCtorEq, Int.reduceEq, Int.reduceLT, Int.reduceLE, Int.reduceAdd, Int.reduceSub, Int.reduceMul, Int.reduceNeg, Int.reduceToNat, c_r43_Large, h1, h1']
  · have h1' : ¬ (80 : Int) < (c.Peers.l.length : Int) := by omega
    let S : Nat → Fr × Heap := fun i => ([(1, .ptr h.length 0), (3, .i .i64 (i : Nat))], h ++ [.cells c.c])
    have loop := lp_scan (F := round [1, 3] (exec tb (den tb) c_r43_Large_l0)) S c.Peers.l.length (fun i => (c.Peers.l[i]?).all fun p => decide (p.Allowed.l.length ≤ 80)) (fun _ r => ∃ f X, r = (.ret, f, h ++ X) ∧ get f 2 = .b true)
      (by
        intro i hi hp
        have hp' : c.Peers.l[i].Allowed.l.length ≤ 80 := by simpa [hi] using hp
        have hp2 : ¬ (80 : Int) < (c.Peers.l[i].Allowed.l.length : Int) := by omega
        simp only [S]
        simp -implicitDefEqProofs (maxSteps := 4000000) (disch := first | omega | (simp only [go_sem, WF, List.length_take] <;> omega) | fail) only [go_sem, ↓reduceIte, Nat.reduceEqDiff, Nat.reduceAdd, Nat.reduceSub, Nat.reduceMul, Nat.reduceLeDiff, Nat.reduceLT, reduceCtorEq, Int.reduceEq, Int.reduceLT, Int.reduceLE, Int.reduceAdd, Int.reduceSub, Int.reduceMul, Int.reduceNeg, Int.reduceToNat, c_r43_Large_l0, slv_ia hi, hp2])
      (by
        intro i hi hp
        have hp' : 80 < c.Peers.l[i].Allowed.l.length := by simpa [hi] using hp
        have hp2 : (80 : Int) < (c.Peers.l[i].Allowed.l.length : Int) := by omega
        simp only [S]
        simp -implicitDefEqProofs (maxSteps := 4000000) (disch := first | omega | (simp only [go_sem, WF, List.length_take] <;> omega) | fail) only [go_sem, ↓reduceIte, Nat.reduceEqDiff, Nat.reduceAdd, Nat.reduceSub, Nat.reduceMul, Nat.reduceLeDiff, Nat.reduceLT, reduceCtorEq, Int.reduceEq, Int.reduceLT, Int.reduceLE, Int.reduceAdd, Int.reduceSub, Int.reduceMul, Int.reduceNeg, Int.reduceToNat, c_r43_Large_l0, slv_ia hi, hp2]
        exact ⟨_, rfl, by simp, _, _, rfl, rfl⟩)
    simp only [S, Int.cast_ofNat_Int] at loop
    rcases loop with ⟨hall, loop⟩ | ⟨i, hi, hp, hj, r, loop, _, f, X, rfl, hg⟩
    · have e := all_of_scan hall
      simp -implicitDefEqProofs (maxSteps := 4000000) (disch := first | omega | (simp only [go_sem, WF, List.length_take] <;> omega) | fail) only [go_sem, ↓reduceIte, Nat.reduceEqDiff, Nat.reduceAdd, Nat.reduceSub, Nat.reduceMul, Nat.reduceLeDiff, Nat.reduceLT, reduceCtorEq, Int.reduceEq, Int.reduceLT, Int.reduceLE, Int.reduceAdd, Int.reduceSub, Int.reduceMul, Int.reduceNeg, Int.reduceToNat, c_r43_Large, h1, h1', e, loop]
      simp -implicitDefEqProofs (maxSteps := 4000000) (disch := first | omega | (simp only [go_sem, WF, List.length_take] <;> omega) | fail) only [go_sem, ↓reduceIte, Nat.reduceEqDiff, Nat.reduceAdd, Nat.reduceSub, Nat.reduceMul, Nat.reduceLeDiff, Nat.reduceLT, reduceCtorEq, Int.reduceEq, Int.reduceLT, Int.reduceLE, Int.reduceAdd, Int.reduceSub, Int.reduceMul, Int.reduceNeg, Int.reduceToNat, c_r43_Large_l0]
    · have e := not_all_of_scan hi hp
      simp -implicitDefEqProofs (maxSteps := 4000000) (disch := first | omega | (simp only [go_sem, WF, List.length_take] <;> omega) | fail) only [go_sem, ↓reduceIte, Nat.reduceEqDiff, Nat.reduceAdd, Nat.reduceSub, Nat.reduceMul, Nat.reduceLeDiff, Nat.reduceLT, reduceCtorEq, Int.reduceEq, Int.reduceLT, Int.reduceLE, Int.reduceAdd, Int.reduceSub, Int.reduceMul, Int.reduceNeg, Int.reduceToNat, c_r43_Large, h1, h1', e, loop, hg]

theorem r45_Request_s {h : Heap} (hw : WF h) {x : TIni} (hb : x.Peers.l.length ≤ 1073741824) : calling tb (den tb) h fn_r45_Request [.agg x.c] = some (.agg x.req.c, some h) := by
  rw [go_fn f_r45_Request]
  let els : Nat → List (List AV) := fun i => (x.Peers.l.take i).map fun x => x.req.c
  let S : Nat → Fr × Heap := fun i => ([(1, .ptr h.length 0), (2, .ptr (h.length + 1) 0), (3, .ptr (h.length + 2) 0), (4, .i .i64 (i : Nat))],
    h ++ (.cells x.c :: .cells TRequest.z.c :: .cells (TRequest.cs true x.Private true x.Port true x.Mark true (acc (h.length + 3) (els i))) :: accL 90 (els i)))
  have loop := lp_for (F := round [1, 2, 3, 4] (exec tb (den tb) c_r45_Request_l0)) S x.Peers.l.length (by
    intro i hi
    have hE : els (i + 1) = els i ++ [x.Peers.l[i].req.c] := by simp [els, List.take_add_one, hi]
    have hl : (els i).length = i := by simp [els]; omega
    have hm : mentLL (els i) = 0 := mentLL_map (fun x => TPeerChange.mentL_c) _
    simp only [S]
    rw [hE]
    generalize els i = E at *
    unfold TIniPeer.req at *
    rcases E with _ | ⟨e, E⟩ <;> simp only [mentLL, List.length_cons, List.length_nil] at hm hl
    · simp -implicitDefEqProofs (maxSteps := 4000000) (disch := first | omega | (simp only [go_sem, WF, List.length_take] <;> omega) | fail) only [go_sem, ↓reduceIte, Nat.reduceEqDiff, Nat.reduceAdd, Nat.reduceSub, Nat.reduceMul, Nat.reduceLeDiff, Nat.reduceLT, reduceCtorEq, Int.reduceEq, Int.reduceLT, Int.reduceLE, Int.reduceAdd, Int.reduceSub, Int.reduceMul, Int.reduceNeg, Int.reduceToNat, c_r45_Request_l0, slv_ia hi]
    · simp -implicitDefEqProofs (maxSteps := 4000000) (disch := first | omega | (simp only [go_sem, WF, List.length_take] <;> omega) | fail) only [go_sem, ↓reduceIte, Nat.reduceEqDiff, Nat.reduceAdd, Nat.reduceSub, Nat.reduceMul, Nat.reduceLeDiff, Nat.reduceLT, reduceCtorEq, Int.reduceEq, Int.reduceLT, Int.reduceLE, Int.reduceAdd, Int.reduceSub, Int.reduceMul, Int.reduceNeg, Int.reduceToNat, c_r45_Request_l0, slv_ia hi])
  have hE : els x.Peers.l.length = (x.Peers.l.map TIniPeer.req).map TPeerChange.c := by simp only [els, List.take_length, List.map_map]; rfl
  have h0 : els 0 = [] := rfl
  simp only [S, hE, h0, acc_nil, accL_nil, List.append_nil, Int.cast_ofNat_Int, TRequest.fold_nil] at loop
  simp -implicitDefEqProofs (maxSteps := 4000000) (disch := first | omega | (simp only [go_sem, WF, List.length_take] <;> omega) | fail) only [go_sem, ↓reduceIte, Nat.reduceEqDiff, Nat.reduceAdd, Nat.reduceSub, Nat.reduceMul, Nat.reduceLeDiff, Nat.reduceLT, reduceCtorEq, Int.reduceEq, Int.reduceLT, Int.reduceLE, Int.reduceAdd, Int.reduceSub, Int.reduceMul, Int.reduceNeg, Int.reduceToNat, c_r45_Request, loop]
  simp -implicitDefEqProofs (maxSteps := 4000000) (disch := first | omega | (simp only [go_sem, WF, List.length_take] <;> omega) | fail) only [go_sem, ↓reduceIte, Nat.reduceEqDiff, Nat.reduceAdd, Nat.reduceSub, Nat.reduceMul, Nat.reduceLeDiff, Nat.reduceLT, reduceCtorEq, Int.reduceEq, Int.reduceLT, Int.reduceLE, Int.reduceAdd, Int.reduceSub, Int.reduceMul, Int.reduceNeg, Int.reduceToNat, c_r45_Request_l0, TIni.req]

def TPeerChange.same (x y : TPeerChange) : Bool := decide (x.Key = y.Key) && (decide (x.Remove = y.Remove) && (decide (x.Update = y.Update) && (decide (x.HasPsk = y.HasPsk) && (decide (x.Psk = y.Psk) && (decide (x.HasEnd = y.HasEnd) && (decide (x.End = y.End) && (decide (x.HasKeep = y.HasKeep) && (decide (x.Keep = y.Keep) && (decide (x.Replace = y.Replace) && decide (x.Allowed.l = y.Allowed.l))))))))))
theorem r32_SamePeer_s {h : Heap} (hw : WF h) {x y : TPeerChange} (hb : x.Allowed.l.length ≤ 1073741824) : calling tb (den tb) h fn_r32_SamePeer [.agg x.c, .agg y.c] = some (.b (x.same y), some h) := by
  rw [go_fn f_r32_SamePeer]
  unfold TPeerChange.same
  by_cases h1 : x.Key = y.Key
  case neg => simp -implicitDefEqProofs (maxSteps := 4000000) (disch := first | omega | (simp only [go_sem, WF, List.length_take] <;> omega) | fail) only [go_sem, ↓reduceIte, Nat.reduceEqDiff, Nat.reduceAdd, Nat.reduceSub, Nat.reduceMul, Nat.reduceLeDiff, Nat.reduceLT, reduceCtorEq, Int.reduceEq, Int.reduceLT, Int.reduceLE, Int.reduceAdd, Int.reduceSub, Int.reduceMul, Int.reduceNeg, Int.reduceToNat, c_r32_SamePeer, h1]
  by_cases h2 : x.Remove = y.Remove
  case neg => simp -implicitDefEqProofs (maxSteps := 4000000) (disch := first | omega | (simp only [go_sem, WF, List.length_take] <;> omega) | fail) only [go_sem, ↓reduceIte, Nat.reduceEqDiff, Nat.reduceAdd, Nat.reduceSub, Nat.reduceMul, Nat.reduceLeDiff, Nat.reduceLT, reduceCtorEq, Int.reduceEq, Int.reduceLT, Int.reduceLE, Int.reduceAdd, Int.reduceSub, Int.reduceMul, Int.reduceNeg, Int.reduceToNat, c_r32_SamePeer, h1, h2]
  by_cases h3 : x.Update = y.Update
  case neg => simp -implicitDefEqProofs (maxSteps := 4000000) (disch := first | omega | (simp only [go_sem, WF, List.length_take] <;> omega) | fail) only [go_sem, ↓reduceIte, Nat.reduceEqDiff, Nat.reduceAdd, Nat.reduceSub, Nat.reduceMul, Nat.reduceLeDiff, Nat.reduceLT, reduceCtorEq, Int.reduceEq, Int.reduceLT, Int.reduceLE, Int.reduceAdd, Int.reduceSub, Int.reduceMul, Int.reduceNeg, Int.reduceToNat, c_r32_SamePeer, h1, h2, h3]
  by_cases h4 : x.HasPsk = y.HasPsk
  case neg => simp -implicitDefEqProofs (maxSteps := 4000000) (disch := first | omega | (simp only [go_sem, WF, List.length_take] <;> omega) | fail) only [go_sem, ↓reduceIte, Nat.reduceEqDiff, Nat.reduceAdd, Nat.reduceSub, Nat.reduceMul, Nat.reduceLeDiff, Nat.reduceLT, reduceCtorEq, Int.reduceEq, Int.reduceLT, Int.reduceLE, Int.reduceAdd, Int.reduceSub, Int.reduceMul, Int.reduceNeg, Int.reduceToNat, c_r32_SamePeer, h1, h2, h3, h4]
  by_cases h5 : x.Psk = y.Psk
  case neg => simp -implicitDefEqProofs (maxSteps := 4000000) (disch := first | omega | (simp only [go_sem, WF, List.length_take] <;> omega) | fail) only [go_sem, ↓reduceIte, Nat.reduceEqDiff, Nat.reduceAdd, Nat.reduceSub, Nat.reduceMul, Nat.reduceLeDiff, Nat.reduceLT, reduceCtorEq, Int.reduceEq, Int.reduceLT, Int.reduceLE, Int.reduceAdd, Int.reduceSub, Int.reduceMul, Int.reduceNeg, Int.reduceToNat, c_r32_SamePeer, h1, h2, h3, h4, h5]
  by_cases h6 : x.HasEnd = y.HasEnd
  case neg => simp -implicitDefEqProofs (maxSteps := 4000000) (disch := first | omega | (simp only [go_sem, WF, List.length_take] <;> omega) | fail) only [go_sem, ↓reduceIte, Nat.reduceEqDiff, Nat.reduceAdd, Nat.reduceSub, Nat.reduceMul, Nat.reduceLeDiff, Nat.reduceLT, reduceCtorEq, Int.reduceEq, Int.reduceLT, Int.reduceLE, Int.reduceAdd, Int.reduceSub, Int.reduceMul, Int.reduceNeg, Int.reduceToNat, c_r32_SamePeer, h1, h2, h3, h4, h5, h6]
  by_cases h7 : x.End = y.End
  case neg => simp -implicitDefEqProofs (maxSteps := 4000000) (disch := first | omega | (simp only [go_sem, WF, List.length_take] <;> omega) | fail) only [go_sem, ↓reduceIte, Nat.reduceEqDiff, Nat.reduceAdd, Nat.reduceSub, Nat.reduceMul, Nat.reduceLeDiff, Nat.reduceLT, reduceCtorEq, Int.reduceEq, Int.reduceLT, Int.reduceLE, Int.reduceAdd, Int.reduceSub, Int.reduceMul, Int.reduceNeg, Int.reduceToNat, c_r32_SamePeer, h1, h2, h3, h4, h5, h6, h7]
  by_cases h8 : x.HasKeep = y.HasKeep
  case neg => simp -implicitDefEqProofs (maxSteps := 4000000) (disch := first | omega | (simp only [go_sem, WF, List.length_take] <;> omega) | fail) only [go_sem, ↓reduceIte, Nat.reduceEqDiff, Nat.reduceAdd, Nat.reduceSub, Nat.reduceMul, Nat.reduceLeDiff, Nat.reduceLT, reduceCtorEq, Int.reduceEq, Int.reduceLT, Int.reduceLE, Int.reduceAdd, Int.reduceSub, Int.reduceMul, Int.reduceNeg, Int.reduceToNat, c_r32_SamePeer, h1, h2, h3, h4, h5, h6, h7, h8]
  by_cases h9 : x.Keep = y.Keep
  case neg => simp -implicitDefEqProofs (maxSteps := 4000000) (disch := first | omega | (simp only [go_sem, WF, List.length_take] <;> omega) | fail) only [go_sem, ↓reduceIte, Nat.reduceEqDiff, Nat.reduceAdd, Nat.reduceSub, Nat.reduceMul, Nat.reduceLeDiff, Nat.reduceLT, reduceCtorEq, Int.reduceEq, Int.reduceLT, Int.reduceLE, Int.reduceAdd, Int.reduceSub, Int.reduceMul, Int.reduceNeg, Int.reduceToNat, c_r32_SamePeer, h1, h2, h3, h4, h5, h6, h7, h8, h9]
  by_cases h10 : x.Replace = y.Replace
  case neg => simp -implicitDefEqProofs (maxSteps := 4000000) (disch := first | omega | (simp only [go_sem, WF, List.length_take] <;> omega) | fail) only [go_sem, ↓reduceIte, Nat.reduceEqDiff, Nat.reduceAdd, Nat.reduceSub, Nat.reduceMul, Nat.reduceLeDiff, Nat.reduceLT, reduceCtorEq, Int.reduceEq, Int.reduceLT, Int.reduceLE, Int.reduceAdd, Int.reduceSub, Int.reduceMul, Int.reduceNeg, Int.reduceToNat, c_r32_SamePeer, h1, h2, h3, h4, h5, h6, h7, h8, h9, h10]
  simp -implicitDefEqProofs (maxSteps := 4000000) (disch := first | omega | (simp only [go_sem, WF, List.length_take] <;> omega) | fail) only [go_sem, ↓reduceIte, Nat.reduceEqDiff, Nat.reduceAdd, Nat.reduceSub, Nat.reduceMul, Nat.reduceLeDiff, Nat.reduceLT, reduceCtorEq, Int.reduceEq, Int.reduceLT, Int.reduceLE, Int.reduceAdd, Int.reduceSub, Int.reduceMul, Int.reduceNeg, Int.reduceToNat, c_r32_SamePeer, h1, h2, h3, h4, h5, h6, h7, h8, h9, h10]
def TRequest.same (a b : TRequest) : Bool := decide (a.HasPrivate = b.HasPrivate) && (decide (a.Private = b.Private) && (decide (a.HasPort = b.HasPort) && (decide (a.Port = b.Port) && (decide (a.HasMark = b.HasMark) && (decide (a.Mark = b.Mark) && (decide (a.Replace = b.Replace) && (decide (a.Peers.l.length = b.Peers.l.length) && (a.Peers.l.zip b.Peers.l).all fun p => p.1.same p.2)))))))
theorem r32_Same_s {h : Heap} (hw : WF h) {a b : TRequest} (hb : a.Peers.l.length ≤ 1073741824) (hc : ∀ p ∈ a.Peers.l, p.Allowed.l.length ≤ 1073741824) : calling tb (den tb) h fn_r32_Same [.agg a.c, .agg b.c] = some (.b (a.same b), some h) := by
  rw [go_fn f_r32_Same]
  unfold TRequest.same
  by_cases h1 : a.HasPrivate = b.HasPrivate
  case neg => simp -implicitDefEqProofs (maxSteps := 4000000) (disch := first | omega | (simp only [go_sem, WF, List.length_take] <;> omega) | fail) only [go_sem, ↓reduceIte, Nat.reduceEqDiff, Nat.reduceAdd, Nat.reduceSub, Nat.reduceMul, Nat.reduceLeDiff, Nat.reduceLT, reduceCtorEq, Int.reduceEq, Int.reduceLT, Int.reduceLE, Int.reduceAdd, Int.reduceSub, Int.reduceMul, Int.reduceNeg, Int.reduceToNat, c_r32_Same, h1]
  by_cases h2 : a.Private = b.Private
  case neg => simp -implicitDefEqProofs (maxSteps := 4000000) (disch := first | omega | (simp only [go_sem, WF, List.length_take] <;> omega) | fail) only [go_sem, ↓reduceIte, Nat.reduceEqDiff, Nat.reduceAdd, Nat.reduceSub, Nat.reduceMul, Nat.reduceLeDiff, Nat.reduceLT, reduceCtorEq, Int.reduceEq, Int.reduceLT, Int.reduceLE, Int.reduceAdd, Int.reduceSub, Int.reduceMul, Int.reduceNeg, Int.reduceToNat, c_r32_Same, h1, h2]
  by_cases h3 : a.HasPort = b.HasPort
  case neg => simp -implicitDefEqProofs (maxSteps := 4000000) (disch := first | omega | (simp only [go_sem, WF, List.length_take] <;> omega) | fail) only [go_sem, ↓reduceIte, Nat.reduceEqDiff, Nat.reduceAdd, Nat.reduceSub, Nat.reduceMul, Nat.reduceLeDiff, Nat.reduceLT, reduceCtorEq, Int.reduceEq, Int.reduceLT, Int.reduceLE, Int.reduceAdd, Int.reduceSub, Int.reduceMul, Int.reduceNeg, Int.reduceToNat, c_r32_Same, h1, h2, h3]
  by_cases h4 : a.Port = b.Port
  case neg => simp -implicitDefEqProofs (maxSteps := 4000000) (disch := first | omega | (simp only [go_sem, WF, List.length_take] <;> omega) | fail) only [go_sem, ↓reduceIte, Nat.reduceEqDiff, Nat.reduceAdd, Nat.reduceSub, Nat.reduceMul, Nat.reduceLeDiff, Nat.reduceLT, reduceCtorEq, Int.reduceEq, Int.reduceLT, Int.reduceLE, Int.reduceAdd, Int.reduceSub, Int.reduceMul, Int.reduceNeg, Int.reduceToNat, c_r32_Same, h1, h2, h3, h4]
  by_cases h5 : a.HasMark = b.HasMark
  case neg => simp -implicitDefEqProofs (maxSteps := 4000000) (disch := first | omega | (simp only [go_sem, WF, List.length_take] <;> omega) | fail) only [go_sem, ↓reduceIte, Nat.reduceEqDiff, Nat.reduceAdd, Nat.reduceSub, Nat.reduceMul, Nat.reduceLeDiff, Nat.reduceLT, reduceCtorEq, Int.reduceEq, Int.reduceLT, Int.reduceLE, Int.reduceAdd, Int.reduceSub, Int.reduceMul, Int.reduceNeg, Int.reduceToNat, c_r32_Same, h1, h2, h3, h4, h5]
  by_cases h6 : a.Mark = b.Mark
  case neg => simp -implicitDefEqProofs (maxSteps := 4000000) (disch := first | omega | (simp only [go_sem, WF, List.length_take] <;> omega) | fail) only [go_sem, ↓reduceIte, Nat.reduceEqDiff, Nat.reduceAdd, Nat.reduceSub, Nat.reduceMul, Nat.reduceLeDiff, Nat.reduceLT, reduceCtorEq, Int.reduceEq, Int.reduceLT, Int.reduceLE, Int.reduceAdd, Int.reduceSub, Int.reduceMul, Int.reduceNeg, Int.reduceToNat, c_r32_Same, h1, h2, h3, h4, h5, h6]
  by_cases h7 : a.Replace = b.Replace
  case neg => simp -implicitDefEqProofs (maxSteps := 4000000) (disch := first | omega | (simp only [go_sem, WF, List.length_take] <;> omega) | fail) only [go_sem, ↓reduceIte, Nat.reduceEqDiff, Nat.reduceAdd, Nat.reduceSub, Nat.reduceMul, Nat.reduceLeDiff, Nat.reduceLT, reduceCtorEq, Int.reduceEq, Int.reduceLT, Int.reduceLE, Int.reduceAdd, Int.reduceSub, Int.reduceMul, Int.reduceNeg, Int.reduceToNat, c_r32_Same, h1, h2, h3, h4, h5, h6, h7]
  by_cases h8 : a.Peers.l.length = b.Peers.l.length
  case neg =>
    have h8' : ¬ (a.Peers.l.length : Int) = (b.Peers.l.length : Int) := by omega
    simp -implicitDefEqProofs (maxSteps := 4000000) (disch := first | omega | (simp only [go_sem, WF, List.length_take] <;> omega) | fail) only [go_sem, ↓reduceIte, Nat.reduceEqDiff, Nat.reduceAdd, Nat.reduceSub, Nat.reduceMul, Nat.reduceLeDiff, Nat.reduceLT, reduceCtorEq, Int.reduceEq, Int.reduceLT, Int.reduceLE, Int.reduceAdd, Int.reduceSub, Int.reduceMul, Int.reduceNeg, Int.reduceToNat, c_r32_Same, h1, h2, h3, h4, h5, h6, h7, h8, h8']
  have h8' : ((a.Peers.l.length : Int) = (b.Peers.l.length : Int)) = True := by simp; omega
  have hz : (a.Peers.l.zip b.Peers.l).length = a.Peers.l.length := by simp; omega
  let S : Nat → Fr × Heap := fun i => ([(2, .ptr h.length 0), (3, .ptr (h.length + 1) 0), (5, .i .i64 (i : Nat))], h ++ [.cells a.c, .cells b.c])
  have loop := lp_scan (F := round [2, 3, 5] (exec tb (den tb) c_r32_Same_l0)) S a.Peers.l.length (fun i => ((a.Peers.l.zip b.Peers.l)[i]?).all fun p => p.1.same p.2) (fun _ r => ∃ f X, r = (.ret, f, h ++ X) ∧ get f 4 = .b false)
    (by
      intro i hi hp
      have hi2 : i < b.Peers.l.length := by omega
      have hzi : (a.Peers.l.zip b.Peers.l)[i]? = some (a.Peers.l[i], b.Peers.l[i]) := by rw [List.getElem?_eq_getElem (by omega)]; simp
      have hp' : a.Peers.l[i].same b.Peers.l[i] = true := by simpa [hzi] using hp
      have hs := fun (h : Heap) (hw : WF h) => r32_SamePeer_s hw (x := a.Peers.l[i]) (y := b.Peers.l[i]) (hc _ (List.getElem_mem hi))
      simp only [S]
      simp -implicitDefEqProofs (maxSteps := 4000000) (disch := first | omega | (simp only [go_sem, WF, List.length_take] <;> omega) | fail) only [go_sem, ↓reduceIte, Nat.reduceEqDiff, Nat.reduceAdd, Nat.reduceSub, Nat.reduceMul, Nat.reduceLeDiff, Nat.reduceLT, reduceCtorEq, Int.reduceEq, Int.reduceLT, Int.reduceLE, Int.reduceAdd, Int.reduceSub, Int.reduceMul, Int.reduceNeg, Int.reduceToNat, c_r32_Same_l0, slv_ia hi, slv_ia hi2, hs, hp'])
    (by
      intro i hi hp
      have hi2 : i < b.Peers.l.length := by omega
      have hzi : (a.Peers.l.zip b.Peers.l)[i]? = some (a.Peers.l[i], b.Peers.l[i]) := by rw [List.getElem?_eq_getElem (by omega)]; simp
      have hp' : a.Peers.l[i].same b.Peers.l[i] = false := by simpa [hzi] using hp
      have hs := fun (h : Heap) (hw : WF h) => r32_SamePeer_s hw (x := a.Peers.l[i]) (y := b.Peers.l[i]) (hc _ (List.getElem_mem hi))
      simp only [S]
      simp -implicitDefEqProofs (maxSteps := 4000000) (disch := first | omega | (simp only [go_sem, WF, List.length_take] <;> omega) | fail) only [go_sem, ↓reduceIte, Nat.reduceEqDiff, Nat.reduceAdd, Nat.reduceSub, Nat.reduceMul, Nat.reduceLeDiff, Nat.reduceLT, reduceCtorEq, Int.reduceEq, Int.reduceLT, Int.reduceLE, Int.reduceAdd, Int.reduceSub, Int.reduceMul, Int.reduceNeg, Int.reduceToNat, c_r32_Same_l0, slv_ia hi, slv_ia hi2, hs, hp']
      exact ⟨_, rfl, by simp, _, _, rfl, rfl⟩)
  simp only [S, Int.cast_ofNat_Int] at loop
  rcases loop with ⟨hall, loop⟩ | ⟨i, hi, hp, hj, r, loop, _, f, X, rfl, hg⟩
  · have e := all_of_scan (l := a.Peers.l.zip b.Peers.l) (by rw [hz]; exact hall)
    simp -implicitDefEqProofs (maxSteps := 4000000) (disch := first | omega | (simp only [go_sem, WF, List.length_take] <;> omega) | fail) only [go_sem, ↓reduceIte, Nat.reduceEqDiff, Nat.reduceAdd, Nat.reduceSub, Nat.reduceMul, Nat.reduceLeDiff, Nat.reduceLT, reduceCtorEq, Int.reduceEq, Int.reduceLT, Int.reduceLE, Int.reduceAdd, Int.reduceSub, Int.reduceMul, Int.reduceNeg, Int.reduceToNat, c_r32_Same, h1, h2, h3, h4, h5, h6, h7, h8', e, loop]
    simp -implicitDefEqProofs (maxSteps := 4000000) (disch := first | omega | (simp only [go_sem, WF, List.length_take] <;> omega) | fail) only [go_sem, ↓reduceIte, Nat.reduceEqDiff, Nat.reduceAdd, Nat.reduceSub, Nat.reduceMul, Nat.reduceLeDiff, Nat.reduceLT, reduceCtorEq, Int.reduceEq, Int.reduceLT, Int.reduceLE, Int.reduceAdd, Int.reduceSub, Int.reduceMul, Int.reduceNeg, Int.reduceToNat, c_r32_Same_l0, h8']
    simp [h8]
  · have e := not_all_of_scan (l := a.Peers.l.zip b.Peers.l) (by rw [hz]; exact hi) hp
    simp -implicitDefEqProofs (maxSteps := 4000000) (disch := first | omega | (simp only [go_sem, WF, List.length_take] <;> omega) | fail) only [go_sem, ↓reduceIte, Nat.reduceEqDiff, Nat.reduceAdd, Nat.reduceSub, Nat.reduceMul, Nat.reduceLeDiff, Nat.reduceLT, reduceCtorEq, Int.reduceEq, Int.reduceLT, Int.reduceLE, Int.reduceAdd, Int.reduceSub, Int.reduceMul, Int.reduceNeg, Int.reduceToNat, c_r32_Same, h1, h2, h3, h4, h5, h6, h7, h8', e, loop, hg]

@[go_sem] theorem r44_from_s {h : Heap} (hw : WF h) {n : Int} : calling tb (den tb) h fn_r44_from [.i .i64 n] = some (.b (short16 n), some h) := by
  rw [go_fn f_r44_from]
  unfold short16
  by_cases h1 : 0 ≤ n
  · simp -implicitDefEqProofs (maxSteps := 4000000) (disch := first | omega | (simp only [go_sem, WF, List.length_take] <;> omega) | fail) only [go_sem, ↓reduceIte, Nat.reduceEqDiff, Nat.reduceAdd, Nat.reduceSub, Nat.reduceMul, Nat.reduceLeDiff, Nat.reduceLT, reduceCtorEq, Int.reduceEq, Int.reduceLT, Int.reduceLE, Int.reduceAdd, Int.reduceSub, Int.reduceMul, Int.reduceNeg, Int.reduceToNat, c_r44_from, h1]
  · simp -implicitDefEqProofs (maxSteps := 4000000) (disch := first | omega | (simp only [go_sem, WF, List.length_take] <;> omega) | fail) only [go_sem, ↓reduceIte, Nat.reduceEqDiff, Nat.reduceAdd, Nat.reduceSub, Nat.reduceMul, Nat.reduceLeDiff, Nat.reduceLT, reduceCtorEq, Int.reduceEq, Int.reduceLT, Int.reduceLE, Int.reduceAdd, Int.reduceSub, Int.reduceMul, Int.reduceNeg, Int.reduceToNat, c_r44_from, h1]
@[go_sem] theorem change_short_s {h : Heap} (hw : WF h) {n : Int} : calling tb (den tb) h fn_change_short [.i .i64 n] = some (.b (short16 n), some h) := by
  rw [go_fn f_change_short]
  unfold short16
  by_cases h1 : 0 ≤ n
  · simp -implicitDefEqProofs (maxSteps := 4000000) (disch := first | omega | (simp only [go_sem, WF, List.length_take] <;> omega) | fail) only [go_sem, ↓reduceIte, Nat.reduceEqDiff, Nat.reduceAdd, Nat.reduceSub, Nat.reduceMul, Nat.reduceLeDiff, Nat.reduceLT, reduceCtorEq, Int.reduceEq, Int.reduceLT, Int.reduceLE, Int.reduceAdd, Int.reduceSub, Int.reduceMul, Int.reduceNeg, Int.reduceToNat, c_change_short, h1]
  · simp -implicitDefEqProofs (maxSteps := 4000000) (disch := first | omega | (simp only [go_sem, WF, List.length_take] <;> omega) | fail) only [go_sem, ↓reduceIte, Nat.reduceEqDiff, Nat.reduceAdd, Nat.reduceSub, Nat.reduceMul, Nat.reduceLeDiff, Nat.reduceLT, reduceCtorEq, Int.reduceEq, Int.reduceLT, Int.reduceLE, Int.reduceAdd, Int.reduceSub, Int.reduceMul, Int.reduceNeg, Int.reduceToNat, c_change_short, h1]
@[go_sem] theorem change_only_api_Key_s {h : Heap} (hw : WF h) {b : Bool} {k : Bs 32} : calling tb (den tb) h fn_change_only_api_Key [.b b, .agg k.c] = some (.b (b || decide (k = Bs.z 32)), some h) := by
  rw [go_fn f_change_only_api_Key]
  cases b
  · simp -implicitDefEqProofs (maxSteps := 4000000) (disch := first | omega | (simp only [go_sem, WF, List.length_take] <;> omega) | fail) only [go_sem, ↓reduceIte, Nat.reduceEqDiff, Nat.reduceAdd, Nat.reduceSub, Nat.reduceMul, Nat.reduceLeDiff, Nat.reduceLT, reduceCtorEq, Int.reduceEq, Int.reduceLT, Int.reduceLE, Int.reduceAdd, Int.reduceSub, Int.reduceMul, Int.reduceNeg, Int.reduceToNat, c_change_only_api_Key]
  · simp -implicitDefEqProofs (maxSteps := 4000000) (disch := first | omega | (simp only [go_sem, WF, List.length_take] <;> omega) | fail) only [go_sem, ↓reduceIte, Nat.reduceEqDiff, Nat.reduceAdd, Nat.reduceSub, Nat.reduceMul, Nat.reduceLeDiff, Nat.reduceLT, reduceCtorEq, Int.reduceEq, Int.reduceLT, Int.reduceLE, Int.reduceAdd, Int.reduceSub, Int.reduceMul, Int.reduceNeg, Int.reduceToNat, c_change_only_api_Key]
@[go_sem] theorem change_only_int_s {h : Heap} (hw : WF h) {b : Bool} {k : Int} : calling tb (den tb) h fn_change_only_int [.b b, .i .i64 k] = some (.b (b || decide (k = 0)), some h) := by
  rw [go_fn f_change_only_int]
  cases b
  · simp -implicitDefEqProofs (maxSteps := 4000000) (disch := first | omega | (simp only [go_sem, WF, List.length_take] <;> omega) | fail) only [go_sem, ↓reduceIte, Nat.reduceEqDiff, Nat.reduceAdd, Nat.reduceSub, Nat.reduceMul, Nat.reduceLeDiff, Nat.reduceLT, reduceCtorEq, Int.reduceEq, Int.reduceLT, Int.reduceLE, Int.reduceAdd, Int.reduceSub, Int.reduceMul, Int.reduceNeg, Int.reduceToNat, c_change_only_int]
  · simp -implicitDefEqProofs (maxSteps := 4000000) (disch := first | omega | (simp only [go_sem, WF, List.length_take] <;> omega) | fail) only [go_sem, ↓reduceIte, Nat.reduceEqDiff, Nat.reduceAdd, Nat.reduceSub, Nat.reduceMul, Nat.reduceLeDiff, Nat.reduceLT, reduceCtorEq, Int.reduceEq, Int.reduceLT, Int.reduceLE, Int.reduceAdd, Int.reduceSub, Int.reduceMul, Int.reduceNeg, Int.reduceToNat, c_change_only_int]
@[go_sem] theorem change_only_uint32_s {h : Heap} (hw : WF h) {b : Bool} {k : Int} : calling tb (den tb) h fn_change_only_uint32 [.b b, .i .u32 k] = some (.b (b || decide (k = 0)), some h) := by
  rw [go_fn f_change_only_uint32]
  cases b
  · simp -implicitDefEqProofs (maxSteps := 4000000) (disch := first | omega | (simp only [go_sem, WF, List.length_take] <;> omega) | fail) only [go_sem, ↓reduceIte, Nat.reduceEqDiff, Nat.reduceAdd, Nat.reduceSub, Nat.reduceMul, Nat.reduceLeDiff, Nat.reduceLT, reduceCtorEq, Int.reduceEq, Int.reduceLT, Int.reduceLE, Int.reduceAdd, Int.reduceSub, Int.reduceMul, Int.reduceNeg, Int.reduceToNat, c_change_only_uint32]
  · simp -implicitDefEqProofs (maxSteps := 4000000) (disch := first | omega | (simp only [go_sem, WF, List.length_take] <;> omega) | fail) only [go_sem, ↓reduceIte, Nat.reduceEqDiff, Nat.reduceAdd, Nat.reduceSub, Nat.reduceMul, Nat.reduceLeDiff, Nat.reduceLT, reduceCtorEq, Int.reduceEq, Int.reduceLT, Int.reduceLE, Int.reduceAdd, Int.reduceSub, Int.reduceMul, Int.reduceNeg, Int.reduceToNat, c_change_only_uint32]
@[go_sem] theorem change_only_api_Endpoint_s {h : Heap} (hw : WF h) {b : Bool} {k : TEndpoint} : calling tb (den tb) h fn_change_only_api_Endpoint [.b b, .agg k.c] = some (.b (b || decide (k = TEndpoint.z)), some h) := by
  rw [go_fn f_change_only_api_Endpoint]
  cases b
  · simp -implicitDefEqProofs (maxSteps := 4000000) (disch := first | omega | (simp only [go_sem, WF, List.length_take] <;> omega) | fail) only [go_sem, ↓reduceIte, Nat.reduceEqDiff, Nat.reduceAdd, Nat.reduceSub, Nat.reduceMul, Nat.reduceLeDiff, Nat.reduceLT, reduceCtorEq, Int.reduceEq, Int.reduceLT, Int.reduceLE, Int.reduceAdd, Int.reduceSub, Int.reduceMul, Int.reduceNeg, Int.reduceToNat, c_change_only_api_Endpoint]
  · simp -implicitDefEqProofs (maxSteps := 4000000) (disch := first | omega | (simp only [go_sem, WF, List.length_take] <;> omega) | fail) only [go_sem, ↓reduceIte, Nat.reduceEqDiff, Nat.reduceAdd, Nat.reduceSub, Nat.reduceMul, Nat.reduceLeDiff, Nat.reduceLT, reduceCtorEq, Int.reduceEq, Int.reduceLT, Int.reduceLE, Int.reduceAdd, Int.reduceSub, Int.reduceMul, Int.reduceNeg, Int.reduceToNat, c_change_only_api_Endpoint]
@[go_sem] theorem change_RightPeer_1_s {h : Heap} (hw : WF h) {p : TPrefix} : calling tb (den tb) h fn_change_RightPeer_1 [.agg p.c] = some (.b (!p.ok), some h) := by
  rw [go_fn f_change_RightPeer_1]
  simp -implicitDefEqProofs (maxSteps := 4000000) (disch := first | omega | (simp only [go_sem, WF, List.length_take] <;> omega) | fail) only [go_sem, ↓reduceIte, Nat.reduceEqDiff, Nat.reduceAdd, Nat.reduceSub, Nat.reduceMul, Nat.reduceLeDiff, Nat.reduceLT, reduceCtorEq, Int.reduceEq, Int.reduceLT, Int.reduceLE, Int.reduceAdd, Int.reduceSub, Int.reduceMul, Int.reduceNeg, Int.reduceToNat, c_change_RightPeer_1]

def TPeerChange.right (p : TPeerChange) : Bool :=
  !decide (p.Key = Bs.z 32) && ((p.HasPsk || decide (p.Psk = Bs.z 32)) && ((p.HasEnd || decide (p.End = TEndpoint.z)) && ((!p.HasEnd || p.End.ok) && (short16 p.Keep && ((p.HasKeep || decide (p.Keep = 0)) && (decide (p.Allowed.l.length ≤ 64) && !p.Allowed.l.any fun q => !q.ok))))))
theorem change_RightPeer_s {h : Heap} (hw : WF h) {p : TPeerChange} (hb : p.Allowed.l.length ≤ 1073741824) : calling tb (den tb) h fn_change_RightPeer [.agg p.c] = some (.b p.right, some h) := by
  rw [go_fn f_change_RightPeer]
  unfold TPeerChange.right
  have hc := fun (h : Heap) (hw : WF h) => slices_ContainsFunc_api_Prefix_s hw (g := p.Allowed) (fn := fn_change_RightPeer_1) (fs := []) (cs := []) (P := fun q => !q.ok) hb (by simp [mentL]) (by simp [mentL]) fun x _ => change_RightPeer_1_s hw
  by_cases h1 : p.Key = Bs.z 32
  case pos => simp -implicitDefEqProofs (maxSteps := 4000000) (disch := first | omega | (simp only [go_sem, WF, List.length_take] <;> omega) | fail) only [go_sem, ↓reduceIte, Nat.reduceEqDiff, Nat.reduceAdd, Nat.reduceSub, Nat.reduceMul, Nat.reduceLeDiff, Nat.reduceLT, reduceCtorEq, Int.reduceEq, Int.reduceLT, Int.reduceLE, Int.reduceAdd, Int.reduceSub, Int.reduceMul, Int.reduceNeg, Int.reduceToNat, c_change_RightPeer, h1]
  cases h2 : (p.HasPsk || decide (p.Psk = Bs.z 32))
  case false => simp -implicitDefEqProofs (maxSteps := 4000000) (disch := first | omega | (simp only [go_sem, WF, List.length_take] <;> omega) | fail) only [go_sem, ↓reduceIte, Nat.reduceEqDiff, Nat.reduceAdd, Nat.reduceSub, Nat.reduceMul, Nat.reduceLeDiff, Nat.reduceLT, reduceCtorEq, Int.reduceEq, Int.reduceLT, Int.reduceLE, Int.reduceAdd, Int.reduceSub, Int.reduceMul, Int.reduceNeg, Int.reduceToNat, c_change_RightPeer, h1, h2]
  cases h3 : (p.HasEnd || decide (p.End = TEndpoint.z))
  case false => simp -implicitDefEqProofs (maxSteps := 4000000) (disch := first | omega | (simp only [go_sem, WF, List.length_take] <;> omega) | fail) only [go_sem, ↓reduceIte, Nat.reduceEqDiff, Nat.reduceAdd, Nat.reduceSub, Nat.reduceMul, Nat.reduceLeDiff, Nat.reduceLT, reduceCtorEq, Int.reduceEq, Int.reduceLT, Int.reduceLE, Int.reduceAdd, Int.reduceSub, Int.reduceMul, Int.reduceNeg, Int.reduceToNat, c_change_RightPeer, h1, h2, h3]
  cases h4 : p.HasEnd
  · have h3' : p.End = TEndpoint.z := by simpa [h4] using h3
    cases h6 : short16 p.Keep
    case false => simp -implicitDefEqProofs (maxSteps := 4000000) (disch := first | omega | (simp only [go_sem, WF, List.length_take] <;> omega) | fail) only [go_sem, ↓reduceIte, Nat.reduceEqDiff, Nat.reduceAdd, Nat.reduceSub, Nat.reduceMul, Nat.reduceLeDiff, Nat.reduceLT, reduceCtorEq, Int.reduceEq, Int.reduceLT, Int.reduceLE, Int.reduceAdd, Int.reduceSub, Int.reduceMul, Int.reduceNeg, Int.reduceToNat, c_change_RightPeer, h1, h2, h3', h4, h6]
    cases h7 : (p.HasKeep || decide (p.Keep = 0))
    case false => simp -implicitDefEqProofs (maxSteps := 4000000) (disch := first | omega | (simp only [go_sem, WF, List.length_take] <;> omega) | fail) only [go_sem, ↓reduceIte, Nat.reduceEqDiff, Nat.reduceAdd, Nat.reduceSub, Nat.reduceMul, Nat.reduceLeDiff, Nat.reduceLT, reduceCtorEq, Int.reduceEq, Int.reduceLT, Int.reduceLE, Int.reduceAdd, Int.reduceSub, Int.reduceMul, Int.reduceNeg, Int.reduceToNat, c_change_RightPeer, h1, h2, h3', h4, h6, h7]
    by_cases h8 : p.Allowed.l.length ≤ 64
    all_goals have h8' : ((p.Allowed.l.length : Int) ≤ 64) = (p.Allowed.l.length ≤ 64) := propext (by omega)
    · simp -implicitDefEqProofs (maxSteps := 4000000) (disch := first | omega | (simp only [go_sem, WF, List.length_take] <;> omega) | fail) only [go_sem, ↓reduceIte, Nat.reduceEqDiff, Nat.reduceAdd, Nat.reduceSub, Nat.reduceMul, Nat.reduceLeDiff, Nat.reduceLT, reduceCtorEq, Int.reduceEq, Int.reduceLT, Int.reduceLE, Int.reduceAdd, Int.reduceSub, Int.reduceMul, Int.reduceNeg, Int.reduceToNat, c_change_RightPeer, h1, h2, h3', h4, h6, h7, h8, h8', hc]
    · simp -implicitDefEqProofs (maxSteps := 4000000) (disch := first | omega | (simp only [go_sem, WF, List.length_take] <;> omega) | fail) only [go_sem, ↓reduceIte, Nat.reduceEqDiff, Nat.reduceAdd, Nat.reduceSub, Nat.reduceMul, Nat.reduceLeDiff, Nat.reduceLT, reduceCtorEq, Int.reduceEq, Int.reduceLT, Int.reduceLE, Int.reduceAdd, Int.reduceSub, Int.reduceMul, Int.reduceNeg, Int.reduceToNat, c_change_RightPeer, h1, h2, h3', h4, h6, h7, h8, h8', hc]
  · cases h5 : p.End.ok
    case false => simp -implicitDefEqProofs (maxSteps := 4000000) (disch := first | omega | (simp only [go_sem, WF, List.length_take] <;> omega) | fail) only [go_sem, ↓reduceIte, Nat.reduceEqDiff, Nat.reduceAdd, Nat.reduceSub, Nat.reduceMul, Nat.reduceLeDiff, Nat.reduceLT, reduceCtorEq, Int.reduceEq, Int.reduceLT, Int.reduceLE, Int.reduceAdd, Int.reduceSub, Int.reduceMul, Int.reduceNeg, Int.reduceToNat, c_change_RightPeer, h1, h2, h4, h5]
    cases h6 : short16 p.Keep
    case false => simp -implicitDefEqProofs (maxSteps := 4000000) (disch := first | omega | (simp only [go_sem, WF, List.length_take] <;> omega) | fail) only [go_sem, ↓reduceIte, Nat.reduceEqDiff, Nat.reduceAdd, Nat.reduceSub, Nat.reduceMul, Nat.reduceLeDiff, Nat.reduceLT, reduceCtorEq, Int.reduceEq, Int.reduceLT, Int.reduceLE, Int.reduceAdd, Int.reduceSub, Int.reduceMul, Int.reduceNeg, Int.reduceToNat, c_change_RightPeer, h1, h2, h4, h5, h6]
    cases h7 : (p.HasKeep || decide (p.Keep = 0))
    case false => simp -implicitDefEqProofs (maxSteps := 4000000) (disch := first | omega | (simp only [go_sem, WF, List.length_take] <;> omega) | fail) only [go_sem, ↓reduceIte, Nat.reduceEqDiff, Nat.reduceAdd, Nat.reduceSub, Nat.reduceMul, Nat.reduceLeDiff, Nat.reduceLT, reduceCtorEq, Int.reduceEq, Int.reduceLT, Int.reduceLE, Int.reduceAdd, Int.reduceSub, Int.reduceMul, Int.reduceNeg, Int.reduceToNat, c_change_RightPeer, h1, h2, h4, h5, h6, h7]
    by_cases h8 : p.Allowed.l.length ≤ 64
    all_goals have h8' : ((p.Allowed.l.length : Int) ≤ 64) = (p.Allowed.l.length ≤ 64) := propext (by omega)
    · simp -implicitDefEqProofs (maxSteps := 4000000) (disch := first | omega | (simp only [go_sem, WF, List.length_take] <;> omega) | fail) only [go_sem, ↓reduceIte, Nat.reduceEqDiff, Nat.reduceAdd, Nat.reduceSub, Nat.reduceMul, Nat.reduceLeDiff, Nat.reduceLT, reduceCtorEq, Int.reduceEq, Int.reduceLT, Int.reduceLE, Int.reduceAdd, Int.reduceSub, Int.reduceMul, Int.reduceNeg, Int.reduceToNat, c_change_RightPeer, h1, h2, h4, h5, h6, h7, h8, h8', hc]
    · simp -implicitDefEqProofs (maxSteps := 4000000) (disch := first | omega | (simp only [go_sem, WF, List.length_take] <;> omega) | fail) only [go_sem, ↓reduceIte, Nat.reduceEqDiff, Nat.reduceAdd, Nat.reduceSub, Nat.reduceMul, Nat.reduceLeDiff, Nat.reduceLT, reduceCtorEq, Int.reduceEq, Int.reduceLT, Int.reduceLE, Int.reduceAdd, Int.reduceSub, Int.reduceMul, Int.reduceNeg, Int.reduceToNat, c_change_RightPeer, h1, h2, h4, h5, h6, h7, h8, h8', hc]
theorem change_Right_1_s {h : Heap} (hw : WF h) {p : TPeerChange} (hb : p.Allowed.l.length ≤ 1073741824) : calling tb (den tb) h fn_change_Right_1 [.agg p.c] = some (.b (!p.right), some h) := by
  rw [go_fn f_change_Right_1]
  have hp := fun (h : Heap) (hw : WF h) => change_RightPeer_s hw (p := p) hb
  simp -implicitDefEqProofs (maxSteps := 4000000) (disch := first | omega | (simp only [go_sem, WF, List.length_take] <;> omega) | fail) only [go_sem, ↓reduceIte, Nat.reduceEqDiff, Nat.reduceAdd, Nat.reduceSub, Nat.reduceMul, Nat.reduceLeDiff, Nat.reduceLT, reduceCtorEq, Int.reduceEq, Int.reduceLT, Int.reduceLE, Int.reduceAdd, Int.reduceSub, Int.reduceMul, Int.reduceNeg, Int.reduceToNat, c_change_Right_1, hp]
theorem slices_IndexFunc_api_PeerChange_s {h : Heap} (hw : WF h) {g : GS (TPeerChange)} {fn : Nat} {fs cs : List AV} {P : TPeerChange → Bool} (hb : g.l.length ≤ 1073741824) (hfs : mentL fs ≤ h.length) (hcs : mentL cs ≤ h.length)
    (hP : ∀ x ∈ g.l, calling tb (den tb) h fn (fs ++ (.agg x.c :: cs)) = some (.b (P x), some h)) :
    calling tb (den tb) h fn_slices_IndexFunc_api_PeerChange [slv 90 TPeerChange.c g, .fn (.func fn) fs cs] = some (.i .i64 (match g.l.findIdx? P with | some i => (i : Int) | none => -1), some h) := by
  rw [go_fn f_slices_IndexFunc_api_PeerChange]
  let S : Nat → Fr × Heap := fun i => ([(0, slv 90 TPeerChange.c g), (1, .fn (.func fn) fs cs), (7, .i .i64 (g.l.length : Nat)), (8, .i .i64 (i : Nat))], h)
  have loop := lp_scan (F := round [0, 1, 7, 8] (exec tb (den tb) c_slices_IndexFunc_api_PeerChange_l0)) S g.l.length (fun i => !((g.l[i]?).any P)) (fun i r => ∃ f, r = (.ret, f, h) ∧ get f 4 = .i .i64 (i : Nat))
    (by
      intro i hi hp
      have hw1 := wrap64 (n := (i : Int) + 1) (by omega) (by omega)
      have hx := hP g.l[i] (List.getElem_mem hi)
      have hp' : P g.l[i] = false := by simpa [hi] using hp
      simp only [S]
      simp -implicitDefEqProofs (maxSteps := 4000000) (disch := first | omega | (simp only [go_sem, WF, List.length_take] <;> omega) | fail) only [go_sem, ↓reduceIte, Nat.reduceEqDiff, Nat.reduceAdd, Nat.reduceSub, Nat.reduceMul, Nat.reduceLeDiff, Nat.reduceLT, reduceCtorEq, Int.reduceEq, Int.reduceLT, Int.reduceLE, Int.reduceAdd, Int.reduceSub, Int.reduceMul, Int.reduceNeg, Int.reduceToNat, c_slices_IndexFunc_api_PeerChange_l0, slv_ia hi, hx, hp', hw1])
    (by
      intro i hi hp
      have hx := hP g.l[i] (List.getElem_mem hi)
      have hp' : P g.l[i] = true := by simpa [hi] using hp
      simp only [S]
      simp -implicitDefEqProofs (maxSteps := 4000000) (disch := first | omega | (simp only [go_sem, WF, List.length_take] <;> omega) | fail) only [go_sem, ↓reduceIte, Nat.reduceEqDiff, Nat.reduceAdd, Nat.reduceSub, Nat.reduceMul, Nat.reduceLeDiff, Nat.reduceLT, reduceCtorEq, Int.reduceEq, Int.reduceLT, Int.reduceLE, Int.reduceAdd, Int.reduceSub, Int.reduceMul, Int.reduceNeg, Int.reduceToNat, c_slices_IndexFunc_api_PeerChange_l0, slv_ia hi, hx, hp']
      exact ⟨_, rfl, by simp, _, rfl, rfl⟩)
  simp only [S, Int.cast_ofNat_Int] at loop
  rcases loop with ⟨hall, loop⟩ | ⟨i, hi, hp, hj, r, loop, _, f, rfl, hg⟩
  · have e : g.l.findIdx? P = none := by
      rw [List.findIdx?_eq_none_iff]
      intro x hx
      obtain ⟨i, hi, rfl⟩ := List.getElem_of_mem hx
      simpa [hi] using hall i hi
    rw [e]
    simp -implicitDefEqProofs (maxSteps := 4000000) (disch := first | omega | (simp only [go_sem, WF, List.length_take] <;> omega) | fail) only [go_sem, ↓reduceIte, Nat.reduceEqDiff, Nat.reduceAdd, Nat.reduceSub, Nat.reduceMul, Nat.reduceLeDiff, Nat.reduceLT, reduceCtorEq, Int.reduceEq, Int.reduceLT, Int.reduceLE, Int.reduceAdd, Int.reduceSub, Int.reduceMul, Int.reduceNeg, Int.reduceToNat, c_slices_IndexFunc_api_PeerChange, loop]
    simp -implicitDefEqProofs (maxSteps := 4000000) (disch := first | omega | (simp only [go_sem, WF, List.length_take] <;> omega) | fail) only [go_sem, ↓reduceIte, Nat.reduceEqDiff, Nat.reduceAdd, Nat.reduceSub, Nat.reduceMul, Nat.reduceLeDiff, Nat.reduceLT, reduceCtorEq, Int.reduceEq, Int.reduceLT, Int.reduceLE, Int.reduceAdd, Int.reduceSub, Int.reduceMul, Int.reduceNeg, Int.reduceToNat, c_slices_IndexFunc_api_PeerChange_l0]
  · have e : g.l.findIdx? P = some i := by
      rw [List.findIdx?_eq_some_iff_getElem]
      refine ⟨hi, by simpa [hi] using hp, fun j hji => ?_⟩
      have := hj j hji
      have hjl : j < g.l.length := by omega
      simpa [hjl] using this
    rw [e]
    simp -implicitDefEqProofs (maxSteps := 4000000) (disch := first | omega | (simp only [go_sem, WF, List.length_take] <;> omega) | fail) only [go_sem, ↓reduceIte, Nat.reduceEqDiff, Nat.reduceAdd, Nat.reduceSub, Nat.reduceMul, Nat.reduceLeDiff, Nat.reduceLT, reduceCtorEq, Int.reduceEq, Int.reduceLT, Int.reduceLE, Int.reduceAdd, Int.reduceSub, Int.reduceMul, Int.reduceNeg, Int.reduceToNat, c_slices_IndexFunc_api_PeerChange, loop, hg]
theorem slices_ContainsFunc_api_PeerChange_s {h : Heap} (hw : WF h) {g : GS (TPeerChange)} {fn : Nat} {fs cs : List AV} {P : TPeerChange → Bool} (hb : g.l.length ≤ 1073741824) (hfs : mentL fs ≤ h.length) (hcs : mentL cs ≤ h.length)
    (hP : ∀ x ∈ g.l, calling tb (den tb) h fn (fs ++ (.agg x.c :: cs)) = some (.b (P x), some h)) :
    calling tb (den tb) h fn_slices_ContainsFunc_api_PeerChange [slv 90 TPeerChange.c g, .fn (.func fn) fs cs] = some (.b (g.l.any P), some h) := by
  rw [go_fn f_slices_ContainsFunc_api_PeerChange]
  have hi := slices_IndexFunc_api_PeerChange_s hw hb hfs hcs hP
  simp -implicitDefEqProofs (maxSteps := 4000000) (disch := first | omega | (simp only [go_sem, WF, List.length_take] <;> omega) | fail) only [go_sem, ↓reduceIte, Nat.reduceEqDiff, Nat.reduceAdd, Nat.reduceSub, Nat.reduceMul, Nat.reduceLeDiff, Nat.reduceLT, reduceCtorEq, Int.reduceEq, Int.reduceLT, Int.reduceLE, Int.reduceAdd, Int.reduceSub, Int.reduceMul, Int.reduceNeg, Int.reduceToNat, c_slices_ContainsFunc_api_PeerChange, hi]
  cases e : g.l.findIdx? P with
  | none =>
    rw [List.findIdx?_eq_none_iff] at e
    have : g.l.any P = false := by rw [List.any_eq_false]; intro x hx; rw [e x hx]; simp
    rw [this]; rfl
  | some i =>
    obtain ⟨hl, hp, _⟩ := List.findIdx?_eq_some_iff_getElem.1 e
    have : g.l.any P = true := List.any_eq_true.2 ⟨_, List.getElem_mem hl, hp⟩
    rw [this]
    simp

def TRequest.right (r : TRequest) : Bool := (r.HasPrivate || decide (r.Private = Bs.z 32)) && ((r.HasPort || decide (r.Port = 0)) && ((r.HasMark || decide (r.Mark = 0)) && (short16 r.Port && (decide (r.Peers.l.length ≤ 64) && !r.Peers.l.any fun p => !p.right))))
theorem change_Right_s {h : Heap} (hw : WF h) {r : TRequest} (hb : r.Peers.l.length ≤ 1073741824) (hc : ∀ p ∈ r.Peers.l, p.Allowed.l.length ≤ 1073741824) : calling tb (den tb) h fn_change_Right [.agg r.c] = some (.b r.right, some h) := by
  rw [go_fn f_change_Right]
  unfold TRequest.right
  have hc := fun (h : Heap) (hw : WF h) => slices_ContainsFunc_api_PeerChange_s hw (g := r.Peers) (fn := fn_change_Right_1) (fs := []) (cs := []) (P := fun p => !p.right) hb (by simp [mentL]) (by simp [mentL]) fun p hp => change_Right_1_s hw (hc p hp)
  cases h1 : (r.HasPrivate || decide (r.Private = Bs.z 32))
  case false => simp -implicitDefEqProofs (maxSteps := 4000000) (disch := first | omega | (simp only [go_sem, WF, List.length_take] <;> omega) | fail) only [go_sem, ↓reduceIte, Nat.reduceEqDiff, Nat.reduceAdd, Nat.reduceSub, Nat.reduceMul, Nat.reduceLeDiff, Nat.reduceLT, reduceCtorEq, Int.reduceEq, Int.reduceLT, Int.reduceLE, Int.reduceAdd, Int.reduceSub, Int.reduceMul, Int.reduceNeg, Int.reduceToNat, c_change_Right, h1]
  cases h2 : (r.HasPort || decide (r.Port = 0))
  case false => simp -implicitDefEqProofs (maxSteps := 4000000) (disch := first | omega | (simp only [go_sem, WF, List.length_take] <;> omega) | fail) only [go_sem, ↓reduceIte, Nat.reduceEqDiff, Nat.reduceAdd, Nat.reduceSub, Nat.reduceMul, Nat.reduceLeDiff, Nat.reduceLT, reduceCtorEq, Int.reduceEq, Int.reduceLT, Int.reduceLE, Int.reduceAdd, Int.reduceSub, Int.reduceMul, Int.reduceNeg, Int.reduceToNat, c_change_Right, h1, h2]
  cases h3 : (r.HasMark || decide (r.Mark = 0))
  case false => simp -implicitDefEqProofs (maxSteps := 4000000) (disch := first | omega | (simp only [go_sem, WF, List.length_take] <;> omega) | fail) only [go_sem, ↓reduceIte, Nat.reduceEqDiff, Nat.reduceAdd, Nat.reduceSub, Nat.reduceMul, Nat.reduceLeDiff, Nat.reduceLT, reduceCtorEq, Int.reduceEq, Int.reduceLT, Int.reduceLE, Int.reduceAdd, Int.reduceSub, Int.reduceMul, Int.reduceNeg, Int.reduceToNat, c_change_Right, h1, h2, h3]
  cases h4 : short16 r.Port
  case false => simp -implicitDefEqProofs (maxSteps := 4000000) (disch := first | omega | (simp only [go_sem, WF, List.length_take] <;> omega) | fail) only [go_sem, ↓reduceIte, Nat.reduceEqDiff, Nat.reduceAdd, Nat.reduceSub, Nat.reduceMul, Nat.reduceLeDiff, Nat.reduceLT, reduceCtorEq, Int.reduceEq, Int.reduceLT, Int.reduceLE, Int.reduceAdd, Int.reduceSub, Int.reduceMul, Int.reduceNeg, Int.reduceToNat, c_change_Right, h1, h2, h3, h4]
  by_cases h5 : r.Peers.l.length ≤ 64
  all_goals have h5' : ((64 : Int) < (r.Peers.l.length : Int)) = ¬ (r.Peers.l.length ≤ 64) := propext (by omega)
  · simp -implicitDefEqProofs (maxSteps := 4000000) (disch := first | omega | (simp only [go_sem, WF, List.length_take] <;> omega) | fail) only [go_sem, ↓reduceIte, Nat.reduceEqDiff, Nat.reduceAdd, Nat.reduceSub, Nat.reduceMul, Nat.reduceLeDiff, Nat.reduceLT, reduceCtorEq, Int.reduceEq, Int.reduceLT, Int.reduceLE, Int.reduceAdd, Int.reduceSub, Int.reduceMul, Int.reduceNeg, Int.reduceToNat, c_change_Right, h1, h2, h3, h4, h5, h5', hc]
  · simp -implicitDefEqProofs (maxSteps := 4000000) (disch := first | omega | (simp only [go_sem, WF, List.length_take] <;> omega) | fail) only [go_sem, ↓reduceIte, Nat.reduceEqDiff, Nat.reduceAdd, Nat.reduceSub, Nat.reduceMul, Nat.reduceLeDiff, Nat.reduceLT, reduceCtorEq, Int.reduceEq, Int.reduceLT, Int.reduceLE, Int.reduceAdd, Int.reduceSub, Int.reduceMul, Int.reduceNeg, Int.reduceToNat, c_change_Right, h1, h2, h3, h4, h5, h5', hc]

/-- the document's: what a file may say -/
theorem r44_l0 {h : Heap} (hw : mentH h ≤ h.length) {x : TIni} {p : TIniPeer} {i : Nat} (hlen : p.Allowed.l.length ≤ 1073741824) :
    let H := h ++ [.cells x.c, .cells p.c]
    let F := round [1, 3, 4, 5] (exec tb (den tb) c_r44_Right_l0)
    ((∀ k, k < p.Allowed.l.length → (p.Allowed.l[k]?).all TPrefix.ok = true) ∧ lp F [(1, .ptr h.length 0), (3, .i .i64 (i : Nat)), (4, .ptr (h.length + 1) 0), (5, .i .i64 0)] H =
        kloop (lp F) (F [(1, .ptr h.length 0), (3, .i .i64 (i : Nat)), (4, .ptr (h.length + 1) 0), (5, .i .i64 (p.Allowed.l.length : Nat))] H)) ∨
      (∃ k, k < p.Allowed.l.length ∧ (p.Allowed.l[k]?).all TPrefix.ok = false ∧ ∃ f, lp F [(1, .ptr h.length 0), (3, .i .i64 (i : Nat)), (4, .ptr (h.length + 1) 0), (5, .i .i64 0)] H = some (.ret, f, H) ∧ get f 2 = .b false) := by
  intro H F
  let S : Nat → Fr × Heap := fun k => ([(1, .ptr h.length 0), (3, .i .i64 (i : Nat)), (4, .ptr (h.length + 1) 0), (5, .i .i64 (k : Nat))], H)
  have loop := lp_scan (F := F) S p.Allowed.l.length (fun k => (p.Allowed.l[k]?).all TPrefix.ok) (fun _ r => ∃ f, r = (.ret, f, H) ∧ get f 2 = .b false)
    (by
      intro k hk hq
      have hq' : p.Allowed.l[k].ok = true := by simpa [hk] using hq
      simp only [S, F, H]
      simp -implicitDefEqProofs (maxSteps := 4000000) (disch := first | omega | (simp only [go_sem, WF, List.length_take] <;> omega) | fail) only [go_sem, ↓reduceIte, Nat.reduceEqDiff, Nat.reduceAdd, Nat.reduceSub, Nat.reduceMul, Nat.reduceLeDiff, Nat.reduceLT, reduceCtorEq, Int.reduceEq, Int.reduceLT, Int.reduceLE, Int.reduceAdd, Int.reduceSub, Int.reduceMul, Int.reduceNeg, Int.reduceToNat, c_r44_Right_l0, slv_ia hk, hq'])
    (by
      intro k hk hq
      have hq' : p.Allowed.l[k].ok = false := by simpa [hk] using hq
      simp only [S, F, H]
      simp -implicitDefEqProofs (maxSteps := 4000000) (disch := first | omega | (simp only [go_sem, WF, List.length_take] <;> omega) | fail) only [go_sem, ↓reduceIte, Nat.reduceEqDiff, Nat.reduceAdd, Nat.reduceSub, Nat.reduceMul, Nat.reduceLeDiff, Nat.reduceLT, reduceCtorEq, Int.reduceEq, Int.reduceLT, Int.reduceLE, Int.reduceAdd, Int.reduceSub, Int.reduceMul, Int.reduceNeg, Int.reduceToNat, c_r44_Right_l0, slv_ia hk, hq']
      exact ⟨_, rfl, by simp, _, rfl, rfl⟩)
  simp only [S, Int.cast_ofNat_Int] at loop
  rcases loop with h | ⟨k, h1, h2, _, r, h3, _, f, rfl, h4⟩
  · exact .inl h
  · exact .inr ⟨k, h1, h2, f, h3, h4⟩
end Go.Proofs.Ytggdinpopddhnaa.Am
