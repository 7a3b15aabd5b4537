/-
  What the functions come to: requests; which configurations may be.
-/
import Derived.Test.YtggdinpopddhnaaAmS5
set_option linter.unusedSimpArgs false
set_option linter.unusedVariables false
set_option maxRecDepth 100000
namespace Go.Proofs.Ytggdinpopddhnaa.Am

def TIniPeer.req (p : TIniPeer) : TPeerChange := ⟨p.Key, false, false, true, p.Psk, !decide (p.End = TEndpoint.z), p.End, true, p.Keep, true, p.Allowed⟩
def TIni.req (x : TIni) : TRequest := ⟨true, x.Private, true, x.Port, true, x.Mark, true, GS.of (x.Peers.l.map TIniPeer.req)⟩
theorem compile_Request_1_s {h : Heap} (hw : WF h) {p : TIniPeer} (hb : p.Allowed.l.length ≤ 1073741824) : calling tb (den tb) h fn_compile_Request_1 [.agg p.c] = some (.agg p.req.c, some h) := by
  rw [go_fn f_compile_Request_1]
  unfold TIniPeer.req
  simp -implicitDefEqProofs (maxSteps := 4000000) (disch := first | omega | (simp only [go_sem, WF, List.length_take] <;> omega) | fail) only [go_sem, ↓reduceIte, Nat.reduceEqDiff, Nat.reduceAdd, Nat.reduceSub, Nat.reduceMul, Nat.reduceLeDiff, Nat.reduceLT, reduceCtorEq, Int.reduceEq, Int.reduceLT, Int.reduceLE, Int.reduceAdd, Int.reduceSub, Int.reduceMul, Int.reduceNeg, Int.reduceToNat, c_compile_Request_1]
/-- each: a slice's elements, one by one -/
theorem compile_each_api_IniPeer_api_PeerChange_s {h : Heap} (hw : WF h) {g : GS TIniPeer} {fn : Nat} {F : TIniPeer → TPeerChange} (hb : g.l.length ≤ 1073741824)
    (hF : ∀ x ∈ g.l, ∀ h, WF h → calling tb (den tb) h fn [.agg x.c] = some (.agg (F x).c, some h)) :
    calling tb (den tb) h fn_compile_each_api_IniPeer_api_PeerChange [slv 84 TIniPeer.c g, .fn (.func fn) [] []] = some (slv 90 TPeerChange.c (GS.of (g.l.map F)), some h) := by
  rw [go_fn f_compile_each_api_IniPeer_api_PeerChange]
  let els : Nat → List (List AV) := fun i => (g.l.take i).map fun x => (F x).c
  let S : Nat → Fr × Heap := fun i => ([(1, .fn (.func fn) [] []), (5, acc h.length (els i)), (8, slv 84 TIniPeer.c g), (9, .i .i64 (g.l.length : Nat)), (10, .i .i64 (i : Nat))], h ++ accL 90 (els i))
  have loop := lp_for (F := round [1, 5, 8, 9, 10] (exec tb (den tb) c_compile_each_api_IniPeer_api_PeerChange_l0)) S g.l.length (by
    intro i hi
    have hE : els (i + 1) = els i ++ [(F g.l[i]).c] := by simp [els, List.take_add_one, hi]
    have hl : (els i).length = i := by simp [els]; omega
    have hm : mentLL (els i) = 0 := mentLL_map (fun x => TPeerChange.mentL_c) _
    have hw1 := wrap64 (n := (i : Int) + 1) (by omega) (by omega)
    have hx := hF g.l[i] (List.getElem_mem hi)
    simp only [S]
    rw [hE]
    generalize els i = E at *
    rcases E with _ | ⟨e, E⟩ <;> simp only [mentLL, List.length_cons, List.length_nil] at hm hl
    · simp -implicitDefEqProofs (maxSteps := 4000000) (disch := first | omega | (simp only [go_sem, WF, List.length_take] <;> omega) | fail) only [go_sem, ↓reduceIte, Nat.reduceEqDiff, Nat.reduceAdd, Nat.reduceSub, Nat.reduceMul, Nat.reduceLeDiff, Nat.reduceLT, reduceCtorEq, Int.reduceEq, Int.reduceLT, Int.reduceLE, Int.reduceAdd, Int.reduceSub, Int.reduceMul, Int.reduceNeg, Int.reduceToNat, c_compile_each_api_IniPeer_api_PeerChange_l0, slv_ia hi, hx, hw1]
    · simp -implicitDefEqProofs (maxSteps := 4000000) (disch := first | omega | (simp only [go_sem, WF, List.length_take] <;> omega) | fail) only [go_sem, ↓reduceIte, Nat.reduceEqDiff, Nat.reduceAdd, Nat.reduceSub, Nat.reduceMul, Nat.reduceLeDiff, Nat.reduceLT, reduceCtorEq, Int.reduceEq, Int.reduceLT, Int.reduceLE, Int.reduceAdd, Int.reduceSub, Int.reduceMul, Int.reduceNeg, Int.reduceToNat, c_compile_each_api_IniPeer_api_PeerChange_l0, slv_ia hi, hx, hw1])
  have hE : els g.l.length = (g.l.map F).map TPeerChange.c := by simp only [els, List.take_length, List.map_map]; rfl
  have h0 : els 0 = [] := rfl
  simp only [S, hE, h0, acc_nil, accL_nil, List.append_nil, Int.cast_ofNat_Int] at loop
  simp -implicitDefEqProofs (maxSteps := 4000000) (disch := first | omega | (simp only [go_sem, WF, List.length_take] <;> omega) | fail) only [go_sem, ↓reduceIte, Nat.reduceEqDiff, Nat.reduceAdd, Nat.reduceSub, Nat.reduceMul, Nat.reduceLeDiff, Nat.reduceLT, reduceCtorEq, Int.reduceEq, Int.reduceLT, Int.reduceLE, Int.reduceAdd, Int.reduceSub, Int.reduceMul, Int.reduceNeg, Int.reduceToNat, c_compile_each_api_IniPeer_api_PeerChange, loop]
  simp -implicitDefEqProofs (maxSteps := 4000000) (disch := first | omega | (simp only [go_sem, WF, List.length_take] <;> omega) | fail) only [go_sem, ↓reduceIte, Nat.reduceEqDiff, Nat.reduceAdd, Nat.reduceSub, Nat.reduceMul, Nat.reduceLeDiff, Nat.reduceLT, reduceCtorEq, Int.reduceEq, Int.reduceLT, Int.reduceLE, Int.reduceAdd, Int.reduceSub, Int.reduceMul, Int.reduceNeg, Int.reduceToNat, c_compile_each_api_IniPeer_api_PeerChange_l0]

theorem compile_Request_s {h : Heap} (hw : WF h) {x : TIni} (hb : x.Peers.l.length ≤ 1073741824) (hc : ∀ p ∈ x.Peers.l, p.Allowed.l.length ≤ 1073741824) : calling tb (den tb) h fn_compile_Request [.agg x.c] = some (.agg x.req.c, some h) := by
  rw [go_fn f_compile_Request]
  unfold TIni.req
  have he := fun (h : Heap) (hw : WF h) => compile_each_api_IniPeer_api_PeerChange_s hw (g := x.Peers) (fn := fn_compile_Request_1) (F := TIniPeer.req) hb fun p hp h hw => compile_Request_1_s hw (hc p hp)
  simp -implicitDefEqProofs (maxSteps := 4000000) (disch := first | omega | (simp only [go_sem, WF, List.length_take] <;> omega) | fail) only [go_sem, ↓reduceIte, Nat.reduceEqDiff, Nat.reduceAdd, Nat.reduceSub, Nat.reduceMul, Nat.reduceLeDiff, Nat.reduceLT, reduceCtorEq, Int.reduceEq, Int.reduceLT, Int.reduceLE, Int.reduceAdd, Int.reduceSub, Int.reduceMul, Int.reduceNeg, Int.reduceToNat, c_compile_Request, he]
theorem l45_alive_s {h : Heap} (hw : WF h) : calling tb (den tb) h fn_l45_alive [] = some (.b true, some h) := by
  rw [go_fn f_l45_alive]
  have hr := fun (h : Heap) (hw : WF h) => compile_Request_s hw (x := TIni.z) (by simp [TIni.z]) (by simp [TIni.z])
  simp -implicitDefEqProofs (maxSteps := 4000000) (disch := first | omega | (simp only [go_sem, WF, List.length_take] <;> omega) | fail) only [go_sem, ↓reduceIte, Nat.reduceEqDiff, Nat.reduceAdd, Nat.reduceSub, Nat.reduceMul, Nat.reduceLeDiff, Nat.reduceLT, reduceCtorEq, Int.reduceEq, Int.reduceLT, Int.reduceLE, Int.reduceAdd, Int.reduceSub, Int.reduceMul, Int.reduceNeg, Int.reduceToNat, c_l45_alive, hr, TIni.req]

def TAddr.less (a b : TAddr) : Bool := if a.V = b.V then (match (List.range 16).find? fun i => !decide (a.B.g i = b.B.g i) with | some i => decide ((a.B.g i).toNat < (b.B.g i).toNat) | none => false) else decide (a.V < b.V)
@[go_sem] theorem r10_Less_s {h : Heap} (hw : WF h) {a b : TAddr} : calling tb (den tb) h fn_r10_Less [.agg a.c, .agg b.c] = some (.b (a.less b), some h) := by
  rw [go_fn f_r10_Less]
  unfold TAddr.less
  by_cases hv : a.V = b.V
  case neg => simp -implicitDefEqProofs (maxSteps := 4000000) (disch := first | omega | (simp only [go_sem, WF, List.length_take] <;> omega) | fail) only [go_sem, ↓reduceIte, Nat.reduceEqDiff, Nat.reduceAdd, Nat.reduceSub, Nat.reduceMul, Nat.reduceLeDiff, Nat.reduceLT, reduceCtorEq, Int.reduceEq, Int.reduceLT, Int.reduceLE, Int.reduceAdd, Int.reduceSub, Int.reduceMul, Int.reduceNeg, Int.reduceToNat, c_r10_Less, hv]
  let S : Nat → Fr × Heap := fun i => ([(2, .ptr h.length 0), (3, .ptr (h.length + 1) 0), (5, .i .i64 (i : Nat))], h ++ [.cells a.c, .cells b.c])
  have loop := lp_scan (F := round [2, 3, 5] (exec tb (den tb) c_r10_Less_l0)) S 16 (fun i => decide (a.B.g i = b.B.g i)) (fun i r => ∃ f X, r = (.ret, f, h ++ X) ∧ get f 4 = .b (decide (((a.B.g i).toNat : Int) < ((b.B.g i).toNat : Int))))
    (by
      intro i hi hp
      have hp' : a.B.g i = b.B.g i := by simpa using hp
      have hw1 := wrap64 (n := (i : Int) + 1) (by omega) (by omega)
      simp only [S]
      simp -implicitDefEqProofs (maxSteps := 4000000) (disch := first | omega | (simp only [go_sem, WF, List.length_take] <;> omega) | fail) only [go_sem, ↓reduceIte, Nat.reduceEqDiff, Nat.reduceAdd, Nat.reduceSub, Nat.reduceMul, Nat.reduceLeDiff, Nat.reduceLT, reduceCtorEq, Int.reduceEq, Int.reduceLT, Int.reduceLE, Int.reduceAdd, Int.reduceSub, Int.reduceMul, Int.reduceNeg, Int.reduceToNat, c_r10_Less_l0, hp', hw1])
    (by
      intro i hi hp
      have hp' : ¬ a.B.g i = b.B.g i := by simpa using hp
      simp only [S]
      simp -implicitDefEqProofs (maxSteps := 4000000) (disch := first | omega | (simp only [go_sem, WF, List.length_take] <;> omega) | fail) only [go_sem, ↓reduceIte, Nat.reduceEqDiff, Nat.reduceAdd, Nat.reduceSub, Nat.reduceMul, Nat.reduceLeDiff, Nat.reduceLT, reduceCtorEq, Int.reduceEq, Int.reduceLT, Int.reduceLE, Int.reduceAdd, Int.reduceSub, Int.reduceMul, Int.reduceNeg, Int.reduceToNat, c_r10_Less_l0, hp']
      exact ⟨_, rfl, by simp, _, _, rfl, rfl⟩)
  simp only [S, Int.cast_ofNat_Int] at loop
  rcases loop with ⟨hall, loop⟩ | ⟨i, hi, hp, hj, r, loop, _, f, X, rfl, hg⟩
  · have e : ((List.range 16).find? fun i => !decide (a.B.g i = b.B.g i)) = none := by
      rw [List.find?_eq_none]
      intro i hi
      have := hall i (List.mem_range.1 hi)
      simpa using this
    simp -implicitDefEqProofs (maxSteps := 4000000) (disch := first | omega | (simp only [go_sem, WF, List.length_take] <;> omega) | fail) only [go_sem, ↓reduceIte, Nat.reduceEqDiff, Nat.reduceAdd, Nat.reduceSub, Nat.reduceMul, Nat.reduceLeDiff, Nat.reduceLT, reduceCtorEq, Int.reduceEq, Int.reduceLT, Int.reduceLE, Int.reduceAdd, Int.reduceSub, Int.reduceMul, Int.reduceNeg, Int.reduceToNat, c_r10_Less, hv, e, loop]
    simp -implicitDefEqProofs (maxSteps := 4000000) (disch := first | omega | (simp only [go_sem, WF, List.length_take] <;> omega) | fail) only [go_sem, ↓reduceIte, Nat.reduceEqDiff, Nat.reduceAdd, Nat.reduceSub, Nat.reduceMul, Nat.reduceLeDiff, Nat.reduceLT, reduceCtorEq, Int.reduceEq, Int.reduceLT, Int.reduceLE, Int.reduceAdd, Int.reduceSub, Int.reduceMul, Int.reduceNeg, Int.reduceToNat, c_r10_Less_l0]
  · have e : ((List.range 16).find? fun i => !decide (a.B.g i = b.B.g i)) = some i := by
      rw [List.find?_range_eq_some]
      refine ⟨by simpa using hp, List.mem_range.2 hi, fun j hji => ?_⟩
      have := hj j hji
      simpa using this
    have e2 : decide (((a.B.g i).toNat : Int) < ((b.B.g i).toNat : Int)) = decide ((a.B.g i).toNat < (b.B.g i).toNat) := by rw [decide_eq_decide]; omega
    rw [e2] at hg
    simp -implicitDefEqProofs (maxSteps := 4000000) (disch := first | omega | (simp only [go_sem, WF, List.length_take] <;> omega) | fail) only [go_sem, ↓reduceIte, Nat.reduceEqDiff, Nat.reduceAdd, Nat.reduceSub, Nat.reduceMul, Nat.reduceLeDiff, Nat.reduceLT, reduceCtorEq, Int.reduceEq, Int.reduceLT, Int.reduceLE, Int.reduceAdd, Int.reduceSub, Int.reduceMul, Int.reduceNeg, Int.reduceToNat, c_r10_Less, hv, e, loop, hg]
def TPrefix.less (p q : TPrefix) : Bool := if p.A = q.A then decide (p.Bits < q.Bits) else p.A.less q.A
@[go_sem] theorem r11_Less_s {h : Heap} (hw : WF h) {p q : TPrefix} : calling tb (den tb) h fn_r11_Less [.agg p.c, .agg q.c] = some (.b (p.less q), some h) := by
  rw [go_fn f_r11_Less]
  unfold TPrefix.less
  by_cases h1 : p.A = q.A
  · simp -implicitDefEqProofs (maxSteps := 4000000) (disch := first | omega | (simp only [go_sem, WF, List.length_take] <;> omega) | fail) only [go_sem, ↓reduceIte, Nat.reduceEqDiff, Nat.reduceAdd, Nat.reduceSub, Nat.reduceMul, Nat.reduceLeDiff, Nat.reduceLT, reduceCtorEq, Int.reduceEq, Int.reduceLT, Int.reduceLE, Int.reduceAdd, Int.reduceSub, Int.reduceMul, Int.reduceNeg, Int.reduceToNat, c_r11_Less, h1]
  · simp -implicitDefEqProofs (maxSteps := 4000000) (disch := first | omega | (simp only [go_sem, WF, List.length_take] <;> omega) | fail) only [go_sem, ↓reduceIte, Nat.reduceEqDiff, Nat.reduceAdd, Nat.reduceSub, Nat.reduceMul, Nat.reduceLeDiff, Nat.reduceLT, reduceCtorEq, Int.reduceEq, Int.reduceLT, Int.reduceLE, Int.reduceAdd, Int.reduceSub, Int.reduceMul, Int.reduceNeg, Int.reduceToNat, c_r11_Less, h1]
end Go.Proofs.Ytggdinpopddhnaa.Am
