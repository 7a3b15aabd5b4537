/-
  What the functions come to: files and configurations.
-/
import Derived.Test.YtggdinpopddhnaaAmCodes
set_option linter.unusedSimpArgs false
set_option linter.unusedVariables false
namespace Go.Proofs.Ytggdinpopddhnaa.Am

@[go_sem] theorem hostport_None_s {h : Heap} (hw : WF h) {e : TEndpoint} : calling tb (den tb) h fn_hostport_None [.agg e.c] = some (.b (decide (e = TEndpoint.z)), some h) := by
  rw [go_fn f_hostport_None]
  simp -implicitDefEqProofs (maxSteps := 4000000) (disch := first | omega | (simp only [go_sem, WF, List.length_take] <;> omega) | fail) only [go_sem, ↓reduceIte, Nat.reduceEqDiff, Nat.reduceAdd, Nat.reduceSub, Nat.reduceMul, Nat.reduceLeDiff, Nat.reduceLT, reduceCtorEq, Int.reduceEq, Int.reduceLT, Int.reduceLE, Int.reduceAdd, Int.reduceSub, Int.reduceMul, Int.reduceNeg, Int.reduceToNat, c_hostport_None]

@[go_sem] theorem slices_Clone_api_Prefix_s {h : Heap} (hw : WF h) {g : GS TPrefix} (hb : g.l.length ≤ 1073741824) : calling tb (den tb) h fn_slices_Clone_api_Prefix [slv 18 TPrefix.c g] = some (slv 18 TPrefix.c g, some h) := by
  rw [go_fn f_slices_Clone_api_Prefix]
  cases g with
  | nil => simp -implicitDefEqProofs (maxSteps := 4000000) (disch := first | omega | (simp only [go_sem, WF, List.length_take] <;> omega) | fail) only [go_sem, ↓reduceIte, Nat.reduceEqDiff, Nat.reduceAdd, Nat.reduceSub, Nat.reduceMul, Nat.reduceLeDiff, Nat.reduceLT, reduceCtorEq, Int.reduceEq, Int.reduceLT, Int.reduceLE, Int.reduceAdd, Int.reduceSub, Int.reduceMul, Int.reduceNeg, Int.reduceToNat, c_slices_Clone_api_Prefix]
  | mk l =>
    simp only [GS.l_mk] at hb
    rcases l with _ | ⟨x, l⟩
    · simp -implicitDefEqProofs (maxSteps := 4000000) (disch := first | omega | (simp only [go_sem, WF, List.length_take] <;> omega) | fail) only [go_sem, ↓reduceIte, Nat.reduceEqDiff, Nat.reduceAdd, Nat.reduceSub, Nat.reduceMul, Nat.reduceLeDiff, Nat.reduceLT, reduceCtorEq, Int.reduceEq, Int.reduceLT, Int.reduceLE, Int.reduceAdd, Int.reduceSub, Int.reduceMul, Int.reduceNeg, Int.reduceToNat, c_slices_Clone_api_Prefix]
    · simp only [List.length_cons] at hb
      simp -implicitDefEqProofs (maxSteps := 4000000) (disch := first | omega | (simp only [go_sem, WF, List.length_take] <;> omega) | fail) only [go_sem, ↓reduceIte, Nat.reduceEqDiff, Nat.reduceAdd, Nat.reduceSub, Nat.reduceMul, Nat.reduceLeDiff, Nat.reduceLT, reduceCtorEq, Int.reduceEq, Int.reduceLT, Int.reduceLE, Int.reduceAdd, Int.reduceSub, Int.reduceMul, Int.reduceNeg, Int.reduceToNat, c_slices_Clone_api_Prefix]

@[go_sem] theorem compile_Of_1_s {h : Heap} (hw : WF h) {p : TPeer} (hb : p.Allowed.l.length ≤ 1073741824) :
    calling tb (den tb) h fn_compile_Of_1 [.agg p.c] = some (.agg (TIniPeer.c ⟨p.Key, p.Psk, p.End, p.Keep, p.Allowed⟩), some h) := by
  rw [go_fn f_compile_Of_1]
  simp -implicitDefEqProofs (maxSteps := 4000000) (disch := first | omega | (simp only [go_sem, WF, List.length_take] <;> omega) | fail) only [go_sem, ↓reduceIte, Nat.reduceEqDiff, Nat.reduceAdd, Nat.reduceSub, Nat.reduceMul, Nat.reduceLeDiff, Nat.reduceLT, reduceCtorEq, Int.reduceEq, Int.reduceLT, Int.reduceLE, Int.reduceAdd, Int.reduceSub, Int.reduceMul, Int.reduceNeg, Int.reduceToNat, c_compile_Of_1]

/-- each: a slice's elements, one by one -/
theorem compile_each_api_Peer_api_IniPeer_s {h : Heap} (hw : WF h) {g : GS TPeer} {fn : Nat} {F : TPeer → TIniPeer} (hb : g.l.length ≤ 1073741824)
    (hF : ∀ x ∈ g.l, ∀ h, WF h → calling tb (den tb) h fn [.agg x.c] = some (.agg (F x).c, some h)) :
    calling tb (den tb) h fn_compile_each_api_Peer_api_IniPeer [slv 86 TPeer.c g, .fn (.func fn) [] []] = some (slv 84 TIniPeer.c (GS.of (g.l.map F)), some h) := by
  rw [go_fn f_compile_each_api_Peer_api_IniPeer]
  let els : Nat → List (List AV) := fun i => (g.l.take i).map fun x => (F x).c
  let S : Nat → Fr × Heap := fun i => ([(1, .fn (.func fn) [] []), (5, acc h.length (els i)), (8, slv 86 TPeer.c g), (9, .i .i64 (g.l.length : Nat)), (10, .i .i64 (i : Nat))], h ++ accL 84 (els i))
  have loop := lp_for (F := round [1, 5, 8, 9, 10] (exec tb (den tb) c_compile_each_api_Peer_api_IniPeer_l0)) S g.l.length (by
    intro i hi
    have hE : els (i + 1) = els i ++ [(F g.l[i]).c] := by simp [els, List.take_add_one, hi]
    have hl : (els i).length = i := by simp [els]; omega
    have hm : mentLL (els i) = 0 := mentLL_map (fun x => TIniPeer.mentL_c) _
    have hw1 := wrap64 (n := (i : Int) + 1) (by omega) (by omega)
    have hx := hF g.l[i] (List.getElem_mem hi)
    simp only [S]
    rw [hE]
    generalize els i = E at *
    rcases E with _ | ⟨e, E⟩ <;> simp only [mentLL, List.length_cons, List.length_nil] at hm hl
    · simp -implicitDefEqProofs (maxSteps := 4000000) (disch := first | omega | (simp only [go_sem, WF, List.length_take] <;> omega) | fail) only [go_sem, ↓reduceIte, Nat.reduceEqDiff, Nat.reduceAdd, Nat.reduceSub, Nat.reduceMul, Nat.reduceLeDiff, Nat.reduceLT, reduceCtorEq, Int.reduceEq, Int.reduceLT, Int.reduceLE, Int.reduceAdd, Int.reduceSub, Int.reduceMul, Int.reduceNeg, Int.reduceToNat, c_compile_each_api_Peer_api_IniPeer_l0, slv_ia hi, hx, hw1]
    · simp -implicitDefEqProofs (maxSteps := 4000000) (disch := first | omega | (simp only [go_sem, WF, List.length_take] <;> omega) | fail) only [go_sem, ↓reduceIte, Nat.reduceEqDiff, Nat.reduceAdd, Nat.reduceSub, Nat.reduceMul, Nat.reduceLeDiff, Nat.reduceLT, reduceCtorEq, Int.reduceEq, Int.reduceLT, Int.reduceLE, Int.reduceAdd, Int.reduceSub, Int.reduceMul, Int.reduceNeg, Int.reduceToNat, c_compile_each_api_Peer_api_IniPeer_l0, slv_ia hi, hx, hw1])
  have hE : els g.l.length = (g.l.map F).map TIniPeer.c := by simp only [els, List.take_length, List.map_map]; rfl
  have h0 : els 0 = [] := rfl
  simp only [S, hE, h0, acc_nil, accL_nil, List.append_nil, Int.cast_ofNat_Int] at loop
  simp -implicitDefEqProofs (maxSteps := 4000000) (disch := first | omega | (simp only [go_sem, WF, List.length_take] <;> omega) | fail) only [go_sem, ↓reduceIte, Nat.reduceEqDiff, Nat.reduceAdd, Nat.reduceSub, Nat.reduceMul, Nat.reduceLeDiff, Nat.reduceLT, reduceCtorEq, Int.reduceEq, Int.reduceLT, Int.reduceLE, Int.reduceAdd, Int.reduceSub, Int.reduceMul, Int.reduceNeg, Int.reduceToNat, c_compile_each_api_Peer_api_IniPeer, loop]
  simp -implicitDefEqProofs (maxSteps := 4000000) (disch := first | omega | (simp only [go_sem, WF, List.length_take] <;> omega) | fail) only [go_sem, ↓reduceIte, Nat.reduceEqDiff, Nat.reduceAdd, Nat.reduceSub, Nat.reduceMul, Nat.reduceLeDiff, Nat.reduceLT, reduceCtorEq, Int.reduceEq, Int.reduceLT, Int.reduceLE, Int.reduceAdd, Int.reduceSub, Int.reduceMul, Int.reduceNeg, Int.reduceToNat, c_compile_each_api_Peer_api_IniPeer_l0]

@[go_sem] theorem compile_Of_s {h : Heap} (hw : WF h) {c : TConf} (hb : c.Peers.l.length ≤ 1073741824) (hc : ∀ p ∈ c.Peers.l, p.Allowed.l.length ≤ 1073741824) :
    calling tb (den tb) h fn_compile_Of [.agg c.c] = some (.agg (TIni.c ⟨c.Private, c.Port, c.Mark, GS.of (c.Peers.l.map fun p => ⟨p.Key, p.Psk, p.End, p.Keep, p.Allowed⟩)⟩), some h) := by
  rw [go_fn f_compile_Of]
  have hF : ∀ x ∈ c.Peers.l, ∀ h, WF h → calling tb (den tb) h fn_compile_Of_1 [.agg x.c] = some (.agg (TIniPeer.c ⟨x.Key, x.Psk, x.End, x.Keep, x.Allowed⟩), some h) := fun x hx h hw => compile_Of_1_s hw (hc x hx)
  have he := fun (h : Heap) (hw : WF h) => compile_each_api_Peer_api_IniPeer_s hw (F := fun x => ⟨x.Key, x.Psk, x.End, x.Keep, x.Allowed⟩) hb hF
  simp -implicitDefEqProofs (maxSteps := 4000000) (disch := first | omega | (simp only [go_sem, WF, List.length_take] <;> omega) | fail) only [go_sem, ↓reduceIte, Nat.reduceEqDiff, Nat.reduceAdd, Nat.reduceSub, Nat.reduceMul, Nat.reduceLeDiff, Nat.reduceLT, reduceCtorEq, Int.reduceEq, Int.reduceLT, Int.reduceLE, Int.reduceAdd, Int.reduceSub, Int.reduceMul, Int.reduceNeg, Int.reduceToNat, c_compile_Of, he]
end Go.Proofs.Ytggdinpopddhnaa.Am
