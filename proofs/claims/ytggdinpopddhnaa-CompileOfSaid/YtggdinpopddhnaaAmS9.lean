/-
  The law: what any configuration says as a file.
-/
import Derived.Test.YtggdinpopddhnaaAmS8
set_option linter.unusedSimpArgs false
set_option linter.unusedVariables false
set_option maxRecDepth 100000
namespace Go.Proofs.Ytggdinpopddhnaa.Am

theorem owned_mem {l : List TPeer} {p : TPeer} (hp : p ∈ l) : p.Allowed.l.length ≤ (owned l).length := by
  induction l with
  | nil => cases hp
  | cons x l ih =>
    simp only [owned, List.flatMap_cons, List.length_append]
    rcases List.mem_cons.1 hp with rfl | hp
    · omega
    · have := ih hp
      simp only [owned] at this
      omega
theorem right_ini {c : TConf} (h : c.right = true) : c.ini.right = true := by
  simp only [TConf.right, Bool.and_eq_true, decide_eq_true_eq] at h
  obtain ⟨h1, h2, h3, h4⟩ := h
  rw [range_all] at h3
  simp only [TIni.right, TConf.ini, GS.l_of, List.length_map, Bool.and_eq_true, decide_eq_true_eq, Bool.not_eq_true']
  refine ⟨h1, by omega, ?_⟩
  rw [List.any_eq_false]
  intro x hx
  obtain ⟨p, hp, rfl⟩ := List.mem_map.1 hx
  obtain ⟨i, hi, rfl⟩ := List.getElem_of_mem hp
  have hq := h3 i hi
  simp only [peerAt, List.getElem?_eq_getElem hi, Option.all_some, Bool.and_eq_true] at hq
  obtain ⟨hf, _, hpre⟩ := hq
  have hle := owned_mem hp
  simp only [TPeer.fits, Bool.and_eq_true, Bool.not_eq_true', decide_eq_false_iff_not, Bool.or_eq_true, decide_eq_true_eq] at hf
  obtain ⟨f1, f2, f3⟩ := hf
  have f4 : ¬ 64 < (c.Peers.l[i]).Allowed.l.length := by omega
  have f5 : ((c.Peers.l[i]).Allowed.l.any fun q => !q.ok) = false := by
    rw [List.any_eq_false]
    intro q hq
    obtain ⟨k, hk, rfl⟩ := List.getElem_of_mem hq
    rw [prefsOk, range_all] at hpre
    have := hpre k hk
    simp only [prefAt, List.getElem?_eq_getElem hk, Option.all_some, Bool.and_eq_true] at this
    simp [this.1]
  simp only [TIniPeer.wrong, TPeer.ini, f1, f2, f4, f5, decide_false, Bool.not_true, Bool.false_or, Bool.or_false]
  rcases f3 with f3 | f3 <;> simp [f3]
theorem same_self (x : TIni) : x.same x = true := by
  simp only [TIni.same, decide_true, Bool.true_and]
  rw [List.all_eq_true]
  intro p hp
  obtain ⟨i, hi, rfl⟩ := List.getElem_of_mem hp
  simp [TIniPeer.same]
theorem ini_of {c : TConf} : (⟨c.Private, c.Port, c.Mark, GS.of (c.Peers.l.map fun p => ⟨p.Key, p.Psk, p.End, p.Keep, p.Allowed⟩)⟩ : TIni) = c.ini := rfl

theorem l45_CompileOf_s {h : Heap} (hw : WF h) {c : TConf} : calling tb (den tb) h fn_l45_CompileOf [.agg c.c] = some (.b true, some h) := by
  rw [go_fn f_l45_CompileOf]
  have hla := fun (h : Heap) (hw : WF h) => r34_Large_s hw (c := c)
  have hal := fun (h : Heap) (hw : WF h) => l45_alive_s hw
  cases hl : c.large
  · have hl' := hl
    simp only [TConf.large, Bool.or_eq_false_iff, decide_eq_false_iff_not, Bool.not_eq_false', List.all_eq_true, decide_eq_true_eq] at hl'
    obtain ⟨h1, h2⟩ := hl'
    have h2' : ∀ p ∈ c.Peers.l, p.Allowed.l.length ≤ 1073741824 := fun p hp => by have := h2 p hp; omega
    have h2'' : ∀ p ∈ c.Peers.l, p.Allowed.l.length ≤ 1000 := fun p hp => by have := h2 p hp; omega
    have hof := fun (h : Heap) (hw : WF h) => compile_Of_s hw (c := c) (by omega) h2'
    have hrf := fun (h : Heap) (hw : WF h) => r45_Of_s hw (c := c) (by omega)
    have hpi : c.ini.Peers.l.length ≤ 1073741824 := by simp only [TConf.ini, GS.l_of, List.length_map]; omega
    have hpa : ∀ p ∈ c.ini.Peers.l, p.Allowed.l.length ≤ 1073741824 := by
      intro p hp
      simp only [TConf.ini, GS.l_of] at hp
      obtain ⟨q, hq, rfl⟩ := List.mem_map.1 hp
      exact h2' q hq
    have hsm := fun (h : Heap) (hw : WF h) => r43_Same_s hw (a := c.ini) (b := c.ini) hpi hpa
    have hri := fun (h : Heap) (hw : WF h) => r34_Right_s hw (c := c) h2''
    have hir := fun (h : Heap) (hw : WF h) => iniwrite_Right_s hw (x := c.ini) hpi hpa
    simp only [ini_of] at hof
    cases hr : c.right
    · simp -implicitDefEqProofs (maxSteps := 4000000) (disch := first | omega | (simp only [go_sem, WF, List.length_take] <;> omega) | fail) only [go_sem, ↓reduceIte, if_pos, if_neg, Nat.reduceEqDiff, Nat.reduceAdd, Nat.reduceSub, Nat.reduceMul, Nat.reduceLeDiff, Nat.reduceLT, Int.toNat_natCast, reduceCtorEq, Bool.false_eq_true, Nat.add_zero, Nat.zero_add, List.getElem?_cons_zero, List.getElem?_cons_succ, List.getElem_cons_zero, List.take_succ_cons, List.take_zero, List.drop_zero, List.drop_succ_cons, true_and, and_true, Int.toNat_zero, most, List.append_nil, List.nil_append, Nat.max_eq_left, Nat.max_eq_right, decide_true, decide_false, Bool.not_true, Bool.not_false, beq_self_eq_true, beq_true, beq_false, Bool.true_and, Bool.and_true, Bool.false_and, Bool.and_false, Bool.true_or, Bool.or_true, Bool.false_or, Bool.or_false, Nat.add_sub_cancel_left, Nat.add_sub_cancel, Nat.mul_one, Nat.one_mul, not_true_eq_false, not_false_eq_true, Int.reduceEq, Int.reduceLT, Int.reduceLE, Int.reduceAdd, Int.reduceSub, Int.reduceMul, Int.reduceNeg, Int.reduceToNat, c_l45_CompileOf, hla, hal, hl, hof, hrf, hsm, same_self, hri, hr]
    · have hr2 := right_ini hr
      simp -implicitDefEqProofs (maxSteps := 4000000) (disch := first | omega | (simp only [go_sem, WF, List.length_take] <;> omega) | fail) only [go_sem, ↓reduceIte, if_pos, if_neg, Nat.reduceEqDiff, Nat.reduceAdd, Nat.reduceSub, Nat.reduceMul, Nat.reduceLeDiff, Nat.reduceLT, Int.toNat_natCast, reduceCtorEq, Bool.false_eq_true, Nat.add_zero, Nat.zero_add, List.getElem?_cons_zero, List.getElem?_cons_succ, List.getElem_cons_zero, List.take_succ_cons, List.take_zero, List.drop_zero, List.drop_succ_cons, true_and, and_true, Int.toNat_zero, most, List.append_nil, List.nil_append, Nat.max_eq_left, Nat.max_eq_right, decide_true, decide_false, Bool.not_true, Bool.not_false, beq_self_eq_true, beq_true, beq_false, Bool.true_and, Bool.and_true, Bool.false_and, Bool.and_false, Bool.true_or, Bool.or_true, Bool.false_or, Bool.or_false, Nat.add_sub_cancel_left, Nat.add_sub_cancel, Nat.mul_one, Nat.one_mul, not_true_eq_false, not_false_eq_true, Int.reduceEq, Int.reduceLT, Int.reduceLE, Int.reduceAdd, Int.reduceSub, Int.reduceMul, Int.reduceNeg, Int.reduceToNat, c_l45_CompileOf, hla, hal, hl, hof, hrf, hsm, same_self, hri, hr, hir, hr2]
  · simp -implicitDefEqProofs (maxSteps := 4000000) (disch := first | omega | (simp only [go_sem, WF, List.length_take] <;> omega) | fail) only [go_sem, ↓reduceIte, if_pos, if_neg, Nat.reduceEqDiff, Nat.reduceAdd, Nat.reduceSub, Nat.reduceMul, Nat.reduceLeDiff, Nat.reduceLT, Int.toNat_natCast, reduceCtorEq, Bool.false_eq_true, Nat.add_zero, Nat.zero_add, List.getElem?_cons_zero, List.getElem?_cons_succ, List.getElem_cons_zero, List.take_succ_cons, List.take_zero, List.drop_zero, List.drop_succ_cons, true_and, and_true, Int.toNat_zero, most, List.append_nil, List.nil_append, Nat.max_eq_left, Nat.max_eq_right, decide_true, decide_false, Bool.not_true, Bool.not_false, beq_self_eq_true, beq_true, beq_false, Bool.true_and, Bool.and_true, Bool.false_and, Bool.and_false, Bool.true_or, Bool.or_true, Bool.false_or, Bool.or_false, Nat.add_sub_cancel_left, Nat.add_sub_cancel, Nat.mul_one, Nat.one_mul, not_true_eq_false, not_false_eq_true, Int.reduceEq, Int.reduceLT, Int.reduceLE, Int.reduceAdd, Int.reduceSub, Int.reduceMul, Int.reduceNeg, Int.reduceToNat, c_l45_CompileOf, hla, hal, hl]
end Go.Proofs.Ytggdinpopddhnaa.Am
