/-
  A call of the machine's is the model's.
-/
import Derived.Test.YtobejhpigbllpaaGreatDoorAmL
namespace Go.Proofs.YtobejhpigbllpaaGreatDoor.Am

section
variable {T : AOp → Oper → Bool} {P : Program} {tb : Tab} {cl : Nat → List AV → Heap → Out} {nt : Nat}

theorem not_own_cut {D : Ctx} (I : Inv tb D) {n id : Nat} (hid : id < D.H.length) (h : ¬ id < n) : ¬ (D.cut n).own (D.φ id).blk := by
  rintro ⟨j, hj, e⟩
  simp only [Ctx.cut, List.length_take] at hj
  have := I.inj j id (by omega) hid e
  omega

theorem frz_same {D : Ctx} {n : Nat} {v : AV} {x : Value} (h : ment v ≤ n) (r : Rep D v x) : Rep (D.cut n) v x ∧ (scal v = true → scal v = true) := ⟨r.cut h, fun h => h⟩

/-- what frz does to a value keeps what it is in the model -/
def FrzOk (D : Ctx) (n : Nat) (F : AV → Option AV) : Prop := ∀ (v v' : AV) (x : Value), F v = some v' → Rep D v x → Rep (D.cut n) v' x ∧ (scal v = true → scal v' = true)

theorem manyO_rep {D : Ctx} {n : Nat} {F : AV → Option AV} (hF : FrzOk D n F) : ∀ {l l' : List AV} {xs : List Value}, manyO F l = some l' → RepL D l xs → RepL (D.cut n) l' xs ∧ (l.all scal = true → l'.all scal = true) ∧ l'.length = l.length
  | [], _, _, h, r => by
    simp only [manyO, Option.some.injEq] at h
    subst h
    exact ⟨r, fun h => h, rfl⟩
  | v :: l, _, _, h, ⟨x, q, e, r, rr⟩ => by
    simp only [manyO] at h
    obtain ⟨v', hv, h⟩ := Option.bind_eq_some_iff.1 h
    obtain ⟨l', hl, rfl⟩ := Option.map_eq_some_iff.1 h
    obtain ⟨h1, h2⟩ := hF _ _ _ hv r
    obtain ⟨h3, h4, h5⟩ := manyO_rep hF hl rr
    refine ⟨⟨x, q, e, h1, h3⟩, fun hs => ?_, by simp [h5]⟩
    simp only [List.all_cons, Bool.and_eq_true] at hs ⊢
    exact ⟨h2 hs.1, h4 hs.2⟩
theorem manyOO_rep {D : Ctx} {n sz : Nat} {F : AV → Option AV} (hF : FrzOk D n F) : ∀ {l l' : List (List AV)} {xs : List (List Value)}, manyO (manyO F) l = some l' → RepLL D l xs → (∀ e ∈ l, e.length = sz ∧ e.all scal = true) →
    RepLL (D.cut n) l' xs ∧ (∀ e ∈ l', e.length = sz ∧ e.all scal = true) ∧ l'.length = l.length
  | [], _, _, h, r, _ => by
    simp only [manyO, Option.some.injEq] at h
    subst h
    exact ⟨r, fun e h => (by cases h), rfl⟩
  | v :: l, _, _, h, ⟨x, q, e, r, rr⟩, hs => by
    simp only [manyO] at h
    obtain ⟨v', hv, h⟩ := Option.bind_eq_some_iff.1 h
    obtain ⟨l', hl, rfl⟩ := Option.map_eq_some_iff.1 h
    obtain ⟨h1, h2, h6⟩ := manyO_rep hF hv r
    obtain ⟨h3, h4, h5⟩ := manyOO_rep hF hl rr fun e he => hs e (List.mem_cons_of_mem _ he)
    refine ⟨⟨x, q, e, h1, h3⟩, fun e he => ?_, by simp [h5]⟩
    have h0 := hs v List.mem_cons_self
    rcases List.mem_cons.1 he with rfl | he
    · exact ⟨h6.trans h0.1, h2 h0.2⟩
    · exact h4 e he

theorem frz_rep {D : Ctx} (I : Inv tb D) {n : Nat} : ∀ d, FrzOk D n (frz D.H n d)
  | 0 => fun v v' x h r => by
    simp only [frz] at h
    split at h
    · rename_i hm
      obtain rfl := Option.some.inj h
      exact frz_same hm r
    · cases h
  | d + 1 => fun v v' x h r => by
    simp only [frz] at h
    split at h
    · rename_i hm
      obtain rfl := Option.some.inj h
      exact frz_same hm r
    · rename_i hm
      have ih := frz_rep I (n := n) d
      split at h
      · rename_i id k lo len
        have hid : ¬ id < n := by simp only [ment] at hm; omega
        obtain ⟨_, fz, sz, els, hg, hle, q⟩ := r
        simp only [hg, Option.bind_some] at h
        split at h
        · rename_i hc
          obtain ⟨hk, hlo⟩ := hc
          obtain ⟨els', he, rfl⟩ := Option.map_eq_some_iff.1 h
          refine ⟨?_, fun _ => rfl⟩
          obtain ⟨_, off, cap, rfl, hlc, hoff, _, _⟩ := q hk
          obtain ⟨tl, hg', hlab⟩ := row_get hg
          obtain ⟨vss, arr, et, fr, ⟨h1, _⟩, h2, h3, h4, h5, h6, h7, h8, h9⟩ := I.obj id _ hg'
          have hlens := RepLL.lens (fun x hx => (h4 x hx).1) h5
          have hlen : ((els.drop lo).take len).length = len := by simp only [List.length_take, List.length_drop]; omega
          obtain ⟨q1, q2, q3⟩ := manyOO_rep (sz := sz) ih he (h5.drop.take) fun e he => h4 e (List.mem_of_mem_drop (List.mem_of_mem_take he))
          refine .inl ⟨(D.φ id).blk, off, cap, (vss.drop lo).take len, by rw [q3, hlen], by rw [q3, hlen]; exact hlc, I.lt id (lt_of_get hg'), not_own_cut I (lt_of_get hg') hid, ?_, q2, q1⟩
          intro j v hj
          have hpos : 0 < len := by
            rcases Nat.eq_zero_or_pos len with h | h
            · subst h; simp at hj
            · exact h
          rw [hoff hpos]
          have hh := h7.sub (lo * sz) (len * sz)
          refine hh j v ?_
          rw [flatten_take (sz := sz) _ _ (fun x hx => hlens x (List.mem_of_mem_drop hx)), flatten_drop (sz := sz) _ _ hlens] at hj
          exact hj
        · cases h
      · rename_i sz id off len
        have hid : ¬ id < n := by simp only [ment] at hm; omega
        obtain ⟨_, o, cap, rfl, hlc, hoff, hsz⟩ := r
        obtain ⟨cs, hc, h⟩ := Option.bind_eq_some_iff.1 h
        split at h
        · rename_i hcond
          obtain ⟨els', he, rfl⟩ := Option.map_eq_some_iff.1 h
          refine ⟨?_, fun _ => rfl⟩
          obtain ⟨tl, hg, hlab⟩ := cells_get hc
          obtain ⟨vs, arr, et, fr, ⟨h1, _⟩, h2, h3, h4, h5, h6⟩ := I.obj id _ hg
          obtain ⟨c1, c2, vss, c3, c4⟩ := chunks_spec (C := D) sz len (cs.drop off) (vs.drop off) D.w (D.φ id).blk off (by
            simp only [List.all_eq_true] at h3 ⊢
            exact fun x hx => h3 x (List.mem_of_mem_drop hx)) h4.drop (by
            have := h5.sub off (vs.drop off).length
            rw [Nat.zero_add] at this
            rwa [List.take_of_length_le (Nat.le_refl _)] at this) (by simp only [List.length_drop]; omega)
          obtain ⟨q1, q2, q3⟩ := manyOO_rep (sz := sz) ih he c4 c2
          refine .inl ⟨(D.φ id).blk, o, cap, vss, by rw [q3, c1], by rw [q3, c1]; exact hlc, I.lt id (lt_of_get hg), not_own_cut I (lt_of_get hg) hid, ?_, q2, q1⟩
          intro j v hj
          have hpos : 0 < len := by
            rcases Nat.eq_zero_or_pos len with h | h
            · subst h
              simp only [chunks] at c4
              rw [show vss = [] from c4] at hj
              simp at hj
            · exact h
          rw [hoff hpos]
          exact c3 j v hj
        · cases h
      · rename_i sz els
        obtain ⟨els', he, rfl⟩ := Option.map_eq_some_iff.1 h
        refine ⟨?_, fun _ => rfl⟩
        rcases r with ⟨b, base, cap, vss, rfl, hlc, hlt, hown, hh, hs, hr⟩ | ⟨rfl, p, cap, rfl⟩
        · obtain ⟨q1, q2, q3⟩ := manyOO_rep (sz := sz) ih he hr hs
          exact .inl ⟨b, base, cap, vss, by rw [q3], by rw [q3]; exact hlc, hlt, cut_own hown, hh, q2, q1⟩
        · simp only [manyO, Option.some.injEq] at he
          subst he
          exact .inr ⟨rfl, p, cap, rfl⟩
      · rename_i cs
        obtain ⟨vs, e, s, q⟩ := r
        obtain ⟨cs', hc, rfl⟩ := Option.map_eq_some_iff.1 h
        obtain ⟨h1, h2, _⟩ := manyO_rep ih hc q
        exact ⟨⟨vs, e, h2 s, h1⟩, fun h => by simp [scal] at h⟩
      · rename_i cs
        obtain ⟨vs, e, q⟩ := r
        obtain ⟨cs', hc, rfl⟩ := Option.map_eq_some_iff.1 h
        exact ⟨⟨vs, e, (manyO_rep ih hc q).1⟩, fun h => by simp [scal] at h⟩
      · cases h
theorem frzL_rep {D : Ctx} (I : Inv tb D) {n : Nat} {l l' : List AV} {xs : List Value} (h : frzL D.H n l = some l') (r : RepL D l xs) : RepL (D.cut n) l' xs ∧ (l.all scal = true → l'.all scal = true) :=
  ⟨(manyO_rep (frz_rep I 12) h r).1, (manyO_rep (frz_rep I 12) h r).2.1⟩

theorem leave_sound {C D : Ctx} (X : Ext C D) (I : Inv tb D) (hg : ∀ g cs, tb.gl g = some cs → mentL cs = 0) {vs : List AV} {xs : List Value} (h : RepL D vs xs) :
    ∃ D' : Ctx, Ext C D' ∧ Inv tb D' ∧ D'.w = D.w ∧ D'.H = (leave C.H.length D.H vs).2.getD C.H ∧ Rep D' (leave C.H.length D.H vs).1 (packV xs) := by
  unfold leave
  split
  · rename_i vs' hf
    split
    · rename_i hm
      exact ⟨D.cut C.H.length, X.cut (Nat.le_refl _), I.cut hm hg, rfl, rfl, packed_rep (frzL_rep I hf h).1⟩
    · exact ⟨D, X, I, rfl, rfl, packed_rep h⟩
  · exact ⟨D, X, I, rfl, rfl, packed_rep h⟩

theorem quit_sound {C D : Ctx} (X : Ext C D) (I : Inv tb D) (hg : ∀ g cs, tb.gl g = some cs → mentL cs = 0) {warm : Bool} {vs : List AV} {xs : List Value} (h : RepL D vs xs) :
    ∃ D' : Ctx, Ext C D' ∧ Inv tb D' ∧ D'.w = D.w ∧ D'.H = (quit warm C.H.length D.H vs).2.getD C.H ∧ Rep D' (quit warm C.H.length D.H vs).1 (packV xs) := by
  cases warm
  · exact leave_sound X I hg h
  · exact ⟨D, X, I, rfl, rfl, packed_rep h⟩

theorem get_args : ∀ (l : List AV) (k t : Nat), get ((l.zipIdx k).map fun p => (p.2, p.1)) t = if k ≤ t then l[t - k]?.getD .junk else .junk
  | [], k, t => by simp [get]
  | v :: l, k, t => by
    simp only [List.zipIdx_cons, List.map_cons, get]
    rw [get_args l (k + 1) t]
    by_cases h : k = t
    · subst h; simp
    · rw [if_neg h]
      by_cases h1 : k ≤ t
      · rw [if_pos (show k + 1 ≤ t by omega), if_pos h1, show t - k = (t - (k + 1)) + 1 by omega]
        simp
      · rw [if_neg (by omega), if_neg h1]

theorem fr_args {C : Ctx} {args : List AV} {vs : List Value} (h : RepL C args vs) {m : Nat} (hm : args.length ≤ m) :
    FrRel C (args.zipIdx.map fun p => (p.2, p.1)) { tmps := vs.toArray ++ Array.replicate (m - vs.toArray.size) undef, defers := [] } m := by
  have hl := h.length
  refine ⟨fun t => ?_, by simp; omega, rfl⟩
  rw [get_args, if_pos (Nat.zero_le _), Nat.sub_zero]
  cases ht : args[t]? with
  | none => trivial
  | some v =>
    obtain ⟨x, hx, r⟩ := h.get ht
    have : t < vs.length := lt_of_get hx
    simp only [Option.getD_some, Array.getD_eq_getD_getElem?]
    rw [Array.getElem?_append_left (by simpa using this)]
    simpa [hx] using r

theorem okFn_spec {fn : AFn} {g : Nat} (h : okFn T P fn g = true) : ∃ (F : Func) (c : Code), P.funcs[g]? = some F ∧ F.body = some c ∧ okC T fn.nt fn.body c = true ∧ (F.name == "runtime.NumGoroutine") = false ∧ fn.nt = F.ntmps ∧ fn.np ≤ fn.nt ∧
    okRess P fn.res F.results.toList = true := by
  unfold okFn at h
  split at h
  · rename_i F hF
    simp only [Bool.and_eq_true, Bool.not_eq_true', beq_iff_eq, decide_eq_true_eq] at h
    obtain ⟨⟨⟨⟨h1, h2⟩, h3⟩, h4⟩, h5⟩ := h
    split at h1
    · rename_i c hc
      exact ⟨F, c, hF, hc, h1, h2, h3, h4, h5⟩
    · cases h1
  · cases h

theorem body_sound (hm : P.follows .mixedOrders = true) (hT : ∀ ao o, T ao o = true → OpOk P tb ao o) (hcl : CallsOk P tb fun g args h => calling tb cl h g args) (hg : ∀ g cs, tb.gl g = some cs → mentL cs = 0)
    {fn : AFn} {g : Nat} (hok : okFn T P fn g = true) {C : Ctx} {args : List AV} {vs : List Value} {r : AV × Option Heap} (I : Inv tb C) (hr : RepL C args vs) (h : body tb cl fn args C.H = some r) :
    Calls P g vs.toArray C.w (After tb C r) := by
  obtain ⟨F, c, hF, hc, h1, h2, h3, h4, h5⟩ := okFn_spec hok
  simp only [body] at h
  split at h
  · rename_i hnp
    obtain ⟨⟨e, f, h'⟩, he, h⟩ := Option.bind_eq_some_iff.1 h
    refine calls_of_wp hF hc ?_
    rw [← h3]
    refine exec_sound hm hT hcl hg fn.body c h1 he I (fr_args hr (by omega)) fun D a' N => ?_
    obtain ⟨X, ID, hH, FD⟩ := N
    have fin : ∀ us, results f h' fn.res = some us → quit fn.warm C.H.length h' us = r → ∃ v, (Go.results F a'.tmps).run P D.w = .ok v D.w ∧ After tb C r (.returned v) D.w := by
      intro us hus hl
      rw [← hH] at hus hl
      obtain ⟨xs, hx, rx⟩ := run_results ID FD h5 hus
      obtain ⟨D', X', I', hw, hH', r'⟩ := quit_sound (warm := fn.warm) X ID hg rx
      rw [hl] at hH' r'
      exact ⟨_, hx, _, D', rfl, X', I', hw, hH', r'⟩
    cases e with
    | exit id => simp at h
    | normal =>
      obtain ⟨us, hus, hl⟩ := Option.map_eq_some_iff.1 h
      exact ⟨FD.defers, fin us hus hl⟩
    | ret =>
      obtain ⟨us, hus, hl⟩ := Option.map_eq_some_iff.1 h
      exact ⟨FD.defers, fin us hus hl⟩
  · cases h

/-- what the machine knows is the program -/
structure Fits (T : AOp → Oper → Bool) (P : Program) (tb : Tab) : Prop where
  mixed : P.follows .mixedOrders = true
  ops : ∀ ao o, T ao o = true → OpOk P tb ao o
  prims : PrimsOk P tb
  gl : ∀ g cs, tb.gl g = some cs → mentL cs = 0
  fns : ∀ g fn, tb.fns g = some fn → okFn T P fn g = true

theorem enter_of_ok {fn : AFn} {g : Nat} (hok : okFn T P fn g = true) (vs : Array Value) (w : World) : (callFunc g vs).run P w = .ok (.enter g vs) w := by
  obtain ⟨F, c, hF, hc, _, h2, _⟩ := okFn_spec hok
  have h2' : ¬ F.name = "runtime.NumGoroutine" := by simpa using h2
  simp [callFunc, hF, hc, h2']

theorem run_calls (ft : Fits T P tb) : ∀ n, CallsOk P tb (run tb n)
  | 0 => fun g C args vs r I hr h => by simp [run] at h
  | n + 1 => fun g C args vs r I hr h => by
    simp only [run] at h
    obtain ⟨fn, hfn, h⟩ := Option.bind_eq_some_iff.1 h
    have hok := ft.fns g fn hfn
    exact .inr ⟨g, vs.toArray, enter_of_ok hok _ _, body_sound ft.mixed ft.ops (callsOk_calling ft.prims (run_calls ft n)) ft.gl hok I hr h⟩

/-- what a call comes to in the machine, it comes to in the model -/
theorem den_calls (ft : Fits T P tb) {g : Nat} {C : Ctx} {args : List AV} {vs : List Value} {r : AV × Option Heap} (I : Inv tb C) (hr : RepL C args vs) (h : den tb g args C.H = some r) : Calls P g vs.toArray C.w (After tb C r) := by
  unfold den at h
  split at h
  · generalize Classical.choose _ = n at h
    cases n with
    | zero => simp [run] at h
    | succ n =>
      simp only [run] at h
      obtain ⟨fn, hfn, h⟩ := Option.bind_eq_some_iff.1 h
      exact body_sound ft.mixed ft.ops (callsOk_calling ft.prims (run_calls ft n)) ft.gl (ft.fns g fn hfn) I hr h
  · cases h

end
end Go.Proofs.YtobejhpigbllpaaGreatDoor.Am
