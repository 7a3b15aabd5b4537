/-
  strings.Builder: what its methods come to, on a builder in memory of its own.
-/
import Derived.Test.YtobejhpigbllpaaGreatDoorSmP
import Derived.Test.YtobejhpigbllpaaGreatDoorAmV
namespace Go.Proofs.YtobejhpigbllpaaGreatDoor.Am

/-! the codes of its methods: te bytes' type, tB its own, ncc and nne functions' numbers -/
def ccCode (tB nne : Nat) : AFn := ⟨false, 1, 20, [],
  (.seq (rg false [⟨some 2, none, .mv (.t 0)⟩, ⟨some 3, none, .nilc (.t 2)⟩, ⟨some 4, none, .fa 0 (.t 3)⟩, ⟨some 5, none, .ld false 1 (.t 4)⟩, ⟨some 6, none, .eq false .p (.t 5) (.k (.nilp))⟩])
  (.cond (.t 6)
   (rg false [⟨some 7, none, .mv (.t 0)⟩, ⟨some 8, none, .mv (.t 0)⟩, ⟨some 9, none, .cvp (.t 8)⟩, ⟨some 10, none, .call nne [(.t 9)]⟩, ⟨some 11, none, .cvu tB 2 (.t 10)⟩, ⟨some 12, none, .nilc (.t 7)⟩, ⟨some 13, none, .fa 0 (.t 12)⟩, ⟨none, none, .st 1 (.t 13) (.t 11)⟩])
   (.seq (rg false [⟨some 14, none, .mv (.t 0)⟩, ⟨some 15, none, .nilc (.t 14)⟩, ⟨some 16, none, .fa 0 (.t 15)⟩, ⟨some 17, none, .ld false 1 (.t 16)⟩, ⟨some 18, none, .mv (.t 0)⟩, ⟨some 19, none, .eqp true (.t 17) (.t 18)⟩])
   (.cond (.t 19)
    .stop
    .skip))))⟩
def wsCode (te ncc : Nat) : AFn := ⟨false, 2, 19, [.tmp 4, .tmp 5],
  (.seq (rg false [⟨some 4, none, .mv (.k (.i .i64 0))⟩, ⟨some 5, none, .mv (.k (.nili))⟩])
  (.seq (rg false [⟨some 6, none, .mv (.t 0)⟩, ⟨some 7, none, .call ncc [(.t 6)]⟩])
  (.seq (rg false [⟨some 8, none, .mv (.t 0)⟩, ⟨some 9, none, .mv (.t 0)⟩, ⟨some 10, none, .nilc (.t 9)⟩, ⟨some 11, none, .fa 1 (.t 10)⟩, ⟨some 12, none, .ld false 1 (.t 11)⟩, ⟨some 13, none, .mv (.t 1)⟩, ⟨some 14, none, .app te 1 1 (.t 12) (.t 13)⟩, ⟨some 15, none, .nilc (.t 8)⟩, ⟨some 16, none, .fa 1 (.t 15)⟩, ⟨none, none, .st 1 (.t 16) (.t 14)⟩])
  (.seq (rg false [⟨some 17, none, .mv (.t 1)⟩, ⟨some 18, none, .lens (.t 17)⟩, ⟨some 4, none, .mv (.t 18)⟩, ⟨some 5, none, .mv (.k (.nili))⟩])
  .ret))))⟩
def wbCode (te ncc : Nat) : AFn := ⟨false, 2, 17, [.tmp 4],
  (.seq (rg false [⟨some 4, none, .mv (.k (.nili))⟩])
  (.seq (rg false [⟨some 5, none, .mv (.t 0)⟩, ⟨some 6, none, .call ncc [(.t 5)]⟩])
  (.seq (rg false [⟨some 7, none, .mv (.t 0)⟩, ⟨some 8, none, .mv (.t 0)⟩, ⟨some 9, none, .nilc (.t 8)⟩, ⟨some 10, none, .fa 1 (.t 9)⟩, ⟨some 11, none, .ld false 1 (.t 10)⟩, ⟨some 12, none, .mv (.t 1)⟩, ⟨some 13, none, .bll 1 (List.replicate 1 T.u8.zc) [(0, (.t 12))]⟩, ⟨some 14, none, .app te 1 1 (.t 11) (.t 13)⟩, ⟨some 15, none, .nilc (.t 7)⟩, ⟨some 16, none, .fa 1 (.t 15)⟩, ⟨none, none, .st 1 (.t 16) (.t 14)⟩])
  (.seq (rg false [⟨some 4, none, .mv (.k (.nili))⟩])
  .ret))))⟩
def bsCode (te : Nat) : AFn := ⟨false, 1, 14, [.tmp 2],
  (.seq (rg false [⟨some 2, none, .mv (.k (.s []))⟩])
  (.seq (.regd [⟨some 3, none, .mv (.t 0)⟩, ⟨some 4, none, .nilc (.t 3)⟩, ⟨some 5, none, .fa 1 (.t 4)⟩, ⟨some 6, none, .ld false 1 (.t 5)⟩, ⟨some 7, none, .usd (.t 6)⟩, ⟨some 8, none, .mv (.t 0)⟩, ⟨some 9, none, .nilc (.t 8)⟩, ⟨some 10, none, .fa 1 (.t 9)⟩, ⟨some 11, none, .ld false 1 (.t 10)⟩, ⟨some 12, none, .len (.t 11)⟩, ⟨some 13, none, .ust te (.t 7) (.t 12)⟩, ⟨some 2, none, .mv (.t 13)⟩] [some (0, 0), some (0, 0), some (0, 0), some (0, 0), some (0, 0), some (0, 0), some (0, 0), some (0, 0), some (0, 0), some (0, 0), none, some (1, 1)])
  .ret))⟩

section
variable {tb : Tab} {tB te ncc nne nws nwb nbs : Nat} {h : Heap} {id : Nat} {a b : AV}

theorem cellsAt_of {cs : List AV} {l : Option Nat} (hh : h[id]? = some (.cells l cs)) : cellsAt h id = some cs ∧ labAt h id = l := ⟨by simp only [cellsAt, hh], by simp only [labAt, hh]⟩
theorem rowAt_of {els : List (List AV)} {l : Option Nat} {fz : Bool} {sz : Nat} (hh : h[id]? = some (.row l fz sz els)) : rowAt h id = some (fz, sz, els) ∧ labAt h id = l := ⟨by simp only [rowAt, hh], by simp only [labAt, hh]⟩

theorem quit_all (fn : Bool) (n : Nat) (h : Heap) (hn : h.length = n) (vs : List AV) (hv : mentL vs = 0) : ∃ u, quit fn n h vs = (packed vs, some u) ∧ u = h := by
  have h1 : frzL h n vs = some vs := by
    unfold frzL
    exact manyO_ment (by omega)
  have h2 : h.take n = h := by rw [← hn]; exact List.take_length
  cases fn
  · simp only [quit, leave, h1, h2]
    split <;> exact ⟨_, rfl, rfl⟩
  · exact ⟨_, rfl, rfl⟩
/-- .. if the memory has grown, and all that it leads to is wanted -/
theorem quit_more (n : Nat) (h : Heap) (hn : ¬ mentH (h.take n) ≤ n) (vs : List AV) (hv : mentL vs = 0) (fn : Bool) : quit fn n h vs = (packed vs, some h) := by
  have h1 : frzL h n vs = some vs := by
    unfold frzL
    exact manyO_ment (by omega)
  cases fn
  · simp only [quit, leave, h1, if_neg hn]
  · rfl

/-- the builder marks itself -/
theorem cc_eval (hf : tb.prim ncc = none ∧ tb.fns ncc = some (ccCode tB nne)) (hne : tb.prim nne = some pSame) (hh : h[id]? = some (.cells (some tB) [a, b])) (ha : a = .nilp ∨ a = .ptr id 0) :
    calling tb (den tb) h ncc [.ptr id 0] = some (.tup [], some (h.set id (.cells (some tB) [.ptr id 0, b]))) := by
  obtain ⟨hc, hl⟩ := cellsAt_of hh
  have hid := (List.getElem?_eq_some_iff.1 hh).1
  simp only [calling, hf.1]
  rw [den_eq, hf.2]
  rcases ha with rfl | rfl
  · obtain ⟨u, hu, rfl⟩ := quit_all false h.length (h.set id (.cells (some tB) [.ptr id 0, b])) (by simp) [] rfl
    simp [body, ccCode, exec, rg, ops, wanted, aop, eval, get, put, val, load, place, shift, hc, hl, asVal, sub, eqK, calling, hne, pSame, store, cellsOf, splice, results, hu, packed]
  · have hs : h.set id (.cells (some tB) [.ptr id 0, b]) = h := by
      apply List.ext_getElem?
      intro j
      rw [List.getElem?_set]
      split
      · rename_i hj; subst hj; exact hh.symm
      · rfl
    obtain ⟨u, hu, rfl⟩ := quit_all false h.length h rfl [] rfl
    simp [body, ccCode, exec, rg, ops, wanted, aop, eval, get, put, val, load, place, shift, hc, asVal, sub, eqK, results, hu, packed, hs]

theorem byteEls_len (s : Str) : (byteEls s).length = s.length := by simp [byteEls]
theorem byteEls_app (s t : Str) : byteEls (s ++ t) = byteEls s ++ byteEls t := by simp [byteEls]
theorem set_same {h : Heap} {o : AObj} (hh : h[id]? = some o) : h.set id o = h := by
  apply List.ext_getElem?
  intro j
  rw [List.getElem?_set]
  split
  · rename_i hj; subst hj
    split
    · exact hh.symm
    · rename_i hn; exact absurd (List.getElem?_eq_some_iff.1 hh).1 hn
  · rfl

/-- what is appended to a builder's bytes: nothing, its first bytes, more bytes -/
inductive Grows (tB te : Nat) (h : Heap) (id : Nat) (s : Str) : Heap → Prop where
  | none {a : AV} (hh : h[id]? = some (.cells (some tB) [a, .nils])) (ha : a = .nilp ∨ a = .ptr id 0) (hs : s = []) : Grows tB te h id s (h.set id (.cells (some tB) [.ptr id 0, .nils]))
  | first {a : AV} (hh : h[id]? = some (.cells (some tB) [a, .nils])) (ha : a = .nilp ∨ a = .ptr id 0) (hs : s ≠ []) (hm : s.length ≤ most) :
    Grows tB te h id s (h.set id (.cells (some tB) [.ptr id 0, .orow h.length s.length 0 s.length]) ++ [.row (some te) false 1 (byteEls s)])
  | more {r : Nat} {l : Str} (hh : h[id]? = some (.cells (some tB) [.ptr id 0, .orow r l.length 0 l.length])) (hr : h[r]? = some (.row (some te) false 1 (byteEls l))) (hne : r ≠ id) (hm : l.length + s.length ≤ most) :
    Grows tB te h id s ((h.set r (.row (some te) false 1 (byteEls (l ++ s)))).set id (.cells (some tB) [.ptr id 0, .orow r (l ++ s).length 0 (l ++ s).length]))

theorem app_first {s : Str} {G : Heap} (hid : id < h.length) (hG : G = h.set id (.cells (some tB) [.ptr id 0, .orow h.length s.length 0 s.length]) ++ [.row (some te) false 1 (byteEls s)]) : ¬ mentH (G.take h.length) ≤ h.length := by
  have h1 : G.take h.length = h.set id (.cells (some tB) [.ptr id 0, .orow h.length s.length 0 s.length]) := by
    rw [hG]; exact List.take_left' (by simp)
  rw [h1]
  have key : ∀ (h : Heap) (id : Nat) (o : AObj) (m : Nat), id < h.length → m < mentO o → m < mentH (h.set id o) := by
    intro h
    induction h with
    | nil => intro id o m hi; simp at hi
    | cons x h ih =>
      intro id o m hi ho
      cases id with
      | zero => simp only [List.set_cons_zero, mentH]; omega
      | succ id => simp only [List.set_cons_succ, mentH]; have := ih id o m (by simpa using hi) ho; omega
  have := key h id (.cells (some tB) [.ptr id 0, .orow h.length s.length 0 s.length]) h.length hid (by simp only [mentO, mentL, ment]; omega)
  omega

/-! step by step -/
theorem stp {d : Option Nat} {o : AOp} {l : List AOper} {f : Fr} {v : AV} {u : Option Heap} {r : Option (Fr × Heap)} (e : aop tb (den tb) (eval tb f) h o = some (v, u)) (k : ops tb (den tb) l (put f d v) (u.getD h) = r) : ops tb (den tb) (⟨d, none, o⟩ :: l) f h = r := by
  simp [ops, wanted, e, k]
theorem run_reg {l : List AOper} {y : AC} {f f' : Fr} {h' : Heap} (e : ops tb (den tb) l f h = some (f', h')) : exec tb (den tb) (.seq (rg false l) y) f h = exec tb (den tb) y f' h' := by
  simp [exec, rg, e]
theorem stR {N j : Nat} {d : Option Nat} {o : AOp} {l : List AOper} {w : List (Option (Nat × Nat))} {y : Nat × Nat} {f : Fr} {v : AV} {p : Fr × Heap} (e : aop tb (den tb) (eval tb f) h o = some (v, none)) (k : opsT tb (den tb) N j [] [] l w (put f d v) h p) (hq : plainO N j y.1 y.2 o = true := by rfl) : opsT tb (den tb) N j [] [] (⟨d, none, o⟩ :: l) (some y :: w) f h p := by
  obtain ⟨lo, hi⟩ := y
  refine .inl ⟨rfl, (v, none), e, rfl, rfl, .inl ⟨by rw [hq]; rfl, ?_⟩⟩
  simp only [addM, hq, cond_true]
  exact k
theorem stW {N j : Nat} {d : Option Nat} {o : AOp} {l : List AOper} {w : List (Option (Nat × Nat))} {f : Fr} {v : AV} {u : Option Heap} {p : Fr × Heap} (e : aop tb (den tb) (eval tb f) h o = some (v, u)) (k : opsT tb (den tb) N (j + 1) [] [] l w (put f d v) (u.getD h) p) : opsT tb (den tb) N j [] [] (⟨d, none, o⟩ :: l) (none :: w) f h p :=
  .inl ⟨rfl, (v, u), [], e, rfl, (fun _ hm => absurd hm (by simp)), (fun _ hx => absurd hx (by simp)), k⟩
theorem stE {N : Nat} {f : Fr} : opsT tb (den tb) N N [] [] [] [] f h (f, h) := ⟨rfl, rfl⟩

theorem run_seq {x y : AC} {f f' : Fr} {h' : Heap} (e : exec tb (den tb) x f h = some (.normal, f', h')) : exec tb (den tb) (.seq x y) f h = exec tb (den tb) y f' h' := by
  simp [exec, e]
theorem ap_ld {cl : Nat → List AV → Heap → Out} {rho : AO → AV} {x : AO} {ag : Bool} {n : Nat} {v : AV} (e : load h ag n (rho x) = some v) : aop tb cl rho h (.ld ag n x) = some (v, none) := by simp [aop, e, val]
theorem ap_app {cl : Nat → List AV → Heap → Out} {rho : AO → AV} {s x : AO} {t sz b : Nat} {new : List (List AV)} {r : AV × Option Heap} (e : news h sz (rho x) = some new) (e' : appd h t sz b (rho s) new = some r) : aop tb cl rho h (.app t sz b s x) = some r := by simp [aop, e, e']
theorem ap_st {cl : Nat → List AV → Heap → Out} {rho : AO → AV} {a x : AO} {n : Nat} {G : Heap} (e : store h n (rho a) (rho x) = some G) : aop tb cl rho h (.st n a x) = some (.junk, some G) := by simp [aop, e]
theorem ap_len {cl : Nat → List AV → Heap → Out} {rho : AO → AV} {x : AO} {n : Nat} (e : len? (rho x) = some n) : aop tb cl rho h (.len x) = some (.i .i64 n, none) := by simp [aop, e]
theorem ap_call {rho : AO → AV} {g : Nat} {xs : List AO} {r : AV × Option Heap} (e : calling tb (den tb) h g (xs.map rho) = some r) : aop tb (den tb) rho h (.call g xs) = some r := by simp only [aop]; exact e
theorem ws_run {s : Str} {h1 G : Heap} {bv bv' : AV} {u2 : Option Heap} (hc : calling tb (den tb) h ncc [.ptr id 0] = some (.tup [], some h1)) (hld : load h1 false 1 (.ptr id 1) = some bv) (hap : appd h1 te 1 1 bv (byteEls s) = some (bv', u2)) (hst : store (u2.getD h1) 1 (.ptr id 1) bv' = some G) :
    ∃ f', exec tb (den tb) (wsCode te ncc).body [(0, .ptr id 0), (1, .s s)] h = some (.ret, f', G) ∧ results f' G [.tmp 4, .tmp 5] = some [.i .i64 s.length, .nili] := by
  apply Exists.intro
  apply And.intro
  · unfold wsCode
    simp only
    refine (run_reg (stp (v := .i .i64 0) (u := none) rfl (stp (v := .nili) (u := none) rfl rfl))).trans ?_
    refine (run_reg (stp (v := .ptr id 0) (u := none) rfl (stp (v := .tup []) (u := some h1) (ap_call (by exact hc)) rfl))).trans ?_
    refine (run_reg (stp (v := .ptr id 0) (u := none) rfl (stp (v := .ptr id 0) (u := none) rfl (stp (v := .ptr id 0) (u := none) rfl (stp (v := .ptr id 1) (u := none) rfl (stp (v := bv) (u := none) (ap_ld (by exact hld))
      (stp (v := .s s) (u := none) rfl (stp (v := bv') (u := u2) (ap_app (new := byteEls s) rfl (by exact hap)) (stp (v := .ptr id 0) (u := none) rfl (stp (v := .ptr id 1) (u := none) rfl
      (stp (v := .junk) (u := some G) (ap_st (by exact hst)) rfl))))))))))).trans ?_
    refine (run_reg (stp (v := .s s) (u := none) rfl (stp (v := .i .i64 s.length) (u := none) rfl (stp (v := .i .i64 s.length) (u := none) rfl (stp (v := .nili) (u := none) rfl rfl))))).trans ?_
    rfl
  · rfl
theorem wb_run {c : UInt8} {h1 G : Heap} {bv bv' : AV} {u2 : Option Heap} (hc : calling tb (den tb) h ncc [.ptr id 0] = some (.tup [], some h1)) (hld : load h1 false 1 (.ptr id 1) = some bv) (hap : appd h1 te 1 1 bv (byteEls [c]) = some (bv', u2)) (hst : store (u2.getD h1) 1 (.ptr id 1) bv' = some G) :
    ∃ f', exec tb (den tb) (wbCode te ncc).body [(0, .ptr id 0), (1, .i .u8 c.toNat)] h = some (.ret, f', G) ∧ results f' G [.tmp 4] = some [.nili] := by
  apply Exists.intro
  apply And.intro
  · unfold wbCode
    simp only
    refine (run_reg (stp (v := .nili) (u := none) rfl rfl)).trans ?_
    refine (run_reg (stp (v := .ptr id 0) (u := none) rfl (stp (v := .tup []) (u := some h1) (ap_call (by exact hc)) rfl))).trans ?_
    refine (run_reg (stp (v := .ptr id 0) (u := none) rfl (stp (v := .ptr id 0) (u := none) rfl (stp (v := .ptr id 0) (u := none) rfl (stp (v := .ptr id 1) (u := none) rfl (stp (v := bv) (u := none) (ap_ld (by exact hld))
      (stp (v := .i .u8 c.toNat) (u := none) rfl (stp (v := .sl 1 (byteEls [c])) (u := none) rfl (stp (v := bv') (u := u2) (ap_app (new := byteEls [c]) rfl (by exact hap)) (stp (v := .ptr id 0) (u := none) rfl (stp (v := .ptr id 1) (u := none) rfl
      (stp (v := .junk) (u := some G) (ap_st (by exact hst)) rfl)))))))))))).trans ?_
    refine (run_reg (stp (v := .nili) (u := none) rfl rfl)).trans ?_
    rfl
  · rfl

/-- what an appending comes to -/
theorem grow_steps (hcc : tb.prim ncc = none ∧ tb.fns ncc = some (ccCode tB nne)) (hne : tb.prim nne = some pSame) {s : Str} {G : Heap} (hg : Grows tB te h id s G) :
    ∃ h1 bv bv' u2, calling tb (den tb) h ncc [.ptr id 0] = some (.tup [], some h1) ∧ load h1 false 1 (.ptr id 1) = some bv ∧ appd h1 te 1 1 bv (byteEls s) = some (bv', u2) ∧ store (u2.getD h1) 1 (.ptr id 1) bv' = some G ∧
      (G.length = h.length ∨ ¬ mentH (G.take h.length) ≤ h.length) := by
  cases hg with
  | none hh ha hs =>
    subst hs
    have hc := cc_eval hcc hne hh ha
    have hid := (List.getElem?_eq_some_iff.1 hh).1
    have h2 := cellsAt_of (h := h.set id (.cells (some tB) [.ptr id 0, .nils])) (List.getElem?_set_self hid)
    refine ⟨_, .nils, .nils, none, hc, ?_, ?_, ?_, .inl (by simp)⟩
    · simp [load, place, h2.1, asVal, sub]
    · simp [appd, byteEls]
    · simp [store, h2.1, h2.2, cellsOf, splice]
  | first hh ha hs hm =>
    have hc := cc_eval hcc hne hh ha
    have hid := (List.getElem?_eq_some_iff.1 hh).1
    have h2 := cellsAt_of (h := h.set id (.cells (some tB) [.ptr id 0, .nils])) (List.getElem?_set_self hid)
    have hid' : id < (h.set id (AObj.cells (some tB) [.ptr id 0, .nils])).length := by simpa using hid
    have h3 : (h.set id (AObj.cells (some tB) [.ptr id 0, .nils]) ++ [AObj.row (some te) false 1 (byteEls s)])[id]? = some (.cells (some tB) [.ptr id 0, .nils]) := by
      rw [List.getElem?_append_left hid']
      exact List.getElem?_set_self hid
    have h4 := cellsAt_of h3
    have hs0 : ¬ s.length = 0 := by simpa using hs
    refine ⟨_, .nils, .orow h.length s.length 0 s.length, some (h.set id (AObj.cells (some tB) [.ptr id 0, .nils]) ++ [AObj.row (some te) false 1 (byteEls s)]), hc, ?_, ?_, ?_, .inr (app_first (te := te) (tB := tB) (s := s) hid rfl)⟩
    · simp [load, place, h2.1, asVal, sub]
    · simp [appd, byteEls_len, hs, hm]
    · simp [store, h4.1, h4.2, cellsOf, splice]
      rw [List.set_append_left _ _ hid', List.set_set]
  | @more r l hh hr hne' hm =>
    have hc := cc_eval hcc hne hh (.inr rfl)
    rw [set_same hh] at hc
    have h1 := cellsAt_of hh
    have hrow := rowAt_of hr
    by_cases hs : s = []
    · subst hs
      have hm' : l.length ≤ most := by simpa using hm
      refine ⟨_, .orow r l.length 0 l.length, .orow r l.length 0 l.length, none, hc, ?_, ?_, ?_, .inl (by simp)⟩
      · simp [load, place, h1.1, asVal, sub]
      · simp [appd, hrow.1, byteEls_len, hm', byteEls]
      · simp [store, h1.1, h1.2, cellsOf, splice, set_same hr]
    · have h2 : (h.set r (AObj.row (some te) false 1 (byteEls (l ++ s))))[id]? = some (.cells (some tB) [.ptr id 0, .orow r l.length 0 l.length]) := by
        rw [List.getElem?_set_ne hne']; exact hh
      have h3 := cellsAt_of h2
      have hs0 : ¬ s.length = 0 := by simpa using hs
      refine ⟨_, .orow r l.length 0 l.length, .orow r (l ++ s).length 0 (l ++ s).length, some (h.set r (AObj.row (some te) false 1 (byteEls (l ++ s)))), hc, ?_, ?_, ?_, .inl (by simp)⟩
      · simp [load, place, h1.1, asVal, sub]
      · simp [appd, hrow.1, hrow.2, byteEls_len, byteEls_app, hm, hs, labIf]
      · simp [store, h3.1, h3.2, cellsOf, splice]

theorem body_of {fn : AFn} {args vs : List AV} {f f' : Fr} {G : Heap} {e : Ex} (hn : args.length = fn.np) (hf : (args.zipIdx.map fun p => (p.2, p.1)) = f) (he : exec tb (den tb) fn.body f h = some (e, f', G)) (hex : e = .ret ∨ e = .normal) (hr : results f' G fn.res = some vs) :
    body tb (den tb) fn args h = some (quit fn.warm h.length G vs) := by
  simp only [body, if_pos hn, hf, he, Option.bind_some]
  rcases hex with rfl | rfl <;> simp [hr]

theorem ws_eval (hf : tb.prim nws = none ∧ tb.fns nws = some (wsCode te ncc)) (hcc : tb.prim ncc = none ∧ tb.fns ncc = some (ccCode tB nne)) (hne : tb.prim nne = some pSame) {s : Str} {G : Heap} (hg : Grows tB te h id s G) :
    calling tb (den tb) h nws [.ptr id 0, .s s] = some (.tup [.i .i64 s.length, .nili], some G) := by
  obtain ⟨h1, bv, bv', u2, a1, a2, a3, a4, a5⟩ := grow_steps hcc hne hg
  obtain ⟨f', e1, e2⟩ := ws_run a1 a2 a3 a4
  simp only [calling, hf.1]
  rw [den_eq, hf.2]
  simp only [Option.bind_some]
  rw [body_of (tb := tb) (h := h) (fn := wsCode te ncc) (args := [.ptr id 0, .s s]) rfl rfl e1 (.inl rfl) e2]
  rcases a5 with a5 | a5
  · obtain ⟨u, hu, rfl⟩ := quit_all false h.length G a5 [.i .i64 s.length, .nili] rfl
    exact congrArg some hu
  · exact congrArg some (quit_more h.length G a5 [.i .i64 s.length, .nili] rfl false)
theorem wb_eval (hf : tb.prim nwb = none ∧ tb.fns nwb = some (wbCode te ncc)) (hcc : tb.prim ncc = none ∧ tb.fns ncc = some (ccCode tB nne)) (hne : tb.prim nne = some pSame) {c : UInt8} {G : Heap} (hg : Grows tB te h id [c] G) :
    calling tb (den tb) h nwb [.ptr id 0, .i .u8 c.toNat] = some (.nili, some G) := by
  obtain ⟨h1, bv, bv', u2, a1, a2, a3, a4, a5⟩ := grow_steps hcc hne hg
  obtain ⟨f', e1, e2⟩ := wb_run a1 a2 a3 a4
  simp only [calling, hf.1]
  rw [den_eq, hf.2]
  simp only [Option.bind_some]
  rw [body_of (tb := tb) (h := h) (fn := wbCode te ncc) (args := [.ptr id 0, .i .u8 c.toNat]) rfl rfl e1 (.inl rfl) e2]
  rcases a5 with a5 | a5
  · obtain ⟨u, hu, rfl⟩ := quit_all false h.length G a5 [.nili] rfl
    exact congrArg some hu
  · exact congrArg some (quit_more h.length G a5 [.nili] rfl false)

theorem bytes_els : ∀ l : Str, bytes? (byteEls l) = some l
  | [] => rfl
  | c :: l => by
    have := bytes_els l
    simp only [byteEls, List.map_cons, bytes?] at this ⊢
    rw [this]
    simp

theorem bs_run {G : Heap} {bv pv : AV} {n : Nat} {s : Str} {u2 : Option Heap} (hld : load h false 1 (.ptr id 1) = some bv) (hus : aop tb (den tb) (fun _ => bv) h (.usd (.t 0)) = some (pv, none)) (hln : len? bv = some n)
    (hst : aop tb (den tb) (fun a => match a with | .t 0 => pv | _ => .i .i64 n) h (.ust te (.t 0) (.t 1)) = some (.s s, u2)) (hG : u2.getD h = G) :
    ∃ f', exec tb (den tb) (bsCode te).body [(0, .ptr id 0)] h = some (.ret, f', G) ∧ results f' G [.tmp 2] = some [.s s] := by
  subst hG
  apply Exists.intro
  apply And.intro
  · unfold bsCode
    simp only
    refine (run_reg (stp (v := .s []) (u := none) rfl rfl)).trans ?_
    refine (run_seq (exec_regd (n := 1) (p := (_, u2.getD h))
      (stR (v := .ptr id 0) rfl (stR (v := .ptr id 0) rfl (stR (v := .ptr id 1) rfl (stR (v := bv) (ap_ld (by exact hld)) (stR (v := pv) (by exact hus) (stR (v := .ptr id 0) rfl (stR (v := .ptr id 0) rfl (stR (v := .ptr id 1) rfl (stR (v := bv) (ap_ld (by exact hld)) (stR (v := .i .i64 n) (ap_len (by exact hln))
        (stW (v := .s s) (u := u2) (by exact hst) (stR (v := .s s) rfl stE)))))))))))))).trans ?_
    rfl
  · rfl
theorem bs_eval_nil (hf : tb.prim nbs = none ∧ tb.fns nbs = some (bsCode te)) (hh : h[id]? = some (.cells (some tB) [a, .nils])) : calling tb (den tb) h nbs [.ptr id 0] = some (.s [], some h) := by
  have hcl := (cellsAt_of hh).1
  obtain ⟨f', e1, e2⟩ := bs_run (tb := tb) (te := te) (h := h) (id := id) (G := h) (bv := .nils) (pv := .nilp) (n := 0) (s := []) (u2 := none) (by simp [load, place, hcl, asVal, sub]) rfl rfl (by simp [aop, int?]) rfl
  simp only [calling, hf.1]
  rw [den_eq, hf.2]
  simp only [Option.bind_some]
  rw [body_of (tb := tb) (h := h) (fn := bsCode te) (args := [.ptr id 0]) rfl rfl e1 (.inl rfl) e2]
  obtain ⟨u, hu, rfl⟩ := quit_all false h.length h rfl [.s []] rfl
  exact congrArg some hu
theorem bs_eval (hf : tb.prim nbs = none ∧ tb.fns nbs = some (bsCode te)) {r : Nat} {l : Str} (hh : h[id]? = some (.cells (some tB) [a, .orow r l.length 0 l.length])) (hr : h[r]? = some (.row (some te) false 1 (byteEls l))) (hl : l ≠ []) (hm : l.length ≤ most) :
    calling tb (den tb) h nbs [.ptr id 0] = some (.s l, some (h.set r (.row (some te) true 1 (byteEls l)))) := by
  have hcl := (cellsAt_of hh).1
  have hrow := rowAt_of hr
  have hpos : 0 < l.length := List.length_pos_iff.2 hl
  have htk : (byteEls l).take l.length = byteEls l := List.take_of_length_le (by simp [byteEls])
  obtain ⟨f', e1, e2⟩ := bs_run (tb := tb) (te := te) (h := h) (id := id) (G := h.set r (.row (some te) true 1 (byteEls l))) (bv := .orow r l.length 0 l.length) (pv := .pe r l.length 0 0) (n := l.length) (s := l) (u2 := some (h.set r (.row (some te) true 1 (byteEls l))))
    (by simp [load, place, hcl, asVal, sub]) (by simp [aop, hrow.1, byteEls_len, hpos]) rfl (by simp [aop, int?, hrow.1, hrow.2, byteEls_len, hpos, htk, bytes_els, show (l.length : Int) ≤ most by omega]) rfl
  simp only [calling, hf.1]
  rw [den_eq, hf.2]
  simp only [Option.bind_some]
  rw [body_of (tb := tb) (h := h) (fn := bsCode te) (args := [.ptr id 0]) rfl rfl e1 (.inl rfl) e2]
  obtain ⟨u, hu, rfl⟩ := quit_all false h.length (h.set r (.row (some te) true 1 (byteEls l))) (by simp) [.s l] rfl
  exact congrArg some hu
end
end Go.Proofs.YtobejhpigbllpaaGreatDoor.Am
