/-
  A function: its arguments, its results; what its code computes is what a call of it comes to.
-/
import Derived.Test.YtobejhpigbllpaaGreatDoorSmD
namespace Go.Proofs.YtobejhpigbllpaaGreatDoor.Am

/-! lists of types -/
def Res : List T → Type
  | [] => Unit
  | [a] => a.α
  | a :: b :: r => a.α × Res (b :: r)
def Args : List T → Type → Type
  | [], β => β
  | a :: r, β => a.α → Args r β

/-- each of some values -/
def VsR (P : Nat → Prop) (H : Heap) : (l : List T) → List AV → Res l → Prop
  | [], vs, _ => vs = []
  | [a], vs, x => ∃ v, vs = [v] ∧ a.V P H v x
  | a :: b :: r, vs, x => ∃ v q, vs = v :: q ∧ a.V P H v x.1 ∧ VsR P H (b :: r) q x.2
/-- what a call hands out -/
def OutR (P : Nat → Prop) (H : Heap) (l : List T) (v : AV) (x : Res l) : Prop := ∃ vs, v = packed vs ∧ VsR P H l vs x

/-- a call of a function at some arguments -/
structure CallR (tb : Tab) (g : Nat) (P : Nat → Prop) (h : Heap) (args : List AV) (Rs : List T) (r : Res Rs) : Prop where
  call : ∃ v u, calling tb (den tb) h g args = some (v, u) ∧ u.getD h = h ∧ OutR P h Rs v r

/-- a function of typed values that leaves the memory alone -/
def Spec (tb : Tab) (g : Nat) (As Rs : List T) (F : Res As → Option (Res Rs)) : Prop :=
  ∀ (P : Nat → Prop) (h : Heap) (args : List AV) (xs : Res As), (∀ i, P i → i < h.length) → mentH h ≤ h.length → VsR P h As args xs → ∀ r, F xs = some r → CallR tb g P h args Rs r

section
variable {tb : Tab}

theorem VsR.mono {P Q : Nat → Prop} {H G : Heap} (m : ∀ i, P i → Q i ∧ G[i]? = H[i]?) : ∀ {l : List T} {vs : List AV} {x : Res l}, VsR P H l vs x → VsR Q G l vs x
  | [], _, _, h => h
  | [a], _, _, ⟨v, e, h⟩ => ⟨v, e, h.mono m⟩
  | _ :: _ :: _, _, _, ⟨v, q, e, h, g⟩ => ⟨v, q, e, h.mono m, VsR.mono m g⟩
theorem VsR.frz {P Q : Nat → Prop} {H : Heap} {n : Nat} (hw : mentH (H.take n) ≤ n) (hp : ∀ i, P i → i < n → Q i) : ∀ {l : List T} {vs : List AV} {x : Res l}, (∀ t ∈ l, t.dep ≤ 11) → VsR P H l vs x →
    ∃ vs', frzL H n vs = some vs' ∧ VsR Q (H.take n) l vs' x
  | [], _, _, _, h => by rw [show _ = [] from h]; exact ⟨[], rfl, rfl⟩
  | [a], _, _, hd, ⟨v, e, h⟩ => by
    obtain ⟨v', e', r⟩ := h.frz (d := 11) (hd a List.mem_cons_self) (by omega) hw hp
    exact ⟨[v'], by rw [e]; simp [frzL, manyO, e'], v', rfl, r⟩
  | a :: b :: l, _, _, hd, ⟨v, q, e, h, g⟩ => by
    obtain ⟨v', e', r⟩ := h.frz (d := 11) (hd a List.mem_cons_self) (by omega) hw hp
    obtain ⟨q', e2, r2⟩ := VsR.frz hw hp (fun t ht => hd t (List.mem_cons_of_mem _ ht)) g
    refine ⟨v' :: q', ?_, v', q', rfl, r, r2⟩
    have e2' : manyO (Am.frz H n 12) q = some q' := e2
    rw [e]; simp [frzL, manyO, e', e2']

/-- what stands in a function's results at its end -/
def ResR (E : Env) (Rs : List T) (res : List ARes) (r : Res Rs) (f : Fr) (H : Heap) : Prop :=
  ∃ P vs, (∀ i, P i → i < E.h.length → E.P0 i) ∧ results f H res = some vs ∧ VsR P H Rs vs r ∧ E.h.length ≤ H.length ∧ ∀ i, i < E.h.length → E.K i → H[i]? = E.h[i]?
def QRes (Rs : List T) (res : List ARes) : Post (Res Rs) := fun E r e f H => (e = .ret ∨ e = .normal) ∧ ResR E Rs res r f H

/-- a result -/
def ResF (Γ : Cx) (a : ARes) (t : T) (x : t.α) : Prop :=
  ∀ E rv fp f H, RelI E Γ rv fp f H → ∀ r vs, results f H r = some vs → ∃ v, results f H (a :: r) = some (v :: vs) ∧ t.V (Pf E Γ.ss fp H) H v x
inductive RetL (Γ : Cx) : (Rs : List T) → List ARes → Res Rs → Type 1 where
  | nil : RetL Γ [] [] ()
  | one {a : ARes} {t : T} {x : t.α} : ResF Γ a t x → RetL Γ [t] [a] x
  | cons {a : ARes} {t u : T} {x : t.α} {Rs : List T} {l : List ARes} {y : Res (u :: Rs)} : ResF Γ a t x → RetL Γ (u :: Rs) l y → RetL Γ (t :: u :: Rs) (a :: l) (x, y)
theorem RetL.spec {Γ : Cx} {E : Env} {rv : Nat → AV} {fp : Fp} {f : Fr} {H : Heap} (I : RelI E Γ rv fp f H) : ∀ {Rs : List T} {l : List ARes} {y : Res Rs}, RetL Γ Rs l y → ∃ vs, results f H l = some vs ∧ VsR (Pf E Γ.ss fp H) H Rs vs y
  | _, _, _, .nil => ⟨[], rfl, rfl⟩
  | _, _, _, .one h => by
    obtain ⟨v, h1, h2⟩ := h E rv fp f H I [] [] rfl
    exact ⟨[v], h1, v, rfl, h2⟩
  | _, _, _, .cons h r => by
    obtain ⟨vs, g1, g2⟩ := r.spec I
    obtain ⟨v, h1, h2⟩ := h E rv fp f H I _ vs g1
    exact ⟨v :: vs, h1, v, vs, rfl, h2, g2⟩

def Sim.ret {Γ : Cx} {ks : List Kf} {Rs : List T} {res : List ARes} {r : Res Rs} (h : RetL Γ Rs res r) : Sim tb Γ .ret ks (QRes Rs res) :=
  Sim.retK ⟨some r, fun E f H ⟨rv, fp, I⟩ r' hr => by
    cases hr
    obtain ⟨vs, h1, h2⟩ := h.spec I
    refine ⟨.ret, f, H, by simp [exec, runk], .inl rfl, Pf E Γ.ss fp H, vs, ?_, h1, h2, I.le, I.base⟩
    rintro i (h | h) hi
    · exact h.2
    · omega⟩

/-- a function's end without a return -/
def Sim.fin {Γ : Cx} {q : Bool} {Rs : List T} {res : List ARes} {r : Res Rs} (h : RetL Γ Rs res r) : Sim tb Γ (rg q []) [] (QRes Rs res) :=
  ⟨some r, fun E f H ⟨rv, fp, I⟩ r' hr => by
    cases hr
    obtain ⟨vs, h1, h2⟩ := h.spec I
    refine ⟨.normal, f, H, by simp [exec_rg_nil, runk], .inr rfl, Pf E Γ.ss fp H, vs, ?_, h1, h2, I.le, I.base⟩
    rintro i (h | h) hi
    · exact h.2
    · omega⟩

theorem res_t {Γ : Cx} {n : Nat} {t : T} {x : t.α} (h : findT Γ.ts n = some (.val t x)) : ResF Γ (.tmp n) t x := by
  intro E rv fp f H I r vs hr
  exact ⟨_, by simp [results, hr], I.temps n _ h⟩

/-- the arguments, as temporaries -/
def argsT : (l : List T) → Nat → Res l → Ts
  | [], _, _ => []
  | [a], k, x => [(k, .val a x)]
  | a :: b :: r, k, x => (k, .val a x.1) :: argsT (b :: r) (k + 1) x.2
theorem argsT_rel {P : Nat → Prop} {H : Heap} {rv : Nat → AV} {ss : Ss} : ∀ {l : List T} {vs : List AV} {k : Nat} {x : Res l}, VsR P H l vs x → ∀ t φ, findT (argsT l k x) t = some φ → k ≤ t ∧ FR rv ss P H φ (get ((vs.zipIdx k).map fun p => (p.2, p.1)) t)
  | [], _, _, _, _, t, φ, e => by simp [argsT, findT] at e
  | [a], _, k, x, ⟨v, rfl, h⟩, t, φ, e => by
    simp only [argsT, findT] at e
    split at e
    · rename_i hk
      cases e
      subst hk
      exact ⟨Nat.le_refl _, by simpa [get, FR] using h⟩
    · cases e
  | a :: b :: r, _, k, x, ⟨v, q, rfl, h, g⟩, t, φ, e => by
    simp only [argsT, findT] at e
    simp only [List.zipIdx_cons, List.map_cons, get]
    split at e
    · rename_i hk
      cases e
      subst hk
      exact ⟨Nat.le_refl _, by rw [if_pos rfl]; exact h⟩
    · rename_i hk
      obtain ⟨h1, h2⟩ := argsT_rel g t φ e
      exact ⟨by omega, by rw [if_neg hk]; exact h2⟩
theorem VsR.length {P : Nat → Prop} {H : Heap} : ∀ {l : List T} {vs : List AV} {x : Res l}, VsR P H l vs x → vs.length = l.length
  | [], _, _, h => by rw [show _ = [] from h]; rfl
  | [a], _, _, ⟨v, rfl, h⟩ => rfl
  | a :: b :: r, _, _, ⟨v, q, rfl, h, g⟩ => by simp [VsR.length g]

/-- a function, out of its code -/
theorem Spec.of {g : Nat} {fn : AFn} {As Rs : List T} (hf : tb.prim g = none ∧ tb.fns g = some fn) (hw : fn.warm = false) (hn : fn.np = As.length) (hd : Rs.all (fun t => Nat.ble t.dep 11) = true)
    (s : (xs : Res As) → Sim tb ⟨argsT As 0 xs, []⟩ fn.body [] (QRes Rs fn.res)) : Spec tb g As Rs fun xs => (s xs).m := by
  intro P h args xs hP hwf hargs r hr
  let E : Env := ⟨h, P, fun _ => True, hP, fun _ _ => trivial, fun _ => .junk⟩
  have hPf : ∀ i, P i → Pf E [] (fun _ _ => False) h i ∧ h[i]? = h[i]? := fun i hi => ⟨.inl ⟨hP i hi, hi⟩, rfl⟩
  have I : RelI E ⟨argsT As 0 xs, []⟩ (fun _ => .junk) (fun _ _ => False) (args.zipIdx.map fun p => (p.2, p.1)) h := by
    refine ⟨Nat.le_refl _, fun _ _ _ => rfl, hwf, fun j id l => l.elim, fun j l => l.elim, fun j l => l.elim, fun j k id l => l.elim, fun j S e => by simp [findS] at e, fun t φ e => ?_, fun j φ e => by simp [findS] at e⟩
    exact (argsT_rel (hargs.mono hPf) t φ e).2
  obtain ⟨e, f', H', h1, he, P', vs, hP', h2, h3, hle, hbase⟩ := (s xs).ok E _ h ⟨_, _, I⟩ r hr
  have h4 : H'.take h.length = h := by
    apply List.ext_getElem?
    intro i
    rw [List.getElem?_take]
    split
    · rename_i hi; exact hbase i hi trivial
    · rename_i hi; rw [List.getElem?_eq_none (by omega)]
  have h1' : exec tb (den tb) fn.body (args.zipIdx.map fun p => (p.2, p.1)) h = some (e, f', H') := by
    obtain ⟨p, hp, h1⟩ := Option.bind_eq_some_iff.1 h1
    rw [hp, ← h1]; rfl
  have hwf' : mentH (H'.take h.length) ≤ h.length := by rw [h4]; exact hwf
  obtain ⟨vs', h5, h6⟩ := h3.frz hwf' hP' fun t ht => Nat.le_of_ble_eq_true (List.all_eq_true.1 hd t ht)
  have hbody : body tb (den tb) fn args h = some (packed vs', some h) := by
    have hnp : args.length = fn.np := by rw [hn, hargs.length]
    simp only [body, hnp, if_true, h1', Option.bind_some]
    have hq : quit fn.warm h.length H' vs = (packed vs', some h) := by
      rw [hw]
      simp only [quit, leave, h5]
      rw [if_pos hwf', h4]
    rcases he with rfl | rfl
    · simp [h2, hq]
    · simp [h2, hq]
  refine ⟨packed vs', some h, ?_, rfl, vs', rfl, by rw [h4] at h6; exact h6⟩
  simp only [calling, hf.1]
  rw [den_eq, hf.2]
  simp only [Option.bind_some]
  exact hbody
end
end Go.Proofs.YtobejhpigbllpaaGreatDoor.Am
