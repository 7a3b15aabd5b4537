/-
  What a function's code computes, as a Lean value, and that it does: the shapes of code.
-/
import Derived.Test.YtobejhpigbllpaaGreatDoorSmC
namespace Go.Proofs.YtobejhpigbllpaaGreatDoor.Am

/-! rounds until one is the last -/
def iterN {σ β : Type} (F : σ → Option (σ ⊕ β)) : Nat → σ → Option β
  | 0, _ => none
  | n + 1, s => (F s).bind fun
    | .inl s' => iterN F n s'
    | .inr b => some b
open Classical in
noncomputable def iter {σ β : Type} (F : σ → Option (σ ⊕ β)) (s : σ) : Option β :=
  if h : ∃ n, (iterN F n s).isSome = true then iterN F (Classical.choose h) s else none

section
variable {σ β : Type} {F : σ → Option (σ ⊕ β)}
theorem iterN_mono : ∀ {n m : Nat} {s : σ} {b : β}, n ≤ m → iterN F n s = some b → iterN F m s = some b
  | 0, _, _, _, _, h => by simp [iterN] at h
  | n + 1, 0, _, _, hm, _ => by omega
  | n + 1, m + 1, s, b, hm, h => by
    simp only [iterN] at h ⊢
    obtain ⟨r, hr, h⟩ := Option.bind_eq_some_iff.1 h
    rw [hr]
    cases r with
    | inl s' => exact iterN_mono (by omega) h
    | inr b' => exact h
theorem iter_of {n : Nat} {s : σ} {b : β} (h : iterN F n s = some b) : iter F s = some b := by
  unfold iter
  have hx : ∃ n, (iterN F n s).isSome = true := ⟨n, by rw [h]; rfl⟩
  rw [dif_pos hx]
  obtain ⟨b', hb⟩ := Option.isSome_iff_exists.1 (Classical.choose_spec hx)
  have h1 := iterN_mono (Nat.le_max_left n (Classical.choose hx)) h
  have h2 := iterN_mono (Nat.le_max_right n (Classical.choose hx)) hb
  rw [hb, ← h2, h1]
theorem iter_some {s : σ} {b : β} (h : iter F s = some b) : ∃ n, iterN F n s = some b := by
  unfold iter at h
  split at h
  · exact ⟨_, h⟩
  · cases h
theorem iter_next {s s' : σ} (h : F s = some (.inl s')) : iter F s = iter F s' := by
  apply Option.ext
  intro b
  constructor
  · intro e
    obtain ⟨n, hn⟩ := iter_some e
    cases n with
    | zero => simp [iterN] at hn
    | succ n => simp only [iterN, h, Option.bind_some] at hn; exact iter_of hn
  · intro e
    obtain ⟨n, hn⟩ := iter_some e
    exact iter_of (n := n + 1) (by simp only [iterN, h, Option.bind_some]; exact hn)
theorem iter_last {s : σ} {b : β} (h : F s = some (.inr b)) : iter F s = some b :=
  iter_of (n := 1) (by simp only [iterN, h, Option.bind_some])
end

/-! what is left to do behind a piece of code -/
inductive Kf where
  | seq (y : AC)
  | blk (id : Nat)
noncomputable def runk (tb : Tab) : List Kf → Ex × Fr × Heap → Option (Ex × Fr × Heap)
  | [], r => some r
  | .seq y :: ks, (.normal, f, h) => (exec tb (den tb) y f h).bind (runk tb ks)
  | .seq _ :: ks, r => runk tb ks r
  | .blk id :: ks, (.exit id', f, h) => if id' = id then runk tb ks (.normal, f, h) else runk tb ks (.exit id', f, h)
  | .blk _ :: ks, r => runk tb ks r

abbrev Post (ρ : Type) := Env → ρ → Ex → Fr → Heap → Prop

structure Sim (tb : Tab) (Γ : Cx) (c : AC) (ks : List Kf) {ρ : Type} (Q : Post ρ) where
  m : Option ρ
  ok : ∀ E f H, Rel E Γ f H → ∀ r, m = some r → ∃ e f' H', (exec tb (den tb) c f H).bind (runk tb ks) = some (e, f', H') ∧ Q E r e f' H'

def rg (q : Bool) (l : List AOper) : AC := if q then .regq l else .reg l

section
variable {tb : Tab} {Γ : Cx} {ks : List Kf} {ρ : Type} {Q : Post ρ}

/-- the same, of another code -/
def Sim.of {c c' : AC} {ks' : List Kf} (h : ∀ f H, (exec tb (den tb) c' f H).bind (runk tb ks') = (exec tb (den tb) c f H).bind (runk tb ks)) (s : Sim tb Γ c ks Q) : Sim tb Γ c' ks' Q :=
  ⟨s.m, fun E f H R r hr => by rw [h]; exact s.ok E f H R r hr⟩

/-- less is known -/
def Sim.weak {c : AC} {Γ' : Cx} (s : Sim tb Γ' c ks Q) (h : Sub Γ' Γ) : Sim tb Γ c ks Q :=
  ⟨s.m, fun E f H ⟨rv, fp, I⟩ r hr => s.ok E f H ⟨rv, fp, I.sub h⟩ r hr⟩
/-- what is known is put otherwise -/
def Sim.turn {c : AC} {Γ' : Cx} (h : ∀ E f H, Rel E Γ f H → Rel E Γ' f H) (s : Sim tb Γ' c ks Q) : Sim tb Γ c ks Q :=
  ⟨s.m, fun E f H R r hr => s.ok E f H (h E f H R) r hr⟩
def Sim.frzRow {c : AC} (j : Nat) {t : T} {g : GS t.α} (h : findS Γ.ss j = some (.row t g)) (hn : Nat.blt j parj = true) (s : Sim tb (Γ.turn j (rowF t g)) c ks Q) : Sim tb Γ c ks Q :=
  s.turn fun _ _ _ ⟨rv, fp, I⟩ => ⟨rv, fp, I.frzRow h hn⟩
def Sim.frzCell {c : AC} (j : Nat) {n : Nat} {t : T} {x : t.α} (h : findS Γ.ss j = some (.cells [(n, .val t x)])) (hn : Nat.blt j parj = true) (s : Sim tb (Γ.turn j (celF t x)) c ks Q) : Sim tb Γ c ks Q :=
  s.turn fun _ _ _ ⟨rv, fp, I⟩ => ⟨rv, fp, I.frzCell h hn⟩

theorem exec_rg_nil {q : Bool} {f : Fr} {H : Heap} : exec tb (den tb) (rg q []) f H = some (.normal, f, H) := by
  cases q <;> simp [rg, exec, ops, opsQ]

def Sim.seqI {x y : AC} (s : Sim tb Γ x (.seq y :: ks) Q) : Sim tb Γ (.seq x y) ks Q :=
  s.of fun f H => by
    simp only [exec]
    cases exec tb (den tb) x f H with
    | none => rfl
    | some p => obtain ⟨e, f', H'⟩ := p; cases e <;> simp [runk]
def Sim.blkI {id : Nat} {x : AC} (s : Sim tb Γ x (.blk id :: ks) Q) : Sim tb Γ (.blk id x) ks Q :=
  s.of fun f H => by
    simp only [exec]
    cases exec tb (den tb) x f H with
    | none => rfl
    | some p =>
      obtain ⟨e, f', H'⟩ := p
      cases e <;> simp [runk]
      split <;> simp
def Sim.doneS {q : Bool} {y : AC} (s : Sim tb Γ y ks Q) : Sim tb Γ (rg q []) (.seq y :: ks) Q :=
  s.of fun f H => by simp [exec_rg_nil, runk]
def Sim.doneB {q : Bool} {id : Nat} (s : Sim tb Γ (rg q []) ks Q) : Sim tb Γ (rg q []) (.blk id :: ks) Q :=
  s.of fun f H => by simp [exec_rg_nil, runk]
def Sim.skip (s : Sim tb Γ (rg false []) ks Q) : Sim tb Γ .skip ks Q :=
  s.of fun f H => by simp [exec_rg_nil, exec]
def Sim.exitS {id : Nat} {y : AC} (s : Sim tb Γ (.exit id) ks Q) : Sim tb Γ (.exit id) (.seq y :: ks) Q :=
  s.of fun f H => by simp [exec, runk]
def Sim.exitB {id : Nat} (s : Sim tb Γ (rg false []) ks Q) : Sim tb Γ (.exit id) (.blk id :: ks) Q :=
  s.of fun f H => by simp [exec, runk, exec_rg_nil]
def Sim.exitO {id id' : Nat} (h : Nat.beq id id' = false) (s : Sim tb Γ (.exit id) ks Q) : Sim tb Γ (.exit id) (.blk id' :: ks) Q :=
  s.of fun f H => by
    have : id ≠ id' := by rintro rfl; simp [Nat.beq_refl] at h
    simp [exec, runk, this]
/-- nothing is left but to leave -/
def outOf : List Kf → Bool := fun _ => true
theorem runk_ret {f : Fr} {H : Heap} : ∀ ks : List Kf, runk tb ks (.ret, f, H) = some (.ret, f, H)
  | [] => rfl
  | .seq _ :: ks => by simp [runk, runk_ret ks]
  | .blk _ :: ks => by simp [runk, runk_ret ks]

/-- an operand -/
def OpF (tb : Tab) (Γ : Cx) (a : AO) (φ : Fact) : Prop := ∀ E rv fp f H, RelI E Γ rv fp f H → FR rv Γ.ss (Pf E Γ.ss fp H) H φ (eval tb f a)
/-- an operation that leaves the memory alone -/
def OpH (tb : Tab) (Γ : Cx) (o : AOp) {β : Type} (a : Option β) (φ : β → Fact) : Prop :=
  ∀ E rv fp f H, RelI E Γ rv fp f H → ∀ b, a = some b → ∃ v u, aop tb (den tb) (eval tb f) H o = some (v, u) ∧ u.getD H = H ∧ FR rv Γ.ss (Pf E Γ.ss fp H) H (φ b) v

theorem exec_rg_cons {q : Bool} {d : Option Nat} {o : AOp} {l : List AOper} {f : Fr} {H : Heap} {v : AV} {u : Option Heap} (h : aop tb (den tb) (eval tb f) H o = some (v, u)) (hu : u.getD H = H) :
    exec tb (den tb) (rg q (⟨d, none, o⟩ :: l)) f H = exec tb (den tb) (rg q l) (put f d v) H := by
  cases q <;> simp [rg, exec, ops, opsQ, wanted, h, hu]
theorem exec_reg_cons {d : Option Nat} {o : AOp} {l : List AOper} {f : Fr} {H : Heap} {v : AV} {u : Option Heap} (h : aop tb (den tb) (eval tb f) H o = some (v, u)) :
    exec tb (den tb) (rg false (⟨d, none, o⟩ :: l)) f H = exec tb (den tb) (rg false l) (put f d v) (u.getD H) := by
  simp [rg, exec, ops, wanted, h]

/-- an operation that leaves the memory alone -/
def Sim.op {q : Bool} {d : Nat} {o : AOp} {l : List AOper} {β : Type} {a : Option β} {φ : β → Fact} (h : OpH tb Γ o a φ) (k : (b : β) → Sim tb (Γ.push d (φ b)) (rg q l) ks Q) : Sim tb Γ (rg q (⟨some d, none, o⟩ :: l)) ks Q :=
  ⟨a.bind fun b => (k b).m, fun E f H ⟨rv, fp, I⟩ r hr => by
    obtain ⟨b, hb, hr⟩ := Option.bind_eq_some_iff.1 hr
    obtain ⟨v, u, h1, h2, h3⟩ := h E rv fp f H I b hb
    obtain ⟨e, f', H', h4, h5⟩ := (k b).ok E (put f (some d) v) H ⟨rv, fp, I.push h3⟩ r hr
    exact ⟨e, f', H', by rw [exec_rg_cons h1 h2]; exact h4, h5⟩⟩
/-- .. that always comes to something that is named already -/
def Sim.op1 {q : Bool} {d : Nat} {o : AOp} {l : List AOper} {φ : Fact} (h : OpH tb Γ o (some ()) fun _ => φ) (k : Sim tb (Γ.push d φ) (rg q l) ks Q) : Sim tb Γ (rg q (⟨some d, none, o⟩ :: l)) ks Q :=
  ⟨k.m, fun E f H ⟨rv, fp, I⟩ r hr => by
    obtain ⟨v, u, h1, h2, h3⟩ := h E rv fp f H I () rfl
    obtain ⟨e, f', H', h4, h5⟩ := k.ok E (put f (some d) v) H ⟨rv, fp, I.push h3⟩ r hr
    exact ⟨e, f', H', by rw [exec_rg_cons h1 h2]; exact h4, h5⟩⟩
/-- .. that is named now -/
def Sim.opn {q : Bool} {d : Nat} {o : AOp} {l : List AOper} {t : T} {x : t.α} (h : OpH tb Γ o (some ()) fun _ => .val t x) (k : (y : t.α) → Sim tb (Γ.push d (.val t y)) (rg q l) ks Q) : Sim tb Γ (rg q (⟨some d, none, o⟩ :: l)) ks Q :=
  Sim.op1 h (k x)
def Sim.opr {q : Bool} {d : Nat} {o : AOp} {l : List AOper} {t : T} {x : t.α} (h : OpH tb Γ o (some ()) fun _ => .rp t x) (k : (y : t.α) → Sim tb (Γ.push d (.rp t y)) (rg q l) ks Q) : Sim tb Γ (rg q (⟨some d, none, o⟩ :: l)) ks Q :=
  Sim.op1 h (k x)
/-- .. whose value nobody takes -/
def Sim.op0 {q : Bool} {o : AOp} {l : List AOper} {β : Type} {a : Option β} {φ : β → Fact} (h : OpH tb Γ o a φ) (k : (b : β) → Sim tb Γ (rg q l) ks Q) : Sim tb Γ (rg q (⟨none, none, o⟩ :: l)) ks Q :=
  ⟨a.bind fun b => (k b).m, fun E f H ⟨rv, fp, I⟩ r hr => by
    obtain ⟨b, hb, hr⟩ := Option.bind_eq_some_iff.1 hr
    obtain ⟨v, u, h1, h2, h3⟩ := h E rv fp f H I b hb
    obtain ⟨e, f', H', h4, h5⟩ := (k b).ok E f H ⟨rv, fp, I⟩ r hr
    exact ⟨e, f', H', by rw [exec_rg_cons h1 h2]; exact h4, h5⟩⟩

/-- an operation that changes the memory -/
def OpM (tb : Tab) (Γ : Cx) (d : Option Nat) (o : AOp) {β : Type} (a : Option β) (Γ' : β → Cx) : Prop :=
  ∀ E rv fp f H, RelI E Γ rv fp f H → ∀ b, a = some b → ∃ v u, aop tb (den tb) (eval tb f) H o = some (v, u) ∧ ∃ rv' fp', RelI E (Γ' b) rv' fp' (put f d v) (u.getD H)
def Sim.opM {d : Option Nat} {o : AOp} {l : List AOper} {β : Type} {a : Option β} {Γ' : β → Cx} (h : OpM tb Γ d o a Γ') (k : (b : β) → Sim tb (Γ' b) (rg false l) ks Q) : Sim tb Γ (rg false (⟨d, none, o⟩ :: l)) ks Q :=
  ⟨a.bind fun b => (k b).m, fun E f H ⟨rv, fp, I⟩ r hr => by
    obtain ⟨b, hb, hr⟩ := Option.bind_eq_some_iff.1 hr
    obtain ⟨v, u, h1, rv', fp', h3⟩ := h E rv fp f H I b hb
    obtain ⟨e, f', H', h4, h5⟩ := (k b).ok E _ _ ⟨rv', fp', h3⟩ r hr
    exact ⟨e, f', H', by rw [exec_reg_cons h1]; exact h4, h5⟩⟩

/-- nothing is said -/
def Sim.stop {c : AC} : Sim tb Γ c ks Q := ⟨Option.none, fun _ _ _ _ _ h => (by cases h)⟩
def Sim.scope {x : AC} (s : Sim tb Γ x ks Q) : Sim tb Γ (.scope x) ks Q := Sim.of (c := x) (fun f H => by simp only [exec]) s
/-- where ways meet again -/
def Sim.join {c : AC} {τ : Type} (Γj : τ → Cx) (k : (p : τ) → Sim tb (Γj p) (rg false []) ks Q) (main : ((p : τ) → Sim tb (Γj p) (rg false []) ks Q) → Sim tb Γ c ks Q) : Sim tb Γ c ks Q := main k
def Sim.anyq {q : Bool} (s : Sim tb Γ (rg false []) ks Q) : Sim tb Γ (rg q []) ks Q := s.of fun f H => by simp [exec_rg_nil]

theorem T.b_V {P : Nat → Prop} {H : Heap} {v : AV} {x : Bool} : T.b.V P H v x ↔ v = .b x := T.sc_V
theorem T.int_V {k : IntKind} {P : Nat → Prop} {H : Heap} {v : AV} {x : Int} : (T.int k).V P H v x ↔ v = .i k x := T.sc_V
theorem T.str_V {P : Nat → Prop} {H : Heap} {v : AV} {x : Str} : T.str.V P H v x ↔ v = .s x := T.sc_V
theorem T.u8_V {P : Nat → Prop} {H : Heap} {v : AV} {x : UInt8} : T.u8.V P H v x ↔ v = .i .u8 x.toNat := T.sc_V
theorem T.u16_V {P : Nat → Prop} {H : Heap} {v : AV} {x : UInt16} : T.u16.V P H v x ↔ v = .i .u16 x.toNat := T.sc_V
theorem T.u32_V {P : Nat → Prop} {H : Heap} {v : AV} {x : UInt32} : T.u32.V P H v x ↔ v = .i .u32 x.toNat := T.sc_V
theorem T.u64_V {P : Nat → Prop} {H : Heap} {v : AV} {x : UInt64} : T.u64.V P H v x ↔ v = .i .u64 x.toNat := T.sc_V

def Sim.cond {a : AO} {b : Bool} {x y : AC} (h : OpF tb Γ a (.val T.b b)) (s : Sim tb Γ x ks Q) (s' : Sim tb Γ y ks Q) : Sim tb Γ (.cond a x y) ks Q :=
  ⟨if b = true then s.m else s'.m, fun E f H ⟨rv, fp, I⟩ r hr => by
    have hv := T.b_V.1 (h E rv fp f H I)
    cases b with
    | true =>
      obtain ⟨e, f', H', h4, h5⟩ := s.ok E f H ⟨rv, fp, I⟩ r (by simpa using hr)
      exact ⟨e, f', H', by simp only [exec, hv, if_true]; exact h4, h5⟩
    | false =>
      obtain ⟨e, f', H', h4, h5⟩ := s'.ok E f H ⟨rv, fp, I⟩ r (by simpa using hr)
      exact ⟨e, f', H', by simp only [exec, hv, Bool.false_eq_true, if_false]; exact h4, h5⟩⟩

/-! a loop: what it comes to is the next state, or where it is left, or the function's result -/
def QLoop (tb : Tab) {σ τ : Type} (Γl : σ → Cx) (Γx : τ → Cx) (id : Nat) (ks : List Kf) (Q : Post ρ) : Post (σ ⊕ (τ ⊕ ρ)) := fun E r e f H =>
  match r with
  | .inl s => e = .normal ∧ Rel E (Γl s) f H
  | .inr (.inl p) => e = .exit id ∧ Rel E (Γx p) f H
  | .inr (.inr r) => e ≠ .normal ∧ ∃ e' f' H', runk tb ks (e, f, H) = some (e', f', H') ∧ Q E r e' f' H'

theorem keepL_find : ∀ {l : List Nat} {f : Fr} {t : Nat}, t ∈ l → get (keepL l f) t = get f t
  | u :: l, f, t, h => by
    simp only [keepL, List.map_cons, get]
    by_cases e : u = t
    · subst e; rw [if_pos rfl]
    · rw [if_neg e]
      rcases List.mem_cons.1 h with e' | h
      · exact absurd e'.symm e
      · exact keepL_find h
/-- all temporaries of which something is known -/
def liveT (l : List Nat) (ts : Ts) : Bool := ts.all fun p => l.any (Nat.beq p.1)
theorem liveT_find {l : List Nat} : ∀ {ts : Ts} {t : Nat} {φ : Fact}, liveT l ts = true → findT ts t = some φ → t ∈ l
  | [], _, _, _, e => by simp [findT] at e
  | (u, ψ) :: r, t, φ, h, e => by
    simp only [liveT, List.all_cons, Bool.and_eq_true] at h
    simp only [findT] at e
    split at e
    · rename_i hu
      subst hu
      obtain ⟨x, hx, hb⟩ := List.any_eq_true.1 h.1
      have hb' : u = x := Nat.eq_of_beq_eq_true hb
      exact hb' ▸ hx
    · exact liveT_find h.2 e
theorem Rel.keep {E : Env} {f : Fr} {H : Heap} {l : List Nat} (h : liveT l Γ.ts = true) : Rel E Γ f H → Rel E Γ (keepL l f) H
  | ⟨rv, fp, I⟩ => ⟨rv, fp, I.fr fun _ _ e => keepL_find (liveT_find h e)⟩

noncomputable def Sim.loop {σ τ : Type} {lv : List Nat} {x : AC} {id : Nat} (Γl : σ → Cx) (Γx : τ → Cx) (s0 : σ) (h0 : Sub (Γl s0) Γ) (hl : ∀ s, liveT lv (Γl s).ts = true)
    (body : (s : σ) → Sim tb (Γl s) x [] (QLoop tb Γl Γx id ks Q)) (k : (p : τ) → Sim tb (Γx p) (.exit id) ks Q) : Sim tb Γ (.loop lv x) ks Q :=
  ⟨(iter (fun s => (body s).m) s0).bind (Sum.elim (fun p => (k p).m) some), fun E f H ⟨rv, fp, I⟩ r hr => by
    obtain ⟨b, hb, hr⟩ := Option.bind_eq_some_iff.1 hr
    obtain ⟨n, hn⟩ := iter_some hb
    have key : ∀ n s f H, Rel E (Γl s) f H → iterN (fun s => (body s).m) n s = some b → ∃ e f' H', lpN (round lv (exec tb (den tb) x)) n f H = some (e, f', H') ∧ e ≠ .normal ∧ QLoop tb Γl Γx id ks Q E (.inr b) e f' H' := by
      intro n
      induction n with
      | zero => intro s f H _ h; simp [iterN] at h
      | succ n ih =>
        intro s f H R h
        simp only [iterN] at h
        obtain ⟨r1, h1, h⟩ := Option.bind_eq_some_iff.1 h
        obtain ⟨e, f', H', h2, h3⟩ := (body s).ok E (keepL lv f) H (R.keep (hl s)) r1 h1
        have h2' : exec tb (den tb) x (keepL lv f) H = some (e, f', H') := by
          obtain ⟨p, hp, h2⟩ := Option.bind_eq_some_iff.1 h2
          rw [hp, ← h2]; rfl
        cases r1 with
        | inl s' =>
          obtain ⟨rfl, R'⟩ := h3
          obtain ⟨e2, f2, H2, h4, h5⟩ := ih s' (keepL lv f') H' (R'.keep (hl s')) h
          exact ⟨e2, f2, H2, by simp only [lpN, round, h2', Option.map_some]; exact h4, h5⟩
        | inr b' =>
          simp only [Option.some.injEq] at h
          subst h
          have hne : e ≠ .normal := by
            cases b' with
            | inl p => rw [h3.1]; simp
            | inr r => exact h3.1
          refine ⟨e, f', H', ?_, hne, h3⟩
          simp only [lpN, round, h2', Option.map_some]
          cases e <;> first | exact absurd rfl hne | rfl
    obtain ⟨e, f1, H1, h1, h2, h3⟩ := key n s0 f H ⟨rv, fp, I.sub h0⟩ hn
    have hlp : exec tb (den tb) (.loop lv x) f H = some (e, f1, H1) := by
      simp only [exec]
      exact lp_of _ h1
    rw [hlp]
    cases b with
    | inr r' =>
      simp only [Sum.elim_inr, Option.some.injEq] at hr
      subst hr
      exact h3.2
    | inl p =>
      obtain ⟨rfl, R⟩ := h3
      simp only [Sum.elim_inl] at hr
      obtain ⟨e2, f2, H2, h4, h5⟩ := (k p).ok E f1 H1 R r hr
      exact ⟨e2, f2, H2, by simpa [exec] using h4, h5⟩⟩

/-- a round is over -/
def Sim.next {q : Bool} {σ τ : Type} {Γl : σ → Cx} {Γx : τ → Cx} {id : Nat} (s : σ) (h : Sub (Γl s) Γ) : Sim tb Γ (rg q []) [] (QLoop tb Γl Γx id ks Q) :=
  ⟨some (.inl s), fun E f H ⟨rv, fp, I⟩ r hr => by
    cases hr
    exact ⟨.normal, f, H, by simp [exec_rg_nil, runk], rfl, rv, fp, I.sub h⟩⟩
/-- a loop is left -/
def Sim.out {σ τ : Type} {Γl : σ → Cx} {Γx : τ → Cx} {id : Nat} (p : τ) (h : Sub (Γx p) Γ) : Sim tb Γ (.exit id) [] (QLoop tb Γl Γx id ks Q) :=
  ⟨some (.inr (.inl p)), fun E f H ⟨rv, fp, I⟩ r hr => by
    cases hr
    exact ⟨.exit id, f, H, by simp [exec, runk], rfl, rv, fp, I.sub h⟩⟩
def Sim.retK (s : Sim tb Γ .ret [] Q) : Sim tb Γ .ret ks Q :=
  s.of fun f H => by simp [exec, runk_ret, runk]
/-- .. for good -/
def Sim.outRet {σ τ : Type} {Γl : σ → Cx} {Γx : τ → Cx} {id : Nat} {ks' : List Kf} (s : Sim tb Γ .ret ks Q) : Sim tb Γ .ret ks' (QLoop tb Γl Γx id ks Q) :=
  Sim.retK ⟨s.m.map fun r => .inr (.inr r), fun E f H R r hr => by
    obtain ⟨r', h1, rfl⟩ := Option.map_eq_some_iff.1 hr
    obtain ⟨e, f', H', h2, h3⟩ := s.ok E f H R r' h1
    refine ⟨.ret, f, H, by simp [exec, runk], by simp, e, f', H', ?_, h3⟩
    simpa [exec] using h2⟩
def Sim.outExit {σ τ : Type} {Γl : σ → Cx} {Γx : τ → Cx} {id id' : Nat} (s : Sim tb Γ (.exit id') ks Q) : Sim tb Γ (.exit id') [] (QLoop tb Γl Γx id ks Q) :=
  ⟨s.m.map fun r => .inr (.inr r), fun E f H R r hr => by
    obtain ⟨r', h1, rfl⟩ := Option.map_eq_some_iff.1 hr
    obtain ⟨e, f', H', h2, h3⟩ := s.ok E f H R r' h1
    refine ⟨.exit id', f, H, by simp [exec, runk], by simp, e, f', H', ?_, h3⟩
    simpa [exec] using h2⟩
end
end Go.Proofs.YtobejhpigbllpaaGreatDoor.Am
