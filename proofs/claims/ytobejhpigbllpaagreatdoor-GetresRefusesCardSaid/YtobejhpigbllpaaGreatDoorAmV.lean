/-
  Entries of the model's that the machine takes as they are said: a byte's place in bytes, how often it is there.
-/
import Derived.Test.YtobejhpigbllpaaGreatDoorAmT
import Derived.Lib.Bytealg
namespace Go.Proofs.YtobejhpigbllpaaGreatDoor.Am

/-- a byte's first place; -1: there is none -/
def findB (l : List UInt8) (c : UInt8) : Int := match l.findIdx? (fun x => x == c) with
  | some i => (i : Int)
  | none => -1
def countB (l : List UInt8) (c : UInt8) : Int := (l.countP (fun x => x == c) : Int)

def byteA : AV → Option UInt8
  | .i .u8 n => some (UInt8.ofNat n.toNat)
  | _ => none
def pByte (f : List UInt8 → UInt8 → Int) : List AV → Heap → Option (AV × Option Heap)
  | [x, y], h => (byteA y).bind fun c => (bytesA h x).map fun a => (.i .i64 (f a c), none)
  | _, _ => none
def pIndexByte : List AV → Heap → Option (AV × Option Heap) := pByte findB
def pCount : List AV → Heap → Option (AV × Option Heap) := pByte countB

theorem find_range {l : List UInt8} {c : UInt8} : ((List.range l.length).find? fun i => l.toArray[i]! == c) = l.findIdx? (fun x => x == c) := by
  have key : ∀ (m : List UInt8) (k : Nat), k + m.length = l.length → (∀ i, m[i]? = l[k + i]?) → ((List.range' k m.length).find? fun i => l.toArray[i]! == c) = (m.findIdx? (fun x => x == c)).map (k + ·) := by
    intro m
    induction m with
    | nil => intro k _ _; rfl
    | cons x m ih =>
      intro k hk he
      have h0 : l.toArray[k]! = x := by
        have := he 0
        simp only [List.getElem?_cons_zero, Nat.add_zero] at this
        simp [← this]
      rw [List.length_cons, List.range'_succ, List.find?_cons, h0, List.findIdx?_cons]
      cases hx : x == c with
      | true => simp
      | false =>
        simp only [Bool.false_eq_true, if_false]
        rw [ih (k + 1) (by simp at hk; omega) (fun i => by have := he (i + 1); simp only [List.getElem?_cons_succ] at this; rw [this]; congr 1; omega)]
        cases m.findIdx? (fun x => x == c) with
        | none => rfl
        | some i => simp; omega
  have := key l 0 (by simp) (fun i => by simp)
  rw [List.range_eq_range', this]
  cases l.findIdx? (fun x => x == c) <;> simp

theorem run_find {l : List UInt8} {c : UInt8} : (match (List.range (⟨l.toArray⟩ : ByteArray).size).find? fun i => (⟨l.toArray⟩ : ByteArray)[i]! == c with
    | some i => goInt i
    | none => goInt (-1)) = .int .i64 (findB l c) := by
  have h : (List.range (⟨l.toArray⟩ : ByteArray).size).find? (fun i => (⟨l.toArray⟩ : ByteArray)[i]! == c) = l.findIdx? (fun x => x == c) := by
    rw [← find_range]
    congr 1
    funext i
    congr 1
    by_cases hi : i < l.length
    · rw [getElem!_pos _ _ (by simpa [ByteArray.size] using hi), getElem!_pos _ _ (by simpa using hi)]; rfl
    · rw [getElem!_neg _ _ (by simpa [ByteArray.size] using hi), getElem!_neg _ _ (by simpa using hi)]
  rw [h]
  unfold findB
  cases l.findIdx? (fun x => x == c) <;> rfl
theorem run_count {l : List UInt8} {c : UInt8} : (⟨l.toArray⟩ : ByteArray).foldl (fun (n : Int) x => if x == c then n + 1 else n) ((0 : Nat) : Int) = (l.countP (fun x => x == c) : Int) := by
  rw [Lib.foldl_data]
  have : ∀ (l : List UInt8) (k : Int), l.foldl (fun n x => if x == c then n + 1 else n) k = k + (l.countP (fun x => x == c) : Int) := by
    intro l
    induction l with
    | nil => intro k; simp
    | cons x l ih =>
      intro k
      rw [List.foldl_cons, ih, List.countP_cons]
      split <;> simp <;> omega
  rw [this]; simp

section
variable {P : Program} {tb : Tab}
theorem prim_byte {g : Nat} {f : List UInt8 → UInt8 → Int} {e : Array Value → Sem Value} (he : ext? P g = some e)
    (hf : ∀ (v : Value) (n : Int) (l : List UInt8) (w : World), (Extern.Bytes.bytesOf v).run P w = .ok ⟨l.toArray⟩ w → (e #[v, .int .u8 n]).run P w = .ok (.int .i64 (f l (UInt8.ofNat n.toNat))) w) : CallsOk P tb fun g' args h => if g' = g then pByte f args h else none := by
  intro g' D args vs r I hr h
  dsimp only at h
  split at h
  · rename_i hg
    subst hg
    unfold pByte at h
    split at h
    · rename_i hh x y
      obtain ⟨v, vs', e1, r1, v2, vs2, e2, r2, e3⟩ := hr
      have e3' : vs2 = [] := e3
      subst e3'; subst e2; subst e1
      obtain ⟨c, hc, h⟩ := Option.bind_eq_some_iff.1 h
      obtain ⟨a, ha, rfl⟩ := Option.map_eq_some_iff.1 h
      unfold byteA at hc
      cases y with
      | i k n =>
        have r2' : v2 = .int k n := r2
        subst r2'
        cases k <;> simp only [reduceCtorEq, Option.some.injEq] at hc
        subst hc
        exact .inl (yields_pure I (v := .int .i64 (f a (UInt8.ofNat n.toNat))) (run_ext he (hf v n a D.w (run_bytes (P := P) I r1 ha))) rfl)
      | _ => cases hc
    · cases h
  · cases h
theorem prim_indexByte {g : Nat} (he : ext? P g = some Extern.BytealgIndexByte.indexByte) : CallsOk P tb fun g' args h => if g' = g then pIndexByte args h else none :=
  prim_byte he fun v n l w h => by
    change Sem.run P (do
      let b ← Extern.Bytes.bytesOf v
      let c ← Extern.Bytes.asByte (.int .u8 n)
      match (List.range b.size).find? fun i => b[i]! == c with
      | some i => pure (goInt i)
      | none => pure (goInt (-1))) w = _
    simp only [Sem.run_bind, h, Result.andThen_ok, Extern.Bytes.asByte, Sem.run_pure]
    have := run_find (l := l) (c := UInt8.ofNat n.toNat)
    have hc : n.toNat.toUInt8 = UInt8.ofNat n.toNat := rfl
    rw [hc]
    split <;> rename_i hx <;> rw [hx] at this <;> simp only [] at this <;> rw [← this] <;> rfl
theorem prim_count {g : Nat} (he : ext? P g = some Extern.BytealgCount.count) : CallsOk P tb fun g' args h => if g' = g then pCount args h else none :=
  prim_byte he fun v n l w h => by
    change Sem.run P (do
      let b ← Extern.Bytes.bytesOf v
      let c ← Extern.Bytes.asByte (.int .u8 n)
      pure (goInt (b.foldl (fun (n : Int) x => if x == c then n + 1 else n) ((0 : Nat) : Int)))) w = _
    simp only [Sem.run_bind, h, Result.andThen_ok, Extern.Bytes.asByte, Sem.run_pure]
    have hc : n.toNat.toUInt8 = UInt8.ofNat n.toNat := rfl
    rw [hc, run_count]; rfl
end

/-- what hands back what it is given -/
def pSame : List AV → Heap → Option (AV × Option Heap)
  | [x], _ => some (x, none)
  | _, _ => none
theorem prim_same {P : Program} {tb : Tab} {g : Nat} (he : ext? P g = some Extern.AbiNoEscape.same) : CallsOk P tb fun g' args h => if g' = g then pSame args h else none := by
  intro g' D args vs r I hr h
  dsimp only at h
  split at h
  · rename_i hg
    subst hg
    unfold pSame at h
    split at h
    · cases h
      obtain ⟨v, vs', e1, r1, e3⟩ := hr
      have e3' : vs' = [] := e3
      subst e3'; subst e1
      exact .inl (yields_pure I (v := v) (run_ext he rfl) r1)
    · cases h
  · cases h
end Go.Proofs.YtobejhpigbllpaaGreatDoor.Am
