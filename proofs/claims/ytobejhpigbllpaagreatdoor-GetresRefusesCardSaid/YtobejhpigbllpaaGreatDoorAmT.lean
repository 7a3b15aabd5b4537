/-
  Functions that the machine takes as they are said: those that the model knows as entries of its own.
-/
import Derived.Test.YtobejhpigbllpaaGreatDoorAmM
import Derived.Laws.Sem
import GoSem.Extern.Table
namespace Go.Proofs.YtobejhpigbllpaaGreatDoor.Am

/-- the entry that a function is -/
def ext? (P : Program) (g : Nat) : Option (Array Value → Sem Value) :=
  match P.funcs[g]? with
  | some fn => if !(fn.name == "runtime.NumGoroutine") && fn.body.isNone && (Extern.findNext fn).isNone then Extern.find fn else none
  | none => none

/-- the bytes of a string or of a slice -/
def bytesA (h : Heap) : AV → Option (List UInt8)
  | .s l => some l
  | v => (els? h 1 v).bind bytes?

def pCompare : List AV → Heap → Option (AV × Option Heap)
  | [x, y], h => (bytesA h x).bind fun a => (bytesA h y).map fun b => (.i .i64 (Extern.BytealgCompare.cmp ⟨a.toArray⟩ ⟨b.toArray⟩), none)
  | _, _ => none

section
variable {P : Program} {tb : Tab} {C : Ctx}

theorem run_ext {g : Nat} {e : Array Value → Sem Value} (he : ext? P g = some e) {vs : Array Value} {v : Value} {w : World} (h : (e vs).run P w = .ok v w) : (callFunc g vs).run P w = .ok (.value v) w := by
  unfold ext? at he
  split at he
  · rename_i fn hf
    split at he
    · rename_i hc
      simp only [Bool.and_eq_true, Bool.not_eq_true', Option.isNone_iff_eq_none] at hc
      obtain ⟨⟨h1, h2⟩, h3⟩ := hc
      have h2' : fn.body.isNone = true := by rw [h2]; rfl
      simp only [callFunc, Sem.run_bind, run_program, Result.andThen_ok, hf, h1, Bool.false_eq_true, if_false, h2', if_true, run_mark, h3, he, h, Sem.run_pure]
    · cases he
  · cases he

theorem bytes_one {e : List AV} {r : List (List AV)} {l : List UInt8} (h : bytes? (e :: r) = some l) : ∃ n q, e = [.i .u8 n] ∧ bytes? r = some q ∧ l = UInt8.ofNat n.toNat :: q := by
  unfold bytes? at h
  split at h
  · rename_i he; cases he
  · rename_i n r' he
    cases he
    obtain ⟨q, hq, rfl⟩ := Option.map_eq_some_iff.1 h
    exact ⟨n, q, rfl, hq, rfl⟩
  · cases h

theorem run_lb (w : World) (b : Nat) : ∀ (els : List (List AV)) (vss : List (List Value)) (l : List UInt8) (o : Nat) (acc : ByteArray), RepLL C els vss → bytes? els = some l → Holds w b o vss.flatten →
    (Extern.Bytes.loadBytes ⟨b, o, none⟩ els.length acc).run P w = .ok ⟨acc.data ++ l.toArray⟩ w
  | [], _, l, o, acc, _, h, _ => by
    simp only [bytes?, Option.some.injEq] at h
    subst h
    simp [Extern.Bytes.loadBytes]
  | e :: els, vss, l, o, acc, ⟨v, q, e1, r1, r2⟩, h, hh => by
    subst e1
    obtain ⟨n, l', rfl, hl, rfl⟩ := bytes_one h
    obtain ⟨u, us, e2, ru, e3⟩ := r1
    have e3' : us = [] := e3
    have ru' : u = .int .u8 n := ru
    subst e3'; subst e2; subst ru'
    have h0 : w.cell? ⟨b, o, none⟩ = some (.int .u8 n) := by
      have := hh 0 (.int .u8 n) (by simp)
      simpa using this
    have hn : (⟨b, o, none⟩ : Addr).add 1 = ⟨b, o + 1, none⟩ := rfl
    have ih := run_lb w b els q l' (o + 1) (acc.push n.toNat.toUInt8) r2 hl (fun j v hj => by
      have := hh (j + 1) v (by simpa using hj)
      rw [show o + 1 + j = o + (j + 1) by omega]
      exact this)
    simp only [List.length_cons, Extern.Bytes.loadBytes, Sem.run_bind, run_load, h0, Result.andThen_ok, hn, ih]
    congr 1
    apply ByteArray.ext
    simp [ByteArray.push, Nat.toUInt8]

theorem run_bytes (I : Inv tb C) {x : AV} {v : Value} {l : List UInt8} (r : Rep C x v) (h : bytesA C.H x = some l) : (Extern.Bytes.bytesOf v).run P C.w = .ok ⟨l.toArray⟩ C.w := by
  have slc : (els? C.H 1 x).bind bytes? = some l → (Extern.Bytes.bytesOf v).run P C.w = .ok ⟨l.toArray⟩ C.w := by
    intro h
    obtain ⟨els, he, hl⟩ := Option.bind_eq_some_iff.1 h
    rcases els_rep I (by omega) r he with ⟨rfl, e⟩ | ⟨q, cap, vss, e, hlc, hh, hs, hr⟩
    · subst e
      simp only [bytes?, Option.some.injEq] at hl
      subst hl
      rfl
    · subst e
      by_cases hne : els = []
      · subst hne
        simp only [bytes?, Option.some.injEq] at hl
        subst hl
        rfl
      · obtain ⟨b, base, rfl, hh2⟩ := hh hne
        have := run_lb (P := P) (C := C) C.w b els vss l base .empty hr hl hh2
        simp only [Extern.Bytes.bytesOf, this]
        congr 1
        apply ByteArray.ext
        show (#[] : Array UInt8) ++ l.toArray = l.toArray
        simp
  cases x <;> simp only [bytesA] at h <;> try exact slc h
  obtain rfl := Option.some.inj h
  have e : v = .string ⟨_⟩ := r
  subst e
  rfl

theorem prim_compare {g : Nat} (he : ext? P g = some Extern.BytealgCompare.compare) : CallsOk P tb fun g' args h => if g' = g then pCompare args h else none := by
  intro g' D args vs r I hr h
  dsimp only at h
  split at h
  · rename_i hg
    subst hg
    unfold pCompare at h
    split at h
    · rename_i x y h'
      obtain ⟨v, vs', e1, r1, v2, vs2, e2, r2, e3⟩ := hr
      have e3' : vs2 = [] := e3
      subst e3'; subst e2; subst e1
      obtain ⟨a, ha, h⟩ := Option.bind_eq_some_iff.1 h
      obtain ⟨b, hb, rfl⟩ := Option.map_eq_some_iff.1 h
      refine .inl (yields_pure I (v := .int .i64 (Extern.BytealgCompare.cmp ⟨a.toArray⟩ ⟨b.toArray⟩)) (run_ext he ?_) rfl)
      change Sem.run P (do pure (goInt (Extern.BytealgCompare.cmp (← Extern.Bytes.bytesOf v) (← Extern.Bytes.bytesOf v2)))) D.w = _
      simp only [Sem.run_bind, run_bytes I r1 ha, run_bytes I r2 hb, Result.andThen_ok, Sem.run_pure, goInt]
    · cases h
  · cases h

end
end Go.Proofs.YtobejhpigbllpaaGreatDoor.Am
