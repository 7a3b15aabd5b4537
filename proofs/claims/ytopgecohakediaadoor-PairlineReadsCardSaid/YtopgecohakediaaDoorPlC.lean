/-
  Plain laws: texts without blanks at their ends, letters made small.
-/
import Derived.Test.YtopgecohakediaaDoorPlB
namespace Go.Proofs.YtopgecohakediaaDoor.Am

def blk (c : UInt8) : Bool := c == 32 || c == 9 || c == 13
def trimL (l : Str) : Str := l.dropWhile blk
def trimR (l : Str) : Str := (l.reverse.dropWhile blk).reverse

theorem dropWhile_idem {α : Type} {p : α → Bool} : ∀ l : List α, (l.dropWhile p).dropWhile p = l.dropWhile p
  | [] => rfl
  | x :: l => by
    by_cases h : p x = true
    · rw [List.dropWhile_cons_of_pos h]; exact dropWhile_idem l
    · rw [List.dropWhile_cons_of_neg h, List.dropWhile_cons_of_neg h]
theorem trimL_idem (l : Str) : trimL (trimL l) = trimL l := dropWhile_idem l
theorem trimR_idem (l : Str) : trimR (trimR l) = trimR l := by
  simp only [trimR, List.reverse_reverse, dropWhile_idem]
theorem trimR_snoc (m : Str) (c : UInt8) : trimR (m ++ [c]) = if blk c = true then trimR m else m ++ [c] := by
  simp only [trimR, List.reverse_append, List.reverse_cons, List.reverse_nil, List.nil_append, List.singleton_append, List.dropWhile_cons]
  split <;> simp
theorem trimL_cons (c : UInt8) (l : Str) : trimL (c :: l) = if blk c = true then trimL l else c :: l := by
  simp only [trimL, List.dropWhile_cons]
theorem trimR_cons (c : UInt8) (l : Str) : trimR (c :: l) = if trimR l = [] ∧ blk c = true then [] else c :: trimR l := by
  simp only [trimR, List.reverse_cons, List.dropWhile_append]
  by_cases h : l.reverse.dropWhile blk = []
  · simp only [h, List.isEmpty_nil, if_true, List.reverse_nil, true_and]
    by_cases hc : blk c = true
    · simp [hc]
    · simp [hc]
  · have : (l.reverse.dropWhile blk).isEmpty = false := by simpa using h
    simp [this, h]
theorem trim_comm : ∀ l : Str, trimL (trimR l) = trimR (trimL l)
  | [] => rfl
  | c :: l => by
    have ih := trim_comm l
    rw [trimR_cons, trimL_cons]
    by_cases hc : blk c = true
    · rw [if_pos hc]
      by_cases h : trimR l = []
      · rw [if_pos ⟨h, hc⟩, ← ih, h]
      · rw [if_neg (fun e => h e.1), trimL_cons, if_pos hc, ih]
    · rw [if_neg (fun e => hc e.2), if_neg hc, trimL_cons, if_neg hc, trimR_cons, if_neg (fun e => hc e.2)]

theorem snoc_cases (l : Str) : l = [] ∨ ∃ m c, l = m ++ [c] := by
  rcases List.eq_nil_or_concat l with h | ⟨m, c, h⟩
  · exact .inl h
  · exact .inr ⟨m, c, by rw [h, List.concat_eq_append]⟩
theorem take_last {α : Type} {m : List α} {c : α} : (m ++ [c]).take m.length = m := by simp

/-- the set of blanks -/
def blanks : Ar Bool 256 := (((T.arr 256 T.b).z.set 32 true).set 9 true).set 13 true
theorem makeSet_val : strings_makeASCIISet [32, 9, 13] = some (blanks, true) := by
  unfold strings_makeASCIISet
  rw [iter_of (n := 4) (b := .inl blanks) rfl]
  rfl
theorem contains_val (c : UInt8) : p_strings_asciiSet_contains (some blanks) c = some (blk c) := by
  have hl : blanks.l = (((List.replicate 256 false).set 32 true).set 9 true).set 13 true := rfl
  have h : blanks.l[c.toNat]? = some (blk c) := by
    have hc := c.toNat_lt
    rw [hl]
    simp only [List.getElem?_set, List.length_set, List.length_replicate, List.getElem?_replicate, blk]
    have e : ∀ n : Nat, n < 256 → (n = c.toNat ↔ c = UInt8.ofNat n) := fun n hn => by
      rw [← UInt8.toNat_inj, UInt8.toNat_ofNat']; omega
    by_cases h13 : 13 = c.toNat
    · have := (e 13 (by omega)).1 h13; subst this; decide
    · by_cases h9 : 9 = c.toNat
      · have := (e 9 (by omega)).1 h9; subst this; decide
      · by_cases h32 : 32 = c.toNat
        · have := (e 32 (by omega)).1 h32; subst this; decide
        · rw [if_neg h13, if_neg h9, if_neg h32, if_pos (by simpa using hc)]
          have a : c ≠ 13 := fun h => h13 ((e 13 (by omega)).2 h)
          have b : c ≠ 9 := fun h => h9 ((e 9 (by omega)).2 h)
          have d : c ≠ 32 := fun h => h32 ((e 32 (by omega)).2 h)
          simp [a, b, d]
  simp [p_strings_asciiSet_contains, idx, h]

theorem trimR_le (l : Str) : (trimR l).length ≤ l.length := by
  simp only [trimR, List.length_reverse]
  have := (List.dropWhile_sublist blk (l := l.reverse)).length_le
  simpa using this
/-! small letters -/
def fold (c : UInt8) : UInt8 := if 65 ≤ c.toNat ∧ c.toNat ≤ 90 then IT.u8.ofI ((c.toNat : Int) + ((32 : UInt8).toNat : Int)) else c
def orI (n : Nat) : UInt8 := IT.u8.ofI (bitsR .or .u8 (n : Int) ((32 : UInt8).toNat : Int))
def addI (n : Nat) : UInt8 := IT.u8.ofI ((n : Int) + ((32 : UInt8).toNat : Int))
theorem fold_or : ∀ n : Fin 256, 65 ≤ n.1 → n.1 ≤ 90 → orI n.1 = addI n.1 := by decide +kernel
theorem fold_idemN : ∀ n : Fin 256, fold (fold (UInt8.ofNat n.1)) = fold (UInt8.ofNat n.1) := by decide +kernel
theorem ofNat_self (c : UInt8) : UInt8.ofNat c.toNat = c := by simp
theorem fold_idem (c : UInt8) : fold (fold c) = fold c := by
  have := fold_idemN ⟨c.toNat, c.toNat_lt⟩
  simpa using this
theorem fold_or' (c : UInt8) (h : 65 ≤ c.toNat) (h' : c.toNat ≤ 90) : IT.u8.ofI (bitsR .or .u8 (c.toNat : Int) ((32 : UInt8).toNat : Int)) = fold c := by
  have := fold_or ⟨c.toNat, c.toNat_lt⟩ h h'
  exact Eq.trans (show orI c.toNat = addI c.toNat from this) (if_pos (show 65 ≤ c.toNat ∧ c.toNat ≤ 90 from ⟨h, h'⟩)).symm
end Go.Proofs.YtopgecohakediaaDoor.Am
