/-
  Plain laws: runes of a text; one of two bytes in a text.
-/
import Derived.Test.YtopgecohakediaaDoorPlCa
namespace Go.Proofs.YtopgecohakediaaDoor.Am

theorem get_list (l : Str) (k : Nat) (h : k < l.length) : (⟨l.toArray⟩ : ByteArray).get! k = l[k] := by
  show l.toArray[k]! = l[k]
  rw [getElem!_pos _ _ (by simpa using h)]; simp
/-- a rune's bytes: one below 128, or all from 128 on -/
theorem rune_split (l : Str) (pos : Nat) (h : pos < l.length) : (l[pos].toNat < 128 ∧ runeAt l pos = ((l[pos].toNat : Int), 1)) ∨
    (128 ≤ l[pos].toNat ∧ 128 ≤ (runeAt l pos).1 ∧ 1 ≤ (runeAt l pos).2 ∧ ∀ j, j < (runeAt l pos).2 → ∃ hj : pos + j < l.length, 128 ≤ (l[pos + j]).toNat) := by
  have hsz : (⟨l.toArray⟩ : ByteArray).size = l.length := by simp [ByteArray.size]
  have h0 := get_list l pos h
  by_cases hb : l[pos].toNat < 128
  · left
    refine ⟨hb, ?_⟩
    simp only [runeAt, Utf8.decode, Nat.add_zero, h0, hb, if_true]
  · right
    have hb' : 128 ≤ l[pos].toNat := by omega
    refine ⟨hb', ?_⟩
    have hd0 : ∀ j, j < 1 → ∃ hj : pos + j < l.length, 128 ≤ (l[pos + j]).toNat := fun j hj => by
      obtain rfl : j = 0 := by omega
      exact ⟨h, hb'⟩
    have hc : ∀ k, (decide (pos + k < (⟨l.toArray⟩ : ByteArray).size) && ((⟨l.toArray⟩ : ByteArray).get! (pos + k)).toNat / 64 == 2) = true → ∃ hj : pos + k < l.length, 128 ≤ (l[pos + k]).toNat := fun k hk => by
      simp only [Bool.and_eq_true, decide_eq_true_eq, beq_iff_eq, hsz] at hk
      refine ⟨hk.1, ?_⟩
      have := hk.2
      rw [get_list l _ hk.1] at this
      omega
    simp only [runeAt, Utf8.decode, Nat.add_zero, h0]
    rw [if_neg hb]
    have err : (128 : Int) ≤ ((Utf8.runeError : Nat) : Int) := by simp [Utf8.runeError]
    split
    · rename_i hx
      simp only [Bool.and_eq_true] at hx
      have h1 := hc 1 (by simpa using hx.2)
      split
      · rename_i hy
        refine ⟨by simp only; omega, by simp, fun j hj => ?_⟩
        simp only at hj
        rcases (show j = 0 ∨ j = 1 by omega) with rfl | rfl
        · exact hd0 0 (by omega)
        · exact h1
      · exact ⟨err, by simp, hd0⟩
    · split
      · rename_i hx
        simp only [Bool.and_eq_true] at hx
        have h1 := hc 1 (by simpa using hx.1.2)
        have h2 := hc 2 (by simpa using hx.2)
        split
        · rename_i hy
          simp only [Bool.and_eq_true, decide_eq_true_eq] at hy
          refine ⟨by simp only; omega, by simp, fun j hj => ?_⟩
          simp only at hj
          rcases (show j = 0 ∨ j = 1 ∨ j = 2 by omega) with rfl | rfl | rfl
          · exact hd0 0 (by omega)
          · exact h1
          · exact h2
        · exact ⟨err, by simp, hd0⟩
      · split
        · rename_i hx
          simp only [Bool.and_eq_true] at hx
          have h1 := hc 1 (by simpa using hx.1.1.2)
          have h2 := hc 2 (by simpa using hx.1.2)
          have h3 := hc 3 (by simpa using hx.2)
          split
          · rename_i hy
            simp only [Bool.and_eq_true, decide_eq_true_eq] at hy
            refine ⟨by simp only; omega, by simp, fun j hj => ?_⟩
            simp only at hj
            rcases (show j = 0 ∨ j = 1 ∨ j = 2 ∨ j = 3 by omega) with rfl | rfl | rfl | rfl
            · exact hd0 0 (by omega)
            · exact h1
            · exact h2
            · exact h3
          · exact ⟨err, by simp, hd0⟩
        · exact ⟨err, by simp, hd0⟩

theorem enc_len (r : Int) (h : 128 ≤ r) : ∃ b c, (Utf8.encode r).data.toList = b ++ [c] ∧ 1 ≤ b.length ∧ b.length ≤ 3 ∧ 128 ≤ c.toNat := by
  have hc : 128 ≤ (if Utf8.valid r then r.toNat else Utf8.runeError) := by
    split
    · omega
    · simp [Utf8.runeError]
  have hb : ∀ n : Nat, 128 ≤ n → n < 256 → 128 ≤ (UInt8.ofNat n).toNat := fun n h1 h2 => by rw [UInt8.toNat_ofNat']; omega
  unfold Utf8.encode
  dsimp only
  generalize (if Utf8.valid r then r.toNat else Utf8.runeError) = k at hc
  rw [if_neg (by omega)]
  split
  · exact ⟨[_], _, rfl, by simp, by simp, hb _ (by omega) (by omega)⟩
  · split
    · exact ⟨[_, _], _, rfl, by simp, by simp, hb _ (by omega) (by omega)⟩
    · exact ⟨[_, _, _], _, rfl, by simp, by simp, hb _ (by omega) (by omega)⟩

theorem validRune_val (r : Int) : ∃ b, unicode_utf8_ValidRune r = some b := by
  unfold unicode_utf8_ValidRune andO
  by_cases h1 : (0 : Int) ≤ r <;> by_cases h2 : r < 55296 <;> by_cases h3 : (57343 : Int) < r <;> by_cases h4 : r ≤ 1114111 <;> simp [h1, h2, h3, h4]
/-- two bytes below 128, and a rune -/
theorem indexRune_hi (a b : UInt8) (ha : a.toNat < 128) (hb : b.toNat < 128) (r : Int) (h : 128 ≤ r) : strings_IndexRune [a, b] r = some (-1) := by
  unfold strings_IndexRune
  have n1 : ¬ r < 128 := by omega
  have n0 : (0 : Int) ≤ r := by omega
  simp only [andO, n0, n1, decide_true, decide_false, if_true, Option.bind_some]
  rw [if_neg (by simp)]
  by_cases he : r = 65533
  · rw [if_pos (by simpa using he)]
    have r0 : runeAt [a, b] 0 = ((a.toNat : Int), 1) := by
      rcases rune_split [a, b] 0 (by simp) with ⟨_, e⟩ | ⟨e, _⟩
      · exact e
      · simp at e; omega
    have r1 : runeAt [a, b] 1 = ((b.toNat : Int), 1) := by
      rcases rune_split [a, b] 1 (by simp) with ⟨_, e⟩ | ⟨e, _⟩
      · exact e
      · simp at e; omega
    have x0 : ¬ (a.toNat : Int) = 65533 := by omega
    have x1 : ¬ (b.toNat : Int) = 65533 := by omega
    rw [iter_of (n := 3) (b := .inl ())]
    · rfl
    · simp [iterN, r0, r1, x0, x1]
  · rw [if_neg (by simpa using he)]
    obtain ⟨v, hv⟩ := validRune_val r
    simp only [hv, Option.bind_some]
    cases v with
    | false => simp
    | true =>
      obtain ⟨p, c, e, h1, h2, h3⟩ := enc_len r h
      simp only [Bool.not_true, Bool.false_eq_true, if_false, e]
      have hl : ((p ++ [c]).length : Int) - 1 = (p.length : Nat) := by simp
      rw [hl, wrapN (by omega)]
      by_cases hp : p.length = 1
      · rw [iter_of (n := 1) (b := .inr (-1))]
        · rfl
        · have i1 : idx [a, b] ((p.length : Nat) : Int) = some b := by rw [idx_nat, hp]; rfl
          have i2 : idx (p ++ [c]) ((p.length : Nat) : Int) = some c := by rw [idx_nat, List.getElem?_append_right (Nat.le_refl _), Nat.sub_self]; rfl
          have hbc : ¬ (b.toNat : Int) = (c.toNat : Int) := by omega
          have hs : subL [a, b] (some (IntKind.i64.wrap ((p.length : Int) + 1))) none = some [] := by
            rw [hp, show ((1 : Nat) : Int) + 1 = ((2 : Nat) : Int) from rfl, wrapN (by omega), subL_from (by simp)]; rfl
          have hf : strings_IndexByte [] c = some (-1) := rfl
          have hlt : ((p.length : Nat) : Int) < (([a, b] : Str).length : Int) := by rw [hp]; simp
          simp only [iterN, hlt, decide_true, if_true, i1, i2, hs, hf, Option.bind_some, hbc, decide_false, Bool.not_false]
          simp
      · rw [iter_of (n := 1) (b := .inl ())]
        · rfl
        · have hlt : ¬ ((p.length : Nat) : Int) < (([a, b] : Str).length : Int) := by simp; omega
          simp only [iterN, hlt, decide_false, Bool.false_eq_true, if_false]
          rfl
theorem indexRune_lo (a b : UInt8) (c : UInt8) (h : c.toNat < 128) : strings_IndexRune [a, b] (c.toNat : Int) = some (findB [a, b] c) := by
  unfold strings_IndexRune
  have n1 : (c.toNat : Int) < 128 := by omega
  have n0 : (0 : Int) ≤ (c.toNat : Int) := by omega
  have hc : IT.u8.ofI (c.toNat : Int) = c := by
    show UInt8.ofNat (IntKind.u8.wrap (c.toNat : Int)).toNat = c
    have : IntKind.u8.wrap (c.toNat : Int) = c.toNat := by simp only [IntKind.wrap, IntKind.bits, IntKind.signed]; simp; omega
    rw [this]; simp
  simp only [andO, n0, n1, decide_true, if_true, Option.bind_some, hc, indexByte_val]

def two (a b c : UInt8) : Bool := c == a || c == b
theorem find2 (a b c : UInt8) : 0 ≤ findB [a, b] c ↔ two a b c = true := by
  unfold findB two
  by_cases h1 : a = c
  · subst h1; simp [List.findIdx?_cons]
  · by_cases h2 : b = c
    · subst h2
      have : (a == b) = false := by simpa using h1
      simp [List.findIdx?_cons, this]
    · have e1 : (a == c) = false := by simpa using h1
      have e2 : (b == c) = false := by simpa using h2
      have e3 : (c == a) = false := by simpa using Ne.symm h1
      have e4 : (c == b) = false := by simpa using Ne.symm h2
      simp [List.findIdx?_cons, e1, e2, e3, e4]

/-- the set of two bytes -/
def set2 (a b : UInt8) : Ar Bool 256 := ((T.arr 256 T.b).z.set a.toNat true).set b.toNat true
theorem makeSet2 (a b : UInt8) (ha : a.toNat < 128) (hb : b.toNat < 128) : strings_makeASCIISet [a, b] = some (set2 a b, true) := by
  unfold strings_makeASCIISet
  have na : ¬ ((128 : UInt8).toNat : Int) ≤ (a.toNat : Int) := by show ¬ (128 : Int) ≤ _; omega
  have nb : ¬ ((128 : UInt8).toNat : Int) ≤ (b.toNat : Int) := by show ¬ (128 : Int) ≤ _; omega
  have w1 : IntKind.i64.wrap ((0 : Int) + 1) = 1 := rfl
  have w2 : IntKind.i64.wrap ((1 : Int) + 1) = 2 := rfl
  have g0 : idx [a, b] 0 = some a := rfl
  have g1 : idx [a, b] 1 = some b := rfl
  have l0 : (0 : Int) < (([a, b] : Str).length : Int) := by simp
  have l1 : (1 : Int) < (([a, b] : Str).length : Int) := by simp
  have l2 : ¬ (2 : Int) < (([a, b] : Str).length : Int) := by simp
  rw [iter_of (n := 3) (b := .inl (set2 a b))]
  · rfl
  · simp only [iterN, l0, l1, l2, g0, g1, na, nb, w1, w2, decide_true, decide_false, if_true, Bool.false_eq_true, if_false, Option.bind_some, idxN_nat (show a.toNat < 256 by omega), idxN_nat (show b.toNat < 256 by omega), if_pos (show a.toNat < 256 by omega), if_pos (show b.toNat < 256 by omega)]
    rfl
theorem contains2 (a b c : UInt8) : p_strings_asciiSet_contains (some (set2 a b)) c = some (two a b c) := by
  have hl : (set2 a b).l = ((List.replicate 256 false).set a.toNat true).set b.toNat true := rfl
  have h : (set2 a b).l[c.toNat]? = some (two a b c) := by
    have hc := c.toNat_lt
    rw [hl]
    simp only [List.getElem?_set, List.length_set, List.length_replicate, List.getElem?_replicate, two]
    by_cases h1 : b.toNat = c.toNat
    · have := UInt8.toNat_inj.1 h1
      subst this
      have := b.toNat_lt
      simp; omega
    · have e1 : (c == b) = false := by rw [beq_eq_false_iff_ne]; exact fun e => h1 (by rw [e])
      rw [if_neg h1]
      by_cases h2 : a.toNat = c.toNat
      · have := UInt8.toNat_inj.1 h2
        subst this
        have := a.toNat_lt
        simp; omega
      · have e2 : (c == a) = false := by rw [beq_eq_false_iff_ne]; exact fun e => h2 (by rw [e])
        rw [if_neg h2, if_pos (by simpa using hc)]
        simp [e1, e2]
  simp [p_strings_asciiSet_contains, idx, h]

theorem containsAny_val (l : Str) (a b : UInt8) (ha : a.toNat < 128) (hb : b.toNat < 128) (hl : l.length < 1073741824) : strings_ContainsAny l [a, b] = some (l.any (two a b)) := by
  have key : ∃ r : Int, strings_IndexAny l [a, b] = some r ∧ (0 ≤ r ↔ l.any (two a b) = true) := by
    unfold strings_IndexAny
    rw [if_neg (by simp), if_neg (by simp)]
    simp only [strings_shouldUseASCIISet, Option.bind_some]
    by_cases h8 : (8 : Int) < (l.length : Int)
    · rw [if_pos (by simpa using h8)]
      simp only [makeSet2 a b ha hb, Option.bind_some, if_true]
      obtain ⟨r, e, hr⟩ := iter_ind (F := fun (s26 : Int) =>
        if (decide (s26 < (l.length : Int))) = true then
        (idx l s26).bind fun x30 =>
        (p_strings_asciiSet_contains (some (set2 a b)) x30).bind fun x31 =>
        if x31 = true then
        (some s26).map fun r => .inr (.inr r)
        else
        some (.inl (IntKind.i64.wrap (s26 + 1)))
        else
        some (.inr (.inl ()) : _ ⊕ Unit ⊕ Int)) (fun s => l.length - s.toNat) (fun s => ∃ n : Nat, s = (n : Int) ∧ n ≤ l.length ∧ (l.take n).any (two a b) = false)
        (fun r => (r = .inl () ∧ l.any (two a b) = false) ∨ ∃ n : Nat, r = .inr (n : Int) ∧ l.any (two a b) = true) (by
          rintro s ⟨n, rfl, h1, h2⟩
          by_cases hn : n < l.length
          · rw [if_pos (by simpa using hn), idx_nat, List.getElem?_eq_getElem hn]
            simp only [Option.bind_some, contains2]
            by_cases hx : two a b l[n] = true
            · right
              refine ⟨_, by rw [if_pos hx]; rfl, .inr ⟨n, rfl, ?_⟩⟩
              rw [List.any_eq_true]; exact ⟨_, List.getElem_mem hn, hx⟩
            · left
              rw [if_neg hx, show (n : Int) + 1 = ((n + 1 : Nat) : Int) by omega, wrapN (by omega)]
              refine ⟨_, rfl, ⟨n + 1, rfl, by omega, ?_⟩, by omega⟩
              rw [List.take_succ_eq_append_getElem hn, List.any_append, h2]
              simpa using hx
          · right
            rw [if_neg (by simpa using hn)]
            refine ⟨_, rfl, .inl ⟨rfl, ?_⟩⟩
            rwa [List.take_of_length_le (by omega)] at h2) (s := 0) ⟨0, rfl, by omega, by simp⟩
      rw [e]
      rcases hr with ⟨rfl, hr⟩ | ⟨n, rfl, hr⟩
      · exact ⟨-1, rfl, by simp [hr]⟩
      · exact ⟨n, rfl, by simp [hr]⟩
    · rw [if_neg (by simpa using h8)]
      obtain ⟨r, e, hr⟩ := iter_ind (F := fun (s14 : Nat) =>
        if s14 < l.length then
        (strings_IndexRune [a, b] (runeAt l s14).1).bind fun x19 =>
        if (decide (0 ≤ x19)) = true then
        (some ((s14 : Nat) : Int)).map fun r => .inr (.inr r)
        else
        some (.inl (s14 + (runeAt l s14).2))
        else
        some (.inr (.inl ()) : _ ⊕ Unit ⊕ Int)) (fun s => l.length - s) (fun n => n ≤ l.length ∧ (l.take n).any (two a b) = false)
        (fun r => (r = .inl () ∧ l.any (two a b) = false) ∨ ∃ n : Nat, r = .inr (n : Int) ∧ l.any (two a b) = true) (by
          rintro n ⟨h1, h2⟩
          by_cases hn : n < l.length
          · rw [if_pos hn]
            rcases rune_split l n hn with ⟨hlo, e⟩ | ⟨hhi, e1, e2, e3⟩
            · simp only [e, indexRune_lo a b _ hlo, Option.bind_some, find2, decide_eq_true_eq]
              by_cases hx : two a b l[n] = true
              · right
                refine ⟨_, by rw [if_pos hx]; rfl, .inr ⟨n, rfl, ?_⟩⟩
                rw [List.any_eq_true]; exact ⟨_, List.getElem_mem hn, hx⟩
              · left
                rw [if_neg hx]
                refine ⟨_, rfl, ⟨by omega, ?_⟩, by omega⟩
                rw [List.take_succ_eq_append_getElem hn, List.any_append, h2]
                simpa using hx
            · left
              simp only [indexRune_hi a b ha hb _ e1, Option.bind_some]
              have hle : n + (runeAt l n).2 ≤ l.length := by
                obtain ⟨hj, _⟩ := e3 ((runeAt l n).2 - 1) (by omega)
                omega
              refine ⟨n + (runeAt l n).2, by simp, ⟨hle, ?_⟩, by omega⟩
              rw [List.any_eq_false] at h2 ⊢
              intro x hx
              obtain ⟨i, hi, rfl⟩ := List.mem_iff_getElem.1 hx
              rw [List.length_take] at hi
              rw [List.getElem_take]
              by_cases hin : i < n
              · exact h2 _ (List.mem_iff_getElem.2 ⟨i, by rw [List.length_take]; omega, by rw [List.getElem_take]⟩)
              · obtain ⟨hj, hv⟩ := e3 (i - n) (by omega)
                have : l[n + (i - n)] = l[i] := by congr 1; omega
                rw [this] at hv
                intro ht
                simp only [two, Bool.or_eq_true, beq_iff_eq] at ht
                rcases ht with ht | ht <;> rw [ht] at hv <;> omega
          · right
            rw [if_neg hn]
            refine ⟨_, rfl, .inl ⟨rfl, ?_⟩⟩
            rwa [List.take_of_length_le (by omega)] at h2) (s := 0) ⟨by omega, by simp⟩
      rw [e]
      rcases hr with ⟨rfl, hr⟩ | ⟨n, rfl, hr⟩
      · exact ⟨-1, rfl, by simp [hr]⟩
      · exact ⟨n, rfl, by simp [hr]⟩
  obtain ⟨r, e, hr⟩ := key
  simp only [strings_ContainsAny, e, Option.bind_some]
  congr 1
  rw [Bool.eq_iff_iff]; simpa using hr
end Go.Proofs.YtopgecohakediaaDoor.Am
