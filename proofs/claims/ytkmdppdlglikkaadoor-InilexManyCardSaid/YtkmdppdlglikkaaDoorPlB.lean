/-
  Plain laws: what the functions that split a text come to.
-/
import Derived.Test.YtkmdppdlglikkaaDoorPlA
import Derived.Test.YtkmdppdlglikkaaDoorWk
namespace Go.Proofs.YtkmdppdlglikkaaDoor.Am

theorem indexByte_val (l : Str) (c : UInt8) : strings_IndexByte l c = some (findB l c) := rfl
theorem cut_val (l : Str) (c : UInt8) (hl : l.length < 1099511627776) : ((∀ x ∈ l, x ≠ c) ∧ lines_Cut l c = some (l, [], false)) ∨ ∃ p q, l = p ++ c :: q ∧ (∀ x ∈ p, x ≠ c) ∧ lines_Cut l c = some (p, q, true) := by
  rcases findB_cases l c with ⟨h, e⟩ | ⟨p, q, rfl, h, e⟩
  · left
    exact ⟨h, by simp [lines_Cut, indexByte_val, e]⟩
  · right
    refine ⟨p, q, rfl, h, ?_⟩
    have hlen : (p ++ c :: q).length = p.length + (q.length + 1) := by simp
    simp only [lines_Cut, indexByte_val, e, Option.bind_some]
    rw [if_neg (by simp), subL_to (by omega), show (p.length : Int) + 1 = ((p.length + 1 : Nat) : Int) by omega, wrapN (by omega), subL_from (by omega)]
    simp [List.drop_append]

theorem index_val (l : Str) (c : UInt8) : strings_Index l [c] = some (findB l c) := by
  simp [strings_Index, internal_stringslite_Index, orO, idx, internal_stringslite_IndexByte, internal_bytealg_IndexByteString]
  rintro rfl
  simp [findB, List.findIdx?_cons]

theorem split_val (l : Str) (c : UInt8) (hl : l.length < 1073741824) : strings_Split l [c] = some (.mk (splitB c l)) := by
  have hle := splitB_le (c := c) l
  have hlen := splitB_len (c := c) l
  unfold strings_Split strings_genSplit
  rw [if_neg (by simp), if_neg (by simp)]
  dsimp only
  rw [if_pos (by simp)]
  have hcount : strings_Count l [c] = some (((splitB c l).length : Int) - 1) := by
    simp [strings_Count, idx, internal_bytealg_CountString, countB, hlen]
  simp only [hcount, Option.bind_some]
  rw [show ((splitB c l).length : Int) - 1 + 1 = (splitB c l).length by omega, wrapN (by omega), show (l.length : Int) + 1 = ((l.length + 1 : Nat) : Int) by omega, wrapN (by omega), if_neg (by omega)]
  have hmk : mkG ([] : Str) 16 ((splitB c l).length : Int) ((splitB c l).length : Int) = some (.mk (List.replicate (splitB c l).length [])) := by
    unfold mkG
    rw [if_pos (by unfold most; omega)]
    simp
  simp only [hmk, Option.bind_some, Int.add_zero]
  rw [show ((splitB c l).length : Int) - 1 = (((splitB c l).length - 1 : Nat) : Int) by omega, wrapN (by omega)]
  rw [iter_then (r := some (.mk (splitB c l))) (fun s => s.1.length) (fun s => ∃ d : List Str, s.2.1 = (d.length : Int) ∧ splitB c l = d ++ splitB c s.1 ∧ s.2.2 = .mk (d ++ List.replicate (splitB c s.1).length []) ∧ s.1.length ≤ l.length)
    (fun r => ∃ s : Str, ∃ d : List Str, r = .inl (s, (d.length : Int), .mk (d ++ [[]])) ∧ splitB c l = d ++ [s]) ⟨[], rfl, rfl, rfl, Nat.le_refl _⟩]
  · rfl
  · rintro ⟨s, i, g⟩ ⟨d, rfl, h1, hg, h3⟩
    dsimp only at h1 hg h3 ⊢
    subst hg
    have hL : (splitB c l).length = d.length + (splitB c s).length := by rw [h1, List.length_append]
    rcases findB_cases s c with ⟨hn, e⟩ | ⟨p, q, rfl, hn, e⟩
    · right
      rw [splitB_none hn] at h1 hL ⊢
      rw [if_neg (by simp at hL ⊢; omega)]
      exact ⟨_, rfl, s, d, rfl, h1⟩
    · left
      have hq := List.length_pos_iff.2 (splitB_ne (c := c) q)
      rw [splitB_app hn] at h1 hL ⊢
      have hpl : (p ++ c :: q).length = p.length + (q.length + 1) := by simp
      rw [if_pos (by simp at hL ⊢; omega)]
      simp only [index_val, e, Option.bind_some]
      rw [if_neg (by simp), wrapN (by omega), subL_to (by omega)]
      simp only [Option.bind_some, List.length_cons, List.length_nil, Nat.zero_add, List.replicate_succ, GS.l_mk]
      rw [idxN_nat (by simp)]
      simp only [Option.bind_some, get_at, Option.map_some, GS.set, set_at]
      rw [show (p.length : Int) + (1 : Nat) = ((p.length + 1 : Nat) : Int) by omega, wrapN (by omega), subL_from (by omega), drop_at, take_at]
      simp only [Option.bind_some]
      rw [show ((d.length : Nat) : Int) + 1 = ((d.length + 1 : Nat) : Int) by omega, wrapN (by omega)]
      refine ⟨_, rfl, ⟨d ++ [p], by simp, by rw [h1]; simp, by simp, ?_⟩, ?_⟩
      · dsimp only; omega
      · dsimp only; omega
  · rintro _ ⟨s, d, rfl, h⟩
    have hd : d.length + 1 ≤ l.length + 1 := by have := congrArg List.length h; simp at this; omega
    simp only [Sum.elim_inl, GS.l_mk]
    rw [idxN_nat (by simp)]
    simp only [Option.bind_some, get_at, Option.map_some, GS.set, set_at]
    rw [show ((d.length : Nat) : Int) + 1 = ((d.length + 1 : Nat) : Int) by omega, wrapN (by omega), slG_to (by simp)]
    rw [h]
    simp [List.take_of_length_le]

theorem isuffix_val (l : Str) (c : UInt8) (hl : l.length < 4611686018427387904) : ((∃ m, l = m ++ [c]) ∧ internal_stringslite_HasSuffix l [c] = some true) ∨ ((∀ m, l ≠ m ++ [c]) ∧ internal_stringslite_HasSuffix l [c] = some false) := by
  rcases List.eq_nil_or_concat l with rfl | ⟨m, x, e⟩
  · right; exact ⟨fun m => by simp, by simp [internal_stringslite_HasSuffix, andO]⟩
  · rw [List.concat_eq_append] at e
    subst e
    have hh : internal_stringslite_HasSuffix (m ++ [x]) [c] = some (decide (x = c)) := by
      simp only [List.length_append, List.length_cons, List.length_nil] at hl
      simp only [internal_stringslite_HasSuffix, andO, List.length_append, List.length_cons, List.length_nil]
      rw [if_pos (by simp; omega), show ((m.length + (0 + 1) : Nat) : Int) - ((0 + 1 : Nat) : Int) = (m.length : Nat) by omega, wrapN (by omega), subL_from (by simp)]
      simp
    rw [hh]
    by_cases hx : x = c
    · subst hx; exact .inl ⟨⟨m, rfl⟩, by simp⟩
    · exact .inr ⟨fun m' e => hx (by simpa using (List.append_inj_right' e rfl)), by simp [hx]⟩
theorem trimSuffix_val (m : Str) (c : UInt8) (hl : m.length < 4611686018427387903) : strings_TrimSuffix (m ++ [c]) [c] = some m := by
  have h : internal_stringslite_HasSuffix (m ++ [c]) [c] = some true := ((isuffix_val (m ++ [c]) c (by simp; omega)).resolve_right fun h => h.1 m rfl).2
  simp only [strings_TrimSuffix, internal_stringslite_TrimSuffix, h, Option.bind_some, if_true, List.length_append, List.length_cons, List.length_nil]
  rw [show ((m.length + (0 + 1) : Nat) : Int) - ((0 + 1 : Nat) : Int) = (m.length : Nat) by omega, wrapN (by omega), subL_to (by simp)]
  simp
theorem trimSuffix_none (l : Str) (c : UInt8) (hl : l.length < 4611686018427387903) (h : ∀ m, l ≠ m ++ [c]) : strings_TrimSuffix l [c] = some l := by
  have h : internal_stringslite_HasSuffix l [c] = some false := ((isuffix_val l c (by omega)).resolve_left fun e => by obtain ⟨⟨m, e⟩, _⟩ := e; exact h m e).2
  simp [strings_TrimSuffix, internal_stringslite_TrimSuffix, h]

/-- the lines of a text that ends with one -/
theorem loose_val (m : Str) (hl : m.length < 1073741823) : lines_Loose (m ++ [10]) = some (.mk (splitB 10 m)) := by
  simp only [lines_Loose]
  rw [if_neg (by simp)]
  simp only [trimSuffix_val m 10 (by omega), split_val m 10 (by omega), Option.bind_some]
theorem loose_none (l : Str) (hl : l.length < 1073741823) (h0 : l ≠ []) (h : ∀ m, l ≠ m ++ [10]) : lines_Loose l = some (.mk (splitB 10 l)) := by
  simp only [lines_Loose]
  rw [if_neg (by simpa using h0)]
  simp only [trimSuffix_none l 10 (by omega) h, split_val l 10 (by omega), Option.bind_some]
end Go.Proofs.YtkmdppdlglikkaaDoor.Am
