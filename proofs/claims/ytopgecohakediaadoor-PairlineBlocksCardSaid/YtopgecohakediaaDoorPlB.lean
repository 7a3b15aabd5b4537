/-
  Plain laws: what the functions that split a text come to.
-/
import Derived.Test.YtopgecohakediaaDoorPlA
import Derived.Test.YtopgecohakediaaDoorWk
namespace Go.Proofs.YtopgecohakediaaDoor.Am

theorem indexByte_val (l : Str) (c : UInt8) : strings_IndexByte l c = some (findB l c) := rfl
theorem cut_val (l : Str) (c : UInt8) (hl : l.length < 1099511627776) : ((∀ x ∈ l, x ≠ c) ∧ lines_Cut l c = some (l, [], false)) ∨ ∃ p q, l = p ++ c :: q ∧ (∀ x ∈ p, x ≠ c) ∧ lines_Cut l c = some (p, q, true) := by
  rcases findB_cases l c with ⟨h, e⟩ | ⟨p, q, rfl, h, e⟩
  · left
    exact ⟨h, by simp [lines_Cut, indexByte_val, e]⟩
  · right
    refine ⟨p, q, rfl, h, ?_⟩
    have hlen : (p ++ c :: q).length = p.length + (q.length + 1) := by simp
    simp only [lines_Cut, indexByte_val, e, Option.bind_some]
    rw [if_neg (by simp), subL_to (by omega), show (p.length : Int) + 1 = ((p.length + 1 : Nat) : Int) by omega, wrapN (by omega), subL_from (by omega)]
    simp [List.drop_append]

theorem parts_val (l : Str) (c : UInt8) (hl : l.length < 1073741824) : lines_Parts l c = some (.mk (splitB c l)) := by
  unfold lines_Parts
  rw [iter_val (b := .inr (.mk (splitB c l))) (fun s => s.1.length) (fun s => s.2.l ++ splitB c s.1 = splitB c l ∧ s.1.length + s.2.l.length ≤ l.length)]
  · rfl
  · rintro ⟨s, g⟩ ⟨h1, h2⟩
    dsimp only at h1 h2 ⊢
    have hap : ∀ x, apG 16 g [x] = some (.mk (g.l ++ [x])) := fun x => apG_one (by unfold most; omega)
    rcases cut_val s c (by omega) with ⟨hn, e⟩ | ⟨p, q, rfl, hn, e⟩
    · right
      simp only [e, Option.bind_some, hap]
      rw [splitB_none hn] at h1
      simp [h1]
    · left
      refine ⟨(q, .mk (g.l ++ [p])), ?_, ?_, ?_⟩
      · simp only [e, Option.bind_some, hap]; simp
      · rw [splitB_app hn] at h1
        simp only [List.length_append, List.length_cons] at h2
        refine ⟨by simpa using h1, ?_⟩
        simp only [GS.l_mk, List.length_append, List.length_cons, List.length_nil]; omega
      · simp; omega
  · exact ⟨by simp, by simp⟩

theorem r06_parts_val (l : Str) (c : UInt8) (hl : l.length < 1073741824) : r06_Parts l c = some (.mk (splitB c l)) := by
  unfold r06_Parts
  refine iter_then (fun s => l.length - s.2.1.toNat)
    (fun s => ∃ b j : Nat, s.1 = b ∧ s.2.1 = j ∧ b ≤ j ∧ j ≤ l.length ∧ (∀ x ∈ (l.take j).drop b, x ≠ c) ∧ s.2.2.l.length ≤ b ∧ s.2.2.l ++ splitB c (l.drop b) = splitB c l)
    (fun r => ∃ b : Nat, ∃ g, r = .inl ((b : Int), g) ∧ b ≤ l.length ∧ g.l.length ≤ b ∧ g.l ++ [l.drop b] = splitB c l) ⟨0, 0, rfl, rfl, by omega, by omega, by simp, by simp, by simp⟩ ?_ ?_
  rotate_left
  · rintro _ ⟨b, g, rfl, h1, h2, h3⟩
    simp only [Option.bind_some, Sum.elim_inl, subL_from h1]
    rw [apG_one (by unfold most; omega), h3, Option.bind_some]
  · rintro ⟨b', j', g⟩ ⟨b, j, rfl, rfl, h1, h2, h3, h4, h5⟩
    dsimp only at h4 h5 ⊢
    have hsplit : l.drop b = (l.take j).drop b ++ l.drop j := by
      rw [← List.drop_append_of_le_length (by simp; omega), List.take_append_drop]
    by_cases hj : j < l.length
    · rw [if_pos (by simpa using hj), idx_nat, List.getElem?_eq_getElem hj]
      simp only [Option.bind_some]
      have hdj : l.drop j = l[j] :: l.drop (j + 1) := List.drop_eq_getElem_cons hj
      rw [show (j : Int) + 1 = ((j + 1 : Nat) : Int) by omega, wrapN (by omega)]
      left
      by_cases hx : l[j] = c
      · rw [if_pos (by simp [hx]), subL_mid h1 (by omega)]
        simp only [Option.bind_some]
        rw [apG_one (by unfold most; omega)]
        refine ⟨_, rfl, ⟨j + 1, j + 1, rfl, rfl, by omega, by omega, by simp, ?_, ?_⟩, by dsimp only; omega⟩
        · simp only [GS.l_mk, List.length_append, List.length_cons, List.length_nil]; omega
        · rw [hsplit, hdj, hx, splitB_app h3] at h5
          simpa using h5
      · rw [if_neg (by simp only [decide_eq_true_eq]; exact fun e => hx (UInt8.toNat_inj.1 (by omega)))]
        refine ⟨_, rfl, ⟨b, j + 1, rfl, rfl, by omega, by omega, ?_, h4, h5⟩, by dsimp only; omega⟩
        intro x hxm
        rw [List.take_succ_eq_append_getElem hj, List.drop_append_of_le_length (by simp; omega)] at hxm
        rcases List.mem_append.1 hxm with h | h
        · exact h3 x h
        · rw [List.mem_singleton.1 h]; exact hx
    · rw [if_neg (by simpa using hj)]
      right
      refine ⟨_, rfl, b, g, rfl, by omega, h4, ?_⟩
      have : l.drop j = [] := List.drop_eq_nil_of_le (by omega)
      rw [this, List.append_nil] at hsplit
      rw [hsplit, splitB_none h3] at h5
      rw [hsplit]; exact h5

theorem same_val (a b : GS Str) (hl : a.l.length < 4611686018427387904) : r06_Same a b = some (decide (a.l = b.l)) := by
  unfold r06_Same
  by_cases h : a.l.length = b.l.length
  · simp only [h, decide_true, Bool.not_true, Bool.false_eq_true, if_false]
    refine iter_then (fun s => b.l.length - s.toNat)
      (fun s => ∃ j : Nat, s = j ∧ j ≤ b.l.length ∧ a.l.take j = b.l.take j) (fun r => r = .inl () ∧ a.l = b.l ∨ r = .inr false ∧ a.l ≠ b.l) ⟨0, rfl, by omega, by simp⟩ ?_ ?_
    rotate_left
    · rintro _ (⟨rfl, h⟩ | ⟨rfl, h⟩) <;> simp [h]
    · rintro s ⟨j, rfl, h1, h2⟩
      by_cases hj : j < b.l.length
      · rw [if_pos (by simpa using hj), idx_nat, idx_nat, List.getElem?_eq_getElem hj, List.getElem?_eq_getElem (by omega)]
        simp only [Option.bind_some]
        by_cases hx : a.l[j]'(by omega) = b.l[j]
        · left
          rw [if_neg (by simpa using hx), show (j : Int) + 1 = ((j + 1 : Nat) : Int) by omega, wrapN (by omega)]
          exact ⟨_, rfl, ⟨j + 1, rfl, by omega, by rw [List.take_succ_eq_append_getElem (by omega), List.take_succ_eq_append_getElem hj, h2, hx]⟩, by omega⟩
        · right
          rw [if_pos (by simpa using hx)]
          exact ⟨_, rfl, .inr ⟨rfl, fun e => hx (by simp [e])⟩⟩
      · right
        rw [if_neg (by simpa using hj)]
        refine ⟨_, rfl, .inl ⟨rfl, ?_⟩⟩
        rw [List.take_of_length_le (by omega), List.take_of_length_le (by omega)] at h2
        exact h2
  · have : ¬ a.l = b.l := fun e => h (by rw [e])
    simp only [this, decide_false]
    rw [if_pos (by simpa using fun e => h (by omega))]

theorem index_val (l : Str) (c : UInt8) : strings_Index l [c] = some (findB l c) := by
  simp [strings_Index, internal_stringslite_Index, orO, idx, internal_stringslite_IndexByte, internal_bytealg_IndexByteString]
  rintro rfl
  simp [findB, List.findIdx?_cons]

theorem split_val (l : Str) (c : UInt8) (hl : l.length < 1073741824) : strings_Split l [c] = some (.mk (splitB c l)) := by
  have hle := splitB_le (c := c) l
  have hlen := splitB_len (c := c) l
  unfold strings_Split strings_genSplit
  rw [if_neg (by simp), if_neg (by simp)]
  dsimp only
  rw [if_pos (by simp)]
  have hcount : strings_Count l [c] = some (((splitB c l).length : Int) - 1) := by
    simp [strings_Count, idx, internal_bytealg_CountString, countB, hlen]
  simp only [hcount, Option.bind_some]
  rw [show ((splitB c l).length : Int) - 1 + 1 = (splitB c l).length by omega, wrapN (by omega), show (l.length : Int) + 1 = ((l.length + 1 : Nat) : Int) by omega, wrapN (by omega), if_neg (by omega)]
  have hmk : mkG ([] : Str) 16 ((splitB c l).length : Int) ((splitB c l).length : Int) = some (.mk (List.replicate (splitB c l).length [])) := by
    unfold mkG
    rw [if_pos (by unfold most; omega)]
    simp
  simp only [hmk, Option.bind_some, Int.add_zero]
  rw [show ((splitB c l).length : Int) - 1 = (((splitB c l).length - 1 : Nat) : Int) by omega, wrapN (by omega)]
  rw [iter_then (r := some (.mk (splitB c l))) (fun s => s.1.length) (fun s => ∃ d : List Str, s.2.1 = (d.length : Int) ∧ splitB c l = d ++ splitB c s.1 ∧ s.2.2 = .mk (d ++ List.replicate (splitB c s.1).length []) ∧ s.1.length ≤ l.length)
    (fun r => ∃ s : Str, ∃ d : List Str, r = .inl (s, (d.length : Int), .mk (d ++ [[]])) ∧ splitB c l = d ++ [s]) ⟨[], rfl, rfl, rfl, Nat.le_refl _⟩]
  · rfl
  · rintro ⟨s, i, g⟩ ⟨d, rfl, h1, hg, h3⟩
    dsimp only at h1 hg h3 ⊢
    subst hg
    have hL : (splitB c l).length = d.length + (splitB c s).length := by rw [h1, List.length_append]
    rcases findB_cases s c with ⟨hn, e⟩ | ⟨p, q, rfl, hn, e⟩
    · right
      rw [splitB_none hn] at h1 hL ⊢
      rw [if_neg (by simp at hL ⊢; omega)]
      exact ⟨_, rfl, s, d, rfl, h1⟩
    · left
      have hq := List.length_pos_iff.2 (splitB_ne (c := c) q)
      rw [splitB_app hn] at h1 hL ⊢
      have hpl : (p ++ c :: q).length = p.length + (q.length + 1) := by simp
      rw [if_pos (by simp at hL ⊢; omega)]
      simp only [index_val, e, Option.bind_some]
      rw [if_neg (by simp), wrapN (by omega), subL_to (by omega)]
      simp only [Option.bind_some, List.length_cons, List.length_nil, Nat.zero_add, List.replicate_succ, GS.l_mk]
      rw [idxN_nat (by simp)]
      simp only [Option.bind_some, get_at, Option.map_some, GS.set, set_at]
      rw [show (p.length : Int) + (1 : Nat) = ((p.length + 1 : Nat) : Int) by omega, wrapN (by omega), subL_from (by omega), drop_at, take_at]
      simp only [Option.bind_some]
      rw [show ((d.length : Nat) : Int) + 1 = ((d.length + 1 : Nat) : Int) by omega, wrapN (by omega)]
      refine ⟨_, rfl, ⟨d ++ [p], by simp, by rw [h1]; simp, by simp, ?_⟩, ?_⟩
      · dsimp only; omega
      · dsimp only; omega
  · rintro _ ⟨s, d, rfl, h⟩
    have hd : d.length + 1 ≤ l.length + 1 := by have := congrArg List.length h; simp at this; omega
    simp only [Sum.elim_inl, GS.l_mk]
    rw [idxN_nat (by simp)]
    simp only [Option.bind_some, get_at, Option.map_some, GS.set, set_at]
    rw [show ((d.length : Nat) : Int) + 1 = ((d.length + 1 : Nat) : Int) by omega, wrapN (by omega), slG_to (by simp)]
    rw [h]
    simp [List.take_of_length_le]

theorem isuffix_val (l : Str) (c : UInt8) (hl : l.length < 4611686018427387904) : ((∃ m, l = m ++ [c]) ∧ internal_stringslite_HasSuffix l [c] = some true) ∨ ((∀ m, l ≠ m ++ [c]) ∧ internal_stringslite_HasSuffix l [c] = some false) := by
  rcases List.eq_nil_or_concat l with rfl | ⟨m, x, e⟩
  · right; exact ⟨fun m => by simp, by simp [internal_stringslite_HasSuffix, andO]⟩
  · rw [List.concat_eq_append] at e
    subst e
    have hh : internal_stringslite_HasSuffix (m ++ [x]) [c] = some (decide (x = c)) := by
      simp only [List.length_append, List.length_cons, List.length_nil] at hl
      simp only [internal_stringslite_HasSuffix, andO, List.length_append, List.length_cons, List.length_nil]
      rw [if_pos (by simp; omega), show ((m.length + (0 + 1) : Nat) : Int) - ((0 + 1 : Nat) : Int) = (m.length : Nat) by omega, wrapN (by omega), subL_from (by simp)]
      simp
    rw [hh]
    by_cases hx : x = c
    · subst hx; exact .inl ⟨⟨m, rfl⟩, by simp⟩
    · exact .inr ⟨fun m' e => hx (by simpa using (List.append_inj_right' e rfl)), by simp [hx]⟩
theorem suffix_val (l : Str) (c : UInt8) (hl : l.length < 4611686018427387904) : ((∃ m, l = m ++ [c]) ∧ strings_HasSuffix l [c] = some true) ∨ ((∀ m, l ≠ m ++ [c]) ∧ strings_HasSuffix l [c] = some false) := by
  rcases isuffix_val l c hl with ⟨h1, h2⟩ | ⟨h1, h2⟩
  · exact .inl ⟨h1, by simp [strings_HasSuffix, h2]⟩
  · exact .inr ⟨h1, by simp [strings_HasSuffix, h2]⟩
theorem trimSuffix_val (m : Str) (c : UInt8) (hl : m.length < 4611686018427387903) : strings_TrimSuffix (m ++ [c]) [c] = some m := by
  have h : internal_stringslite_HasSuffix (m ++ [c]) [c] = some true := ((isuffix_val (m ++ [c]) c (by simp; omega)).resolve_right fun h => h.1 m rfl).2
  simp only [strings_TrimSuffix, internal_stringslite_TrimSuffix, h, Option.bind_some, if_true, List.length_append, List.length_cons, List.length_nil]
  rw [show ((m.length + (0 + 1) : Nat) : Int) - ((0 + 1 : Nat) : Int) = (m.length : Nat) by omega, wrapN (by omega), subL_to (by simp)]
  simp
theorem trimSuffix_none (l : Str) (c : UInt8) (hl : l.length < 4611686018427387903) (h : ∀ m, l ≠ m ++ [c]) : strings_TrimSuffix l [c] = some l := by
  have h : internal_stringslite_HasSuffix l [c] = some false := ((isuffix_val l c (by omega)).resolve_left fun e => by obtain ⟨⟨m, e⟩, _⟩ := e; exact h m e).2
  simp [strings_TrimSuffix, internal_stringslite_TrimSuffix, h]

/-- the lines of a text that ends with one -/
theorem loose_val (m : Str) (hl : m.length < 1073741823) : lines_Loose (m ++ [10]) = some (.mk (splitB 10 m)) := by
  simp only [lines_Loose]
  rw [if_neg (by simp)]
  simp only [trimSuffix_val m 10 (by omega), split_val m 10 (by omega), Option.bind_some]
theorem loose_none (l : Str) (hl : l.length < 1073741823) (h0 : l ≠ []) (h : ∀ m, l ≠ m ++ [10]) : lines_Loose l = some (.mk (splitB 10 l)) := by
  simp only [lines_Loose]
  rw [if_neg (by simpa using h0)]
  simp only [trimSuffix_none l 10 (by omega) h, split_val l 10 (by omega), Option.bind_some]
theorem lsplit_val (m : Str) (hl : m.length < 1073741823) : lines_Split (m ++ [10]) = some (.mk (splitB 10 m), true) := by
  have h := ((suffix_val (m ++ [10]) 10 (by simp; omega)).resolve_right fun h => h.1 m rfl).2
  simp [lines_Split, andO, h, loose_val m hl]
theorem lsplit_none (l : Str) (hl : l.length < 1073741823) (h0 : l ≠ []) (h : ∀ m, l ≠ m ++ [10]) : lines_Split l = some (.nil, false) := by
  have h := ((suffix_val l 10 (by omega)).resolve_left fun e => by obtain ⟨⟨m, e⟩, _⟩ := e; exact h m e).2
  simp [lines_Split, andO, h, h0]
theorem lsplit_nil : lines_Split [] = some (.nil, true) := by simp [lines_Split, andO, lines_Loose]

theorem alive_val : l06_alive () = some true := by
  have h1 := lsplit_val [97, 10] (by simp)
  have h2 := loose_none [97, 10, 98] (by simp) (by simp) (fun m e => by have := congrArg List.getLast? e; simp at this)
  have h3 := parts_val [97, 44, 44, 98] 44 (by simp)
  simp only [List.cons_append, List.nil_append] at h1
  simp only [l06_alive, h1, h2, h3, Option.bind_some]
  rw [same_val _ _ (by decide), same_val _ _ (by decide)]
  rfl
end Go.Proofs.YtopgecohakediaaDoor.Am
