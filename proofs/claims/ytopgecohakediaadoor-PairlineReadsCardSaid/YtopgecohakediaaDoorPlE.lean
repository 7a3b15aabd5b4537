/-
  Plain laws: lines of pairs; the law PairlineLines.
-/
import Derived.Test.YtopgecohakediaaDoorPlD
namespace Go.Proofs.YtopgecohakediaaDoor.Am

theorem contains1_val (l : Str) (c : UInt8) : strings_Contains l [c] = some (decide (c ∈ l)) := by
  simp only [strings_Contains, index_val, Option.bind_some]
  congr 1
  rw [Bool.eq_iff_iff]
  simp only [decide_eq_true_eq]
  rcases findB_cases l c with ⟨h, e⟩ | ⟨p, q, rfl, h, e⟩
  · rw [e]
    exact ⟨fun h => by omega, fun hm => absurd rfl (h c hm)⟩
  · rw [e]; simp
theorem has_val (l : Str) (c : UInt8) (hl : l.length < 1073741824) : r36_has l c = some (decide (c ∈ l)) := by
  simp only [r36_has, r06_parts_val l c hl, Option.bind_some]
  show some (decide ((1 : Int) < ((splitB c l).length : Int))) = _
  congr 1
  rw [Bool.eq_iff_iff]
  simp only [decide_eq_true_eq]
  have h := splitB_len (c := c) l
  have : 0 < l.countP (fun x => x == c) ↔ c ∈ l := by
    rw [List.countP_pos_iff]
    exact ⟨fun ⟨x, hx, e⟩ => by rwa [← (by simpa using e : x = c)], fun hx => ⟨c, hx, by simp⟩⟩
  rw [← this]; omega
theorem any_two (l : Str) (a b : UInt8) : l.any (two a b) = (decide (a ∈ l) || decide (b ∈ l)) := by
  rw [Bool.eq_iff_iff]
  simp only [List.any_eq_true, two, Bool.or_eq_true, beq_iff_eq, decide_eq_true_eq]
  constructor
  · rintro ⟨x, hx, rfl | rfl⟩
    · exact .inl hx
    · exact .inr hx
  · rintro (h | h)
    · exact ⟨a, h, .inl rfl⟩
    · exact ⟨b, h, .inr rfl⟩

def textP (k v : Str) : Str × Int := if k = [] ∨ 61 ∈ k ∨ 10 ∈ k ∨ 10 ∈ v then ([], 5) else if 512 < (k ++ [61] ++ v).length then ([], 4) else (k ++ [61] ++ v, 0)
theorem text_join (k v : Str) (hk : k.length < 1073741824) (hv : v.length < 1073741824) : ((if k.length + [61].length ≤ 2 * most then some (k ++ ([61] : Str)) else none).bind fun x10 =>
    (if x10.length + v.length ≤ 2 * most then some (x10 ++ v) else none).bind fun x12 =>
    if (decide (512 < (x12.length : Int))) = true then
    some (([] : Str), (4 : Int))
    else
    some (x12, 0)) = some (if 512 < (k ++ [61] ++ v).length then ([], 4) else (k ++ [61] ++ v, 0)) := by
  rw [if_pos (by unfold most; simp; omega), Option.bind_some, if_pos (by unfold most; simp; omega), Option.bind_some]
  by_cases h : 512 < (k ++ [61] ++ v).length
  · rw [if_pos h, if_pos (by rw [decide_eq_true_eq]; omega)]
  · rw [if_neg h, if_neg (by rw [decide_eq_true_eq]; omega)]
theorem text_val (k v : Str) (hk : k.length < 1073741824) (hv : v.length < 1073741824) : pairline_Text ⟨k, v⟩ = some (textP k v) := by
  unfold pairline_Text
  simp only [containsAny_val k 61 10 (by decide) (by decide) hk, any_two, contains1_val, Option.bind_some, text_join k v hk hv, orO]
  by_cases h1 : k = [] <;> by_cases h2 : (61 : UInt8) ∈ k <;> by_cases h3 : (10 : UInt8) ∈ k <;> by_cases h4 : (10 : UInt8) ∈ v <;> simp [textP, h1, h2, h3, h4]
theorem r36_text_val (k v : Str) (hk : k.length < 1073741824) (hv : v.length < 1073741824) : r36_Text ⟨k, v⟩ = some (textP k v) := by
  unfold r36_Text
  simp only [has_val k 61 hk, has_val k 10 hk, has_val v 10 hv, Option.bind_some, text_join k v hk hv, orO]
  by_cases h1 : k = [] <;> by_cases h2 : (61 : UInt8) ∈ k <;> by_cases h3 : (10 : UInt8) ∈ k <;> by_cases h4 : (10 : UInt8) ∈ v <;> simp [textP, h1, h2, h3, h4]

/-- what a line says -/
def Says (a k v : Str) : Prop := a = k ++ 61 :: v ∧ 61 ∉ k ∧ k ≠ [] ∧ 10 ∉ a ∧ a.length ≤ 512
theorem parse_val (a : Str) (hl : a.length < 1073741824) : ∃ k v c, pairline_Parse a = some (⟨k, v⟩, c) ∧ r36_Parse a = some (⟨k, v⟩, c) ∧ ((c = 0 ∧ Says a k v) ∨ (c ≠ 0 ∧ k = [] ∧ v = [] ∧ ∀ k v, ¬ Says a k v)) := by
  by_cases h : 512 < a.length
  · refine ⟨[], [], 4, ?_, ?_, .inr ⟨by decide, rfl, rfl, fun k v s => by have := s.2.2.2.2; omega⟩⟩
    · unfold pairline_Parse; rw [if_pos (by rw [decide_eq_true_eq]; omega)]
    · unfold r36_Parse; rw [if_pos (by rw [decide_eq_true_eq]; omega)]
  · have h512 : ¬ (512 : Int) < (a.length : Int) := by omega
    rcases cut_val a 61 (by omega) with ⟨hn, e⟩ | ⟨p, q, rfl, hn, e⟩
    · have hnm : (61 : UInt8) ∉ a := fun hm => hn 61 hm rfl
      refine ⟨[], [], 5, ?_, ?_, .inr ⟨by decide, rfl, rfl, fun k v s => hnm (by rw [s.1]; simp)⟩⟩
      · unfold pairline_Parse
        simp only [h512, decide_false, e, Option.bind_some, orO, Bool.false_eq_true, if_false, Bool.not_false, if_true]
      · unfold r36_Parse
        simp only [h512, decide_false, r06_parts_val a 61 hl, splitB_none hn, has_val a 61 hl, hnm, Option.bind_some, orO, Bool.false_eq_true, if_false]
        simp [idx]
    · have hm : (61 : UInt8) ∈ p ++ 61 :: q := by simp
      have hp61 : (61 : UInt8) ∉ p := fun h => hn 61 h rfl
      have i0 : idx (p :: splitB 61 q) 0 = some p := rfl
      have e1 : pairline_Parse (p ++ 61 :: q) = if p = [] ∨ 10 ∈ p ++ 61 :: q then some (⟨[], []⟩, 5) else some (⟨p, q⟩, 0) := by
        unfold pairline_Parse
        simp only [h512, decide_false, e, Option.bind_some, orO, Bool.false_eq_true, if_false, contains1_val, Bool.not_true]
        by_cases h1 : p = [] <;> by_cases h2 : (10 : UInt8) ∈ p ++ 61 :: q <;> simp only [h1, h2, decide_true, decide_false, if_true, Bool.false_eq_true, if_false, Option.bind_some, true_or, or_true, or_self] <;> simp [h1]
      have e2 : r36_Parse (p ++ 61 :: q) = if p = [] ∨ 10 ∈ p ++ 61 :: q then some (⟨[], []⟩, 5) else some (⟨p, q⟩, 0) := by
        unfold r36_Parse
        have hs : subL (p ++ 61 :: q) (some (IntKind.i64.wrap ((p.length : Int) + 1))) none = some q := by
          have hpl : (p ++ 61 :: q).length = p.length + (q.length + 1) := by simp
          rw [show (p.length : Int) + 1 = ((p.length + 1 : Nat) : Int) by omega, wrapN (by omega), subL_from (by omega), drop_at]
        simp only [h512, decide_false, r06_parts_val _ 61 hl, splitB_app hn, has_val _ 61 hl, has_val _ 10 hl, hm, GS.l_mk, i0, hs, Option.bind_some, orO, Bool.false_eq_true, if_false, decide_true, Bool.not_true]
        by_cases h1 : p = [] <;> by_cases h2 : (10 : UInt8) ∈ p ++ 61 :: q <;> simp only [h1, h2, decide_true, decide_false, if_true, Bool.false_eq_true, if_false, Option.bind_some, true_or, or_true, or_self] <;> simp [h1]
      rw [e1, e2]
      by_cases hc : p = [] ∨ 10 ∈ p ++ 61 :: q
      · rw [if_pos hc, if_pos hc]
        refine ⟨[], [], 5, rfl, rfl, .inr ⟨by decide, rfl, rfl, fun k v s => ?_⟩⟩
        rcases hc with rfl | hc
        · have h1 := s.1
          cases k with
          | nil => exact s.2.2.1 rfl
          | cons x k =>
            simp only [List.nil_append, List.cons_append, List.cons.injEq] at h1
            exact s.2.1 (by rw [h1.1]; simp)
        · exact s.2.2.2.1 hc
      · rw [if_neg hc, if_neg hc]
        exact ⟨p, q, 0, rfl, rfl, .inl ⟨rfl, rfl, hp61, fun h => hc (.inl h), fun h => hc (.inr h), by omega⟩⟩
theorem split_uniq {c : UInt8} : ∀ {p p' q q' : Str}, p ++ c :: q = p' ++ c :: q' → c ∉ p → c ∉ p' → p = p' ∧ q = q'
  | [], [], _, _, h, _, _ => by simpa using h
  | [], x :: p', _, _, h, _, h2 => by simp only [List.nil_append, List.cons_append, List.cons.injEq] at h; exact absurd (by rw [h.1]; simp) h2
  | x :: p, [], _, _, h, h1, _ => by simp only [List.nil_append, List.cons_append, List.cons.injEq] at h; exact absurd (by rw [← h.1]; simp) h1
  | x :: p, y :: p', _, _, h, h1, h2 => by
    simp only [List.cons_append, List.cons.injEq] at h
    obtain ⟨a, b⟩ := split_uniq h.2 (fun h => h1 (List.mem_cons_of_mem _ h)) (fun h => h2 (List.mem_cons_of_mem _ h))
    exact ⟨by rw [h.1, a], b⟩
theorem parse_of {a k v : Str} (s : Says a k v) : pairline_Parse a = some (⟨k, v⟩, 0) := by
  obtain ⟨k', v', c, e, _, h⟩ := parse_val a (by have := s.2.2.2.2; omega)
  rcases h with ⟨rfl, s'⟩ | ⟨_, _, _, h⟩
  · obtain ⟨rfl, rfl⟩ := split_uniq (s.1.symm.trans s'.1) s.2.1 s'.2.1
    exact e
  · exact absurd s (h k v)

theorem l36_alive_val : l36_alive () = some true := by
  have h1 := lsplit_val [97, 61, 98, 10] (by simp)
  simp only [List.cons_append, List.nil_append] at h1
  have h2 : splitB 10 [97, 61, 98, 10] = [[97, 61, 98], []] := by decide
  have hp : pairline_Parse [97, 61, 98] = some (⟨[97], [98]⟩, 0) := parse_of ⟨rfl, by decide, by decide, by decide, by decide⟩
  have hi : slices_Index_string (.mk [[97, 61, 98], []]) [] = some 1 := by
    unfold slices_Index_string
    rw [iter_of (n := 2) (b := .inr 1) (by rfl)]
    rfl
  have hr1 : pairline_Read [97, 61, 98, 10, 10] = some (.mk [⟨[97], [98]⟩], 0) := by
    unfold pairline_Read
    simp only [h1, h2, Option.bind_some, hi, orO]
    rw [show ((GS.mk [([97, 61, 98] : Str), []]).l.length : Int) - 1 = ((1 : Nat) : Int) from rfl, wrapN (by omega), slG_to (by simp)]
    simp only [Option.bind_some]
    rw [if_neg (by decide), if_neg (by decide)]
    have hx : idx (GS.mk (([([97, 61, 98] : Str), []] : List Str).take 1)).l 0 = some [97, 61, 98] := rfl
    rw [iter_of (n := 2) (b := .inl (.mk [⟨[97], [98]⟩]))]
    · rfl
    · have e0 : (0 : Int) < ((GS.mk (([([97, 61, 98] : Str), []] : List Str).take 1)).l.length : Int) := by decide
      have e1 : ¬ (1 : Int) < ((GS.mk (([([97, 61, 98] : Str), []] : List Str).take 1)).l.length : Int) := by decide
      have ha : apG 32 (GS.nil : GS S_pairline_Pair) [⟨[97], [98]⟩] = some (.mk [⟨[97], [98]⟩]) := apG_one (by unfold most; simp)
      have hw : IntKind.i64.wrap ((0 : Int) + 1) = 1 := rfl
      simp only [iterN, e0, e1, decide_true, decide_false, if_true, Bool.false_eq_true, if_false, hx, hp, ha, hw, Option.bind_some, Bool.not_true]
  have hr2 : pairline_Read [] = some (.nil, 5) := by
    unfold pairline_Read
    simp only [lsplit_nil, Option.bind_some, orO]
    rfl
  simp only [l36_alive, hr1, hr2, Option.bind_some]
  rfl

end Go.Proofs.YtopgecohakediaaDoor.Am
