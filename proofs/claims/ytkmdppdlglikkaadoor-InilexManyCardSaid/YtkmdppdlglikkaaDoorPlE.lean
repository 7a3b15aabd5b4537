/-
  Plain laws: lines of pairs; the law PairlineLines.
-/
import Derived.Test.YtkmdppdlglikkaaDoorPlD
namespace Go.Proofs.YtkmdppdlglikkaaDoor.Am

theorem ne_of_notMem {l : Str} {c : UInt8} (h : c ∉ l) : ∀ x ∈ l, x ≠ c := fun x hx e => h (e ▸ hx)
theorem any_two (l : Str) (a b : UInt8) : l.any (two a b) = (decide (a ∈ l) || decide (b ∈ l)) := by
  rw [Bool.eq_iff_iff]
  simp only [List.any_eq_true, two, Bool.or_eq_true, beq_iff_eq, decide_eq_true_eq]
  constructor
  · rintro ⟨x, hx, rfl | rfl⟩
    · exact .inl hx
    · exact .inr hx
  · rintro (h | h)
    · exact ⟨a, h, .inl rfl⟩
    · exact ⟨b, h, .inr rfl⟩

def textP (k v : Str) : Str × Int := if k = [] ∨ 61 ∈ k ∨ 10 ∈ k ∨ 10 ∈ v then ([], 5) else if 512 < (k ++ [61] ++ v).length then ([], 4) else (k ++ [61] ++ v, 0)
theorem text_join (k v : Str) (hk : k.length < 1073741824) (hv : v.length < 1073741824) : ((if k.length + [61].length ≤ 2 * most then some (k ++ ([61] : Str)) else none).bind fun x10 =>
    (if x10.length + v.length ≤ 2 * most then some (x10 ++ v) else none).bind fun x12 =>
    if (decide (512 < (x12.length : Int))) = true then
    some (([] : Str), (4 : Int))
    else
    some (x12, 0)) = some (if 512 < (k ++ [61] ++ v).length then ([], 4) else (k ++ [61] ++ v, 0)) := by
  rw [if_pos (by unfold most; simp; omega), Option.bind_some, if_pos (by unfold most; simp; omega), Option.bind_some]
  by_cases h : 512 < (k ++ [61] ++ v).length
  · rw [if_pos h, if_pos (by rw [decide_eq_true_eq]; omega)]
  · rw [if_neg h, if_neg (by rw [decide_eq_true_eq]; omega)]
/-- what a line says -/
def Says (a k v : Str) : Prop := a = k ++ 61 :: v ∧ 61 ∉ k ∧ k ≠ [] ∧ 10 ∉ a ∧ a.length ≤ 512
theorem split_uniq {c : UInt8} : ∀ {p p' q q' : Str}, p ++ c :: q = p' ++ c :: q' → c ∉ p → c ∉ p' → p = p' ∧ q = q'
  | [], [], _, _, h, _, _ => by simpa using h
  | [], x :: p', _, _, h, _, h2 => by simp only [List.nil_append, List.cons_append, List.cons.injEq] at h; exact absurd (by rw [h.1]; simp) h2
  | x :: p, [], _, _, h, h1, _ => by simp only [List.nil_append, List.cons_append, List.cons.injEq] at h; exact absurd (by rw [← h.1]; simp) h1
  | x :: p, y :: p', _, _, h, h1, h2 => by
    simp only [List.cons_append, List.cons.injEq] at h
    obtain ⟨a, b⟩ := split_uniq h.2 (fun h => h1 (List.mem_cons_of_mem _ h)) (fun h => h2 (List.mem_cons_of_mem _ h))
    exact ⟨by rw [h.1, a], b⟩
end Go.Proofs.YtkmdppdlglikkaaDoor.Am
