/-
  The law LinesCut, plainly.
-/
import Derived.Test.YtggdinpopddhnaaDoorPlB
namespace Go.Proofs.YtggdinpopddhnaaDoor.Am

theorem plain_LinesCut (l : Str) (c : UInt8) : l06_LinesCut l c = some true := by
  unfold l06_LinesCut
  by_cases hl : (300 : Int) < (l.length : Int)
  · rw [if_pos (by simpa using hl), alive_val]; rfl
  · rw [if_neg (by simpa using hl)]
    simp only [r06_parts_val l c (by omega), parts_val l c (by omega), Option.bind_some]
    have hs := splitB_le (c := c) l
    rw [same_val _ _ (by simp only [GS.l_mk]; omega)]
    rcases cut_val l c (by omega) with ⟨hn, e⟩ | ⟨p, q, rfl, hn, e⟩
    · simp only [e, splitB_none hn, Option.bind_some, alive_val]
      simp [orO, andO, idx]
    · have hpl : (p ++ c :: q).length = p.length + (q.length + 1) := by simp
      have hq := List.length_pos_iff.2 (splitB_ne (c := c) q)
      have hq2 := splitB_le (c := c) q
      simp only [e, splitB_app hn, Option.bind_some, alive_val, r06_parts_val q c (by omega)]
      have h1 : slG (.mk (p :: splitB c q)) (some 1) none = some (.mk (splitB c q)) := by
        have := slG_from (l := p :: splitB c q) (n := 1) (by simp)
        simpa using this
      simp only [h1, Option.bind_some, same_val (.mk (splitB c q)) (.mk (splitB c q)) (by simp only [GS.l_mk]; omega)]
      have h2 : (1 : Int) < ((splitB c q).length : Int) + 1 := by omega
      simp [orO, andO, idx, h2]
end Go.Proofs.YtggdinpopddhnaaDoor.Am
