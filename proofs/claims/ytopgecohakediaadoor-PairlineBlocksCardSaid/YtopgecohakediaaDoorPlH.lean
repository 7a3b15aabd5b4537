/-
  Plain laws: the text of lines; the laws LinesSplit and LinesJoin.
-/
import Derived.Test.YtopgecohakediaaDoorPlCa
namespace Go.Proofs.YtopgecohakediaaDoor.Am

/-- the text of lines -/
def txt (l : List Str) : Str := l.flatMap fun x => x ++ [10]
theorem txt_cons (x : Str) (l : List Str) : txt (x :: l) = x ++ 10 :: txt l := by simp [txt]
theorem txt_app (a b : List Str) : txt (a ++ b) = txt a ++ txt b := by simp [txt]
theorem txt_one (x : Str) : txt [x] = x ++ [10] := by simp [txt]
theorem txt_snoc (a : List Str) (x : Str) : txt (a ++ [x]) = txt a ++ x ++ [10] := by rw [txt_app, txt_one, List.append_assoc]
theorem txt_take {l : List Str} {n : Nat} (h : n < l.length) : txt (l.take (n + 1)) = txt (l.take n) ++ l[n] ++ [10] := by
  rw [List.take_succ_eq_append_getElem h, txt_snoc]
theorem txt_le (l : List Str) (n : Nat) : (txt (l.take n)).length ≤ (txt l).length := by
  have := congrArg List.length (txt_app (l.take n) (l.drop n))
  rw [List.take_append_drop, List.length_append] at this
  omega
theorem txt_split : ∀ m : Str, txt (splitB 10 m) = m ++ [10]
  | [] => rfl
  | x :: l => by
    have ih := txt_split l
    simp only [splitB]
    by_cases hx : x = 10
    · rw [if_pos hx, txt_cons, ih, hx]; rfl
    · rw [if_neg hx]
      cases e : splitB 10 l with
      | nil => exact absurd e (splitB_ne l)
      | cons h t =>
        rw [e, txt_cons] at ih
        rw [txt_cons]
        show x :: (h ++ 10 :: txt t) = _
        rw [ih]; rfl
theorem split_txt : ∀ {l : List Str}, (∀ x ∈ l, (10 : UInt8) ∉ x) → splitB 10 (txt l) = l ++ [[]]
  | [], _ => rfl
  | x :: l, h => by
    rw [txt_cons, splitB_app (ne_of_notMem (h x List.mem_cons_self)), split_txt fun y hy => h y (List.mem_cons_of_mem _ hy)]
    rfl
theorem txt_len (l : List Str) (n : Nat) (h : ∀ x ∈ l, x.length ≤ n) : (txt l).length ≤ l.length * (n + 1) := by
  induction l with
  | nil => simp [txt]
  | cons x l ih =>
    have h1 := ih fun y hy => h y (List.mem_cons_of_mem _ hy)
    have h2 := h x List.mem_cons_self
    rw [txt_cons, List.length_append, List.length_cons, List.length_cons, Nat.succ_mul]; omega
theorem len_txt (l : List Str) : l.length ≤ (txt l).length := by
  induction l with
  | nil => simp
  | cons x l ih => rw [txt_cons, List.length_append, List.length_cons, List.length_cons]; omega

theorem join_val (g : GS Str) (h : (txt g.l).length ≤ most) : lines_Join g = some (txt g.l) := by
  have hl := len_txt g.l
  unfold most at h
  unfold lines_Join
  refine iter_then (fun s => g.l.length - s.1.toNat) (fun s => ∃ n : Nat, s.1 = n ∧ n ≤ g.l.length ∧ s.2 = txt (g.l.take n)) (fun r => r = .inl (txt g.l)) ⟨0, rfl, by omega, by simp [txt]⟩ ?_ ?_
  rotate_left
  · rintro _ rfl
    simp only [Sum.elim_inl, bldT]
    rw [if_pos ⟨by unfold most; exact h, fun e => by cases e⟩]; rfl
  · rintro ⟨s, b⟩ ⟨n, rfl, h1, h2⟩
    dsimp only at h2 ⊢
    subst h2
    by_cases hn : n < g.l.length
    · have h3 := txt_take hn
      have h4 := txt_le g.l (n + 1)
      rw [h3] at h4
      simp only [List.length_append, List.length_cons, List.length_nil] at h4
      rw [if_pos (by simpa using hn), idx_nat, List.getElem?_eq_getElem hn]
      left
      refine ⟨((n : Int) + 1, txt (g.l.take (n + 1))), ?_, ⟨n + 1, by simp, by omega, rfl⟩, by dsimp only; omega⟩
      simp only [Option.bind_some, bldG]
      rw [if_pos (by unfold most; omega)]
      simp only [Option.bind_some]
      rw [if_pos (by unfold most; simp; omega), Option.bind_some, ← h3, show (n : Int) + 1 = ((n + 1 : Nat) : Int) by omega, wrapN (by omega)]
    · right
      rw [if_neg (by simpa using hn)]
      exact ⟨_, rfl, by rw [List.take_of_length_le (by omega)]⟩

theorem r06_join_val (g : GS Str) (h : (txt g.l).length ≤ most) : r06_Join g = some (txt g.l) := by
  have hl := len_txt g.l
  unfold most at h
  unfold r06_Join
  refine iter_then (fun s => g.l.length - s.2.toNat) (fun s => ∃ n : Nat, s.2 = n ∧ n ≤ g.l.length ∧ s.1 = txt (g.l.take n)) (fun r => r = .inl (txt g.l)) ⟨0, rfl, by omega, by simp [txt]⟩ ?_ ?_
  rotate_left
  · rintro _ rfl; rfl
  · rintro ⟨b, s⟩ ⟨n, rfl, h1, h2⟩
    dsimp only at h2 ⊢
    subst h2
    by_cases hn : n < g.l.length
    · have h3 := txt_take hn
      have h4 := txt_le g.l (n + 1)
      rw [h3] at h4
      simp only [List.length_append, List.length_cons, List.length_nil] at h4
      rw [if_pos (by simpa using hn), idx_nat, List.getElem?_eq_getElem hn]
      left
      refine ⟨(txt (g.l.take (n + 1)), (n : Int) + 1), ?_, ⟨n + 1, by simp, by omega, rfl⟩, by dsimp only; omega⟩
      simp only [Option.bind_some]
      rw [if_pos (by unfold most; omega)]
      simp only [Option.bind_some]
      rw [if_pos (by unfold most; simp; omega), Option.bind_some, ← h3, show (n : Int) + 1 = ((n + 1 : Nat) : Int) by omega, wrapN (by omega)]
    · right
      rw [if_neg (by simpa using hn)]
      exact ⟨_, rfl, by rw [List.take_of_length_le (by omega)]⟩

theorem plain_LinesSplit (s : Str) : l06_LinesSplit s = some true := by
  unfold l06_LinesSplit
  by_cases hl : (300 : Int) < (s.length : Int)
  · rw [if_pos (by simpa using hl), alive_val]; rfl
  · rw [if_neg (by simpa using hl)]
    obtain ⟨g, g', e1, e2, e3, hlen⟩ := loose_both s (by omega)
    have hs1 : r06_Same g g' = some true := by rw [same_val _ _ (by omega), e3]; simp
    rcases snoc_cases s with rfl | ⟨m, c, rfl⟩
    · have hg : g = .nil := by simpa [lines_Loose] using e1.symm
      subst hg
      have hj : lines_Join (.nil : GS Str) = some [] := join_val .nil (by unfold most; simp [txt])
      simp only [e2, e1, lsplit_nil, Option.bind_some, hs1, Bool.not_true, Bool.false_eq_true, if_false, hj, alive_val]
      simp [andO]
    · have hne : m ++ [c] ≠ [] := by simp
      have hlen1 : (m ++ [c]).length = m.length + 1 := by simp
      have h0 : decide ((0 : Int) < ((m ++ [c]).length : Int)) = true := by rw [decide_eq_true_eq]; omega
      have hlast : idx (m ++ [c]) (IntKind.i64.wrap (((m ++ [c]).length : Int) - 1)) = some c := by
        rw [show ((m ++ [c]).length : Int) - 1 = (m.length : Nat) by simp, wrapN (by omega), idx_nat]
        simp
      by_cases hc : c = 10
      · subst hc
        have hg : g = .mk (splitB 10 m) := by rw [loose_val m (by omega)] at e1; exact (Option.some.inj e1).symm
        subst hg
        have hj : lines_Join (.mk (splitB 10 m)) = some (m ++ [10]) := by
          have := join_val (.mk (splitB 10 m)) (by simp only [GS.l_mk, txt_split]; unfold most; omega)
          simpa only [GS.l_mk, txt_split] using this
        simp only [e2, e1, lsplit_val m (by omega), Option.bind_some, hs1, Bool.not_true, Bool.false_eq_true, if_false, h0, hlast, hj, alive_val]
        simp [andO]
      · have hn : ∀ m', m ++ [c] ≠ m' ++ [10] := fun m' e => hc (by simpa using List.append_inj_right' e rfl)
        have hcd : decide ((c.toNat : Int) = ((10 : UInt8).toNat : Int)) = false := by
          rw [decide_eq_false_iff_not]; intro e; exact hc (UInt8.toNat_inj.1 (by omega))
        simp only [e2, e1, lsplit_none _ (by omega) hne hn, Option.bind_some, hs1, Bool.not_true, Bool.false_eq_true, if_false, h0, hlast, hcd, alive_val]
        simp [andO]

/-- are texts too many, or too long? -/
theorem large_val (g : GS Str) (a b : Nat) (hg : g.l.length < 1073741824) : r06_Large g a b = some (decide (a < g.l.length ∨ ∃ x ∈ g.l, b < x.length)) := by
  unfold r06_Large
  by_cases h : a < g.l.length
  · rw [if_pos (by simpa using h)]; simp [h]
  · rw [if_neg (by simpa using h)]
    refine iter_then (fun s => g.l.length - s.toNat) (fun s => ∃ n : Nat, s = n ∧ n ≤ g.l.length ∧ ∀ x ∈ g.l.take n, ¬ b < x.length)
      (fun r => (r = .inl () ∧ ∀ x ∈ g.l, ¬ b < x.length) ∨ (r = .inr true ∧ ∃ x ∈ g.l, b < x.length)) ⟨0, rfl, by omega, by simp⟩ ?_ ?_
    rotate_left
    · rintro _ (⟨rfl, h1⟩ | ⟨rfl, h1⟩)
      · have : ¬ (a < g.l.length ∨ ∃ x ∈ g.l, b < x.length) := fun h2 => h2.elim h fun ⟨x, hx, h2⟩ => h1 x hx h2
        simp only [Sum.elim_inl, this, decide_false]
      · have : a < g.l.length ∨ ∃ x ∈ g.l, b < x.length := .inr h1
        simp only [Sum.elim_inr, this, decide_true]
    · rintro s ⟨n, rfl, h1, h2⟩
      by_cases hn : n < g.l.length
      · rw [if_pos (by simpa using hn), idx_nat, List.getElem?_eq_getElem hn]
        simp only [Option.bind_some]
        by_cases hb : b < g.l[n].length
        · right
          rw [if_pos (by simpa using hb)]
          exact ⟨_, rfl, .inr ⟨rfl, _, List.getElem_mem hn, hb⟩⟩
        · left
          rw [if_neg (by simpa using hb), show (n : Int) + 1 = ((n + 1 : Nat) : Int) by omega, wrapN (by omega)]
          refine ⟨_, rfl, ⟨n + 1, rfl, by omega, fun x hx => ?_⟩, by omega⟩
          rw [List.take_succ_eq_append_getElem hn] at hx
          rcases List.mem_append.1 hx with hx | hx
          · exact h2 x hx
          · rw [List.mem_singleton.1 hx]; exact hb
      · right
        rw [if_neg (by simpa using hn)]
        refine ⟨_, rfl, .inl ⟨rfl, ?_⟩⟩
        rwa [List.take_of_length_le (by omega)] at h2

theorem plain_LinesJoin (g : GS Str) : l06_LinesJoin g = some true := by
  unfold l06_LinesJoin
  by_cases h20 : 20 < g.l.length
  · have hb : r06_Large g 20 60 = some true := by
      unfold r06_Large
      rw [if_pos (by simp; omega)]
    simp only [hb, Option.bind_some, if_true, alive_val]
  rw [show r06_Large g 20 60 = _ from large_val g 20 60 (by omega)]
  by_cases hx : ∃ x ∈ g.l, 60 < x.length
  · have : 20 < g.l.length ∨ ∃ x ∈ g.l, 60 < x.length := .inr hx
    simp only [this, decide_true, Option.bind_some, if_true, alive_val]
  have hnot : ¬ (20 < g.l.length ∨ ∃ x ∈ g.l, 60 < x.length) := fun h => h.elim h20 hx
  have hle : ∀ x ∈ g.l, x.length ≤ 60 := fun x hm => by
    rcases Nat.lt_or_ge 60 x.length with h | h
    · exact absurd ⟨x, hm, h⟩ hx
    · exact h
  have htl := txt_len g.l 60 hle
  have htm : (txt g.l).length ≤ 1220 := by
    have : g.l.length * 61 ≤ 20 * 61 := Nat.mul_le_mul_right _ (by omega)
    omega
  simp only [hnot, decide_false, Option.bind_some, Bool.false_eq_true, if_false, join_val g (by unfold most; omega), r06_join_val g (by unfold most; omega), decide_true, Bool.not_true]
  refine iter_then (fun s => g.l.length - s.toNat) (fun s => ∃ n : Nat, s = n ∧ n ≤ g.l.length ∧ ∀ x ∈ g.l.take n, (10 : UInt8) ∉ x)
    (fun r => (r = .inl () ∧ ∀ x ∈ g.l, (10 : UInt8) ∉ x) ∨ r = .inr true) ⟨0, rfl, by omega, by simp⟩ ?_ ?_
  · rintro s ⟨n, rfl, h1, h2⟩
    by_cases hn : n < g.l.length
    · rw [if_pos (by simpa using hn), idx_nat, List.getElem?_eq_getElem hn]
      have hl := hle _ (List.getElem_mem hn)
      simp only [Option.bind_some, r06_parts_val g.l[n] 10 (by omega), alive_val]
      by_cases hm : (10 : UInt8) ∈ g.l[n]
      · right
        have hcount := splitB_len (c := 10) g.l[n]
        have hpos : 0 < g.l[n].countP (fun x => x == 10) := List.countP_pos_iff.2 ⟨10, hm, by simp⟩
        rw [if_pos (by rw [decide_eq_true_eq, GS.l_mk]; omega)]
        exact ⟨_, rfl, .inr rfl⟩
      · left
        rw [splitB_none (ne_of_notMem hm), if_neg (by rw [decide_eq_true_eq, GS.l_mk]; simp), show (n : Int) + 1 = ((n + 1 : Nat) : Int) by omega, wrapN (by omega)]
        refine ⟨_, rfl, ⟨n + 1, rfl, by omega, fun x hx => ?_⟩, by omega⟩
        rw [List.take_succ_eq_append_getElem hn] at hx
        rcases List.mem_append.1 hx with hx | hx
        · exact h2 x hx
        · rw [List.mem_singleton.1 hx]; exact hm
    · right
      rw [if_neg (by simpa using hn)]
      refine ⟨_, rfl, .inl ⟨rfl, ?_⟩⟩
      rwa [List.take_of_length_le (by omega)] at h2
  · rintro _ (⟨rfl, h⟩ | rfl)
    · simp only [Sum.elim_inl]
      have hs : ∃ g', lines_Split (txt g.l) = some (g', true) ∧ g'.l = g.l := by
        rcases List.eq_nil_or_concat g.l with e | ⟨init, last, e⟩
        · rw [e]; exact ⟨.nil, lsplit_nil, rfl⟩
        · rw [List.concat_eq_append] at e
          have h1 := split_txt h
          have h2 : txt g.l = txt init ++ last ++ [10] := by rw [e, txt_snoc]
          have hlen : (txt g.l).length = (txt init ++ last).length + 1 := by rw [h2]; simp; omega
          refine ⟨_, by rw [h2]; exact lsplit_val (txt init ++ last) (by omega), ?_⟩
          have h3 : splitB 10 (txt init ++ last) = init ++ [last] := by
            have ha : ∀ x ∈ init, (10 : UInt8) ∉ x := fun x hx => h x (by rw [e]; simp [hx])
            have hb : (10 : UInt8) ∉ last := h last (by rw [e]; simp)
            clear h1 h2 hlen e h htm htl hle hnot hx h20
            induction init with
            | nil => simp only [txt, List.flatMap_nil, List.nil_append]; exact splitB_none (ne_of_notMem hb)
            | cons y init ih =>
              rw [txt_cons, List.append_assoc, List.cons_append, splitB_app (ne_of_notMem (ha y List.mem_cons_self)), ih fun x hx => ha x (List.mem_cons_of_mem _ hx)]
              rfl
          rw [GS.l_mk, h3, e]
      obtain ⟨g', e1, e2⟩ := hs
      simp only [e1, Option.bind_some, same_val g' g (by rw [e2]; omega), e2, decide_true, alive_val]
      rfl
    · rfl
end Go.Proofs.YtopgecohakediaaDoor.Am
