/-
  Plain laws: blocks of pairs; the laws PairlineBlocks, PairlineReads, PairlineMany.
-/
import Derived.Test.YtopgecohakediaaDoorPlE
import Derived.Test.YtopgecohakediaaDoorPlH
namespace Go.Proofs.YtopgecohakediaaDoor.Am

theorem find_first {α : Type} {q : α → Bool} : ∀ {l : List α} {n : Nat} {x : α}, l[n]? = some x → (∀ y ∈ l.take n, q y = false) → q x = true → l.find? q = some x
  | [], _, _, h, _, _ => by simp at h
  | y :: l, 0, x, h, _, hq => by simp only [List.getElem?_cons_zero, Option.some.injEq] at h; subst h; simp [hq]
  | y :: l, n + 1, x, h, ha, hq => by
    have h1 := ha y (by simp)
    rw [List.find?_cons, h1]
    exact find_first (n := n) (by simpa using h) (fun z hz => ha z (by simp [hz])) hq

def textOf (p : S_pairline_Pair) : Str × Int := textP p.Key p.Value
def badP (p : S_pairline_Pair) : Bool := decide ((textOf p).2 ≠ 0)
def lineP (p : S_pairline_Pair) : Str := p.Key ++ 61 :: p.Value
def convP (p : S_pairline_Pair) : S_r36_Pair := ⟨p.Key, p.Value⟩
/-- the block of pairs -/
def blockP (l : List S_pairline_Pair) : Str × Int :=
  if 400 < l.length then ([], 4) else match l.find? badP with
    | some p => ([], (textOf p).2)
    | none => (txt (l.map lineP) ++ [10], 0)

theorem textP_ok {k v : Str} (h : (textP k v).2 = 0) : (textP k v).1 = k ++ 61 :: v ∧ Says (k ++ 61 :: v) k v := by
  unfold textP at h ⊢
  by_cases hc : k = [] ∨ 61 ∈ k ∨ 10 ∈ k ∨ 10 ∈ v
  · rw [if_pos hc] at h; simp at h
  · rw [if_neg hc] at h ⊢
    by_cases hl : 512 < (k ++ [61] ++ v).length
    · rw [if_pos hl] at h; simp at h
    · rw [if_neg hl]
      refine ⟨by simp, rfl, fun h => hc (.inr (.inl h)), fun h => hc (.inl h), fun h => ?_, by simp at hl ⊢; omega⟩
      simp only [List.mem_append, List.mem_cons] at h
      rcases h with h | h | h
      · exact hc (.inr (.inr (.inl h)))
      · exact absurd h (by decide)
      · exact hc (.inr (.inr (.inr h)))
theorem textP_of {k v : Str} (s : Says (k ++ 61 :: v) k v) : textP k v = (k ++ 61 :: v, 0) := by
  have hm := s.2.2.2.1
  have hle := s.2.2.2.2
  simp only [List.mem_append, List.mem_cons, not_or] at hm
  unfold textP
  rw [if_neg (by
    rintro (h | h | h | h)
    · exact s.2.2.1 h
    · exact s.2.1 h
    · exact hm.1 h
    · exact hm.2.2 h), if_neg (by simp at hle ⊢; omega)]
  simp
theorem badP_false {p : S_pairline_Pair} (h : badP p = false) : textOf p = (lineP p, 0) ∧ Says (lineP p) p.Key p.Value := by
  simp only [badP, ne_eq, decide_not, Bool.not_eq_false', decide_eq_true_eq] at h
  obtain ⟨h1, h2⟩ := textP_ok h
  exact ⟨Prod.ext h1 h, h2⟩
theorem badP_true {p : S_pairline_Pair} (h : badP p = true) : (textOf p).2 ≠ 0 := by simpa [badP] using h
theorem badP_of {p : S_pairline_Pair} (s : Says (lineP p) p.Key p.Value) : badP p = false := by
  have := textP_of s
  simp [badP, textOf, this]

/-- not too long for memory -/
def FitP (l : List S_pairline_Pair) : Prop := ∀ p ∈ l, p.Key.length < 1073741824 ∧ p.Value.length < 1073741824
theorem lines_fit {l : List S_pairline_Pair} (h : ∀ p ∈ l, badP p = false) (hl : l.length ≤ 400) : (txt (l.map lineP)).length ≤ 205200 := by
  have := txt_len (l.map lineP) 512 (fun x hx => by
    obtain ⟨p, hp, rfl⟩ := List.mem_map.1 hx
    exact (badP_false (h p hp)).2.2.2.2.2)
  rw [List.length_map] at this
  have h2 : l.length * 513 ≤ 400 * 513 := Nat.mul_le_mul_right _ hl
  omega

theorem block_val (g : GS S_pairline_Pair) (hf : FitP g.l) : pairline_Block g = some (blockP g.l) := by
  unfold pairline_Block blockP
  by_cases h4 : 400 < g.l.length
  · rw [if_pos h4, if_pos (by rw [decide_eq_true_eq]; omega)]
  rw [if_neg h4, if_neg (by rw [decide_eq_true_eq]; omega)]
  refine iter_then (fun s => g.l.length - s.1.toNat) (fun s => ∃ n : Nat, s.1 = n ∧ n ≤ g.l.length ∧ (∀ p ∈ g.l.take n, badP p = false) ∧ s.2.l = (g.l.take n).map lineP)
    (fun r => (∃ b : GS Str, r = .inl b ∧ (∀ p ∈ g.l, badP p = false) ∧ b.l = g.l.map lineP) ∨ ∃ p, r = .inr ([], (textOf p).2) ∧ g.l.find? badP = some p) ⟨0, rfl, by omega, by simp, rfl⟩ ?_ ?_
  · rintro ⟨s, b⟩ ⟨n, rfl, h1, h2, h3⟩
    dsimp only at h3 ⊢
    by_cases hn : n < g.l.length
    · rw [if_pos (by simpa using hn), idx_nat, List.getElem?_eq_getElem hn]
      have hfit := hf _ (List.getElem_mem hn)
      have ht : pairline_Text g.l[n] = some (textOf g.l[n]) := text_val _ _ hfit.1 hfit.2
      simp only [Option.bind_some, ht]
      by_cases hb : badP g.l[n] = true
      · right
        rw [if_pos (by simpa using badP_true hb)]
        exact ⟨_, rfl, .inr ⟨_, rfl, find_first (List.getElem?_eq_getElem hn) h2 hb⟩⟩
      · left
        have hb' : badP g.l[n] = false := by simpa using hb
        obtain ⟨e, _⟩ := badP_false hb'
        rw [e]
        have hlen : b.l.length = n := by rw [h3, List.length_map, List.length_take]; omega
        rw [apG_one (by unfold most; omega), show (n : Int) + 1 = ((n + 1 : Nat) : Int) by omega, wrapN (by omega)]
        refine ⟨(((n + 1 : Nat) : Int), .mk (b.l ++ [lineP g.l[n]])), by simp, ⟨n + 1, rfl, by omega, fun p hp => ?_, ?_⟩, by dsimp only; omega⟩
        · rw [List.take_succ_eq_append_getElem hn] at hp
          rcases List.mem_append.1 hp with hp | hp
          · exact h2 p hp
          · rw [List.mem_singleton.1 hp]; exact hb'
        · rw [List.take_succ_eq_append_getElem hn, List.map_append, ← h3]; rfl
    · right
      rw [if_neg (by simpa using hn)]
      rw [List.take_of_length_le (by omega)] at h2 h3
      exact ⟨_, rfl, .inl ⟨b, rfl, h2, h3⟩⟩
  · rintro _ (⟨b, rfl, h1, h2⟩ | ⟨p, rfl, h⟩)
    · have hlen : b.l.length = g.l.length := by rw [h2, List.length_map]
      have hfind : g.l.find? badP = none := by rw [List.find?_eq_none]; exact fun x hx => by simp [h1 x hx]
      have hfit := lines_fit h1 (by omega)
      have ht : txt (b.l ++ [[]]) = txt (g.l.map lineP) ++ [10] := by rw [h2, txt_snoc]; simp
      simp only [Sum.elim_inl, hfind]
      rw [apG_one (by unfold most; omega), Option.bind_some, join_val _ (by rw [GS.l_mk, ht]; unfold most; simp; omega), GS.l_mk, ht]
      rfl
    · simp only [Sum.elim_inr, h]

theorem r36_block_val (g : GS S_pairline_Pair) (h : GS S_r36_Pair) (hh : h.l = g.l.map convP) (hf : FitP g.l) : r36_Block h = some (blockP g.l) := by
  have hhl : h.l.length = g.l.length := by rw [hh, List.length_map]
  unfold r36_Block blockP
  by_cases h4 : 400 < g.l.length
  · rw [if_pos h4, if_pos (by rw [decide_eq_true_eq]; omega)]
  rw [if_neg h4, if_neg (by rw [decide_eq_true_eq]; omega)]
  refine iter_then (fun s => g.l.length - s.2.toNat) (fun s => ∃ n : Nat, s.2 = n ∧ n ≤ g.l.length ∧ (∀ p ∈ g.l.take n, badP p = false) ∧ s.1 = txt ((g.l.take n).map lineP))
    (fun r => (r = .inl (txt (g.l.map lineP)) ∧ (∀ p ∈ g.l, badP p = false)) ∨ ∃ p, r = .inr ([], (textOf p).2) ∧ g.l.find? badP = some p) ⟨0, rfl, by omega, by simp, rfl⟩ ?_ ?_
  · rintro ⟨b, s⟩ ⟨n, rfl, h1, h2, h3⟩
    dsimp only at h3 ⊢
    by_cases hn : n < g.l.length
    · have hg : h.l[n]? = some (convP g.l[n]) := by rw [hh, List.getElem?_map, List.getElem?_eq_getElem hn]; rfl
      rw [if_pos (by rw [decide_eq_true_eq]; omega), idx_nat, hg]
      have hfit := hf _ (List.getElem_mem hn)
      have ht : r36_Text (convP g.l[n]) = some (textOf g.l[n]) := r36_text_val _ _ hfit.1 hfit.2
      simp only [Option.bind_some, ht]
      by_cases hb : badP g.l[n] = true
      · right
        rw [if_pos (by simpa using badP_true hb)]
        exact ⟨_, rfl, .inr ⟨_, rfl, find_first (List.getElem?_eq_getElem hn) h2 hb⟩⟩
      · left
        have hb' : badP g.l[n] = false := by simpa using hb
        obtain ⟨e, hs⟩ := badP_false hb'
        rw [e]
        have hlen := lines_fit h2 (by simp; omega)
        have hl2 := hs.2.2.2.2
        rw [← h3] at hlen
        have hall : ∀ p ∈ g.l.take (n + 1), badP p = false := fun p hp => by
          rw [List.take_succ_eq_append_getElem hn] at hp
          rcases List.mem_append.1 hp with hp | hp
          · exact h2 p hp
          · rw [List.mem_singleton.1 hp]; exact hb'
        refine ⟨(txt ((g.l.take (n + 1)).map lineP), ((n + 1 : Nat) : Int)), ?_, ⟨n + 1, rfl, by omega, hall, rfl⟩, by dsimp only; omega⟩
        simp only [decide_true, Bool.not_true, Bool.false_eq_true, if_false]
        rw [if_pos (by unfold most; omega), Option.bind_some, if_pos (by unfold most; simp; omega), Option.bind_some, show (n : Int) + 1 = ((n + 1 : Nat) : Int) by omega, wrapN (by omega), List.take_succ_eq_append_getElem hn, List.map_append, List.map_singleton, txt_snoc, ← h3]
    · right
      rw [if_neg (by rw [decide_eq_true_eq]; omega)]
      rw [List.take_of_length_le (by omega)] at h2 h3
      exact ⟨_, rfl, .inl ⟨by rw [h3], h2⟩⟩
  · rintro _ (⟨rfl, h1⟩ | ⟨p, rfl, h⟩)
    · have hfind : g.l.find? badP = none := by rw [List.find?_eq_none]; exact fun x hx => by simp [h1 x hx]
      have hfit := lines_fit h1 (by omega)
      simp only [Sum.elim_inl, hfind]
      rw [if_pos (by unfold most; simp; omega)]; rfl
    · simp only [Sum.elim_inr, h]

/-- the first place of a text among some -/
theorem index_str (g : GS Str) (x : Str) (hl : g.l.length < 1073741824) : slices_Index_string g x = some (match g.l.findIdx? (fun y => decide (x = y)) with | some i => (i : Int) | none => -1) := by
  unfold slices_Index_string
  refine iter_then (fun s => g.l.length - s.toNat) (fun s => ∃ n : Nat, s = n ∧ n ≤ g.l.length ∧ ∀ y ∈ g.l.take n, x ≠ y)
    (fun r => (r = .inl () ∧ ∀ y ∈ g.l, x ≠ y) ∨ ∃ n : Nat, r = .inr (n : Int) ∧ g.l.findIdx? (fun y => decide (x = y)) = some n) ⟨0, rfl, by omega, by simp⟩ ?_ ?_
  · rintro s ⟨n, rfl, h1, h2⟩
    by_cases hn : n < g.l.length
    · rw [if_pos (by simpa using hn), idx_nat, List.getElem?_eq_getElem hn]
      simp only [Option.bind_some]
      by_cases hx : x = g.l[n]
      · right
        rw [if_pos (by simpa using hx)]
        refine ⟨_, rfl, .inr ⟨n, rfl, ?_⟩⟩
        rw [List.findIdx?_eq_some_iff_getElem]
        refine ⟨hn, by simpa using hx, fun j hj => ?_⟩
        have := h2 g.l[j] (List.mem_iff_getElem.2 ⟨j, by rw [List.length_take]; omega, by rw [List.getElem_take]⟩)
        simpa using this
      · left
        rw [if_neg (by simpa using hx), show (n : Int) + 1 = ((n + 1 : Nat) : Int) by omega, wrapN (by omega)]
        refine ⟨_, rfl, ⟨n + 1, rfl, by omega, fun y hy => ?_⟩, by omega⟩
        rw [List.take_succ_eq_append_getElem hn] at hy
        rcases List.mem_append.1 hy with hy | hy
        · exact h2 y hy
        · rw [List.mem_singleton.1 hy]; exact hx
    · right
      rw [if_neg (by simpa using hn)]
      rw [List.take_of_length_le (by omega)] at h2
      exact ⟨_, rfl, .inl ⟨rfl, h2⟩⟩
  · rintro _ (⟨rfl, h⟩ | ⟨n, rfl, h⟩)
    · have : g.l.findIdx? (fun y => decide (x = y)) = none := by rw [List.findIdx?_eq_none_iff]; exact fun y hy => by simpa using h y hy
      rw [this]; rfl
    · rw [h]; rfl

theorem splitB_snoc (c : UInt8) : ∀ m : Str, splitB c (m ++ [c]) = splitB c m ++ [[]]
  | [] => by simp [splitB]
  | x :: m => by
    simp only [List.cons_append, splitB, splitB_snoc c m]
    by_cases hx : x = c
    · rw [if_pos hx, if_pos hx]; rfl
    · rw [if_neg hx, if_neg hx]
      cases e : splitB c m with
      | nil => exact absurd e (splitB_ne m)
      | cons h t => rfl
theorem splitB_no {c : UInt8} : ∀ {l : Str} {x : Str}, x ∈ splitB c l → c ∉ x
  | [], x, h => by simp only [splitB, List.mem_singleton] at h; subst h; simp
  | y :: l, x, h => by
    simp only [splitB] at h
    by_cases hy : y = c
    · rw [if_pos hy] at h
      rcases List.mem_cons.1 h with rfl | h
      · simp
      · exact splitB_no h
    · rw [if_neg hy] at h
      cases e : splitB c l with
      | nil => exact absurd e (splitB_ne l)
      | cons a t =>
        rw [e] at h
        rcases List.mem_cons.1 h with rfl | h
        · simp only [List.mem_cons, not_or]
          exact ⟨fun h => hy h.symm, splitB_no (l := l) (by rw [e]; simp)⟩
        · exact splitB_no (l := l) (by rw [e]; simp [h])

/-- the lines of a block -/
def Body (s : Str) (B : List Str) : Prop := s = txt B ++ [10] ∧ ∀ x ∈ B, x ≠ [] ∧ 10 ∉ x
theorem Body.uniq {s : Str} {B C : List Str} (h : Body s B) (g : Body s C) : B = C := by
  have e : txt B = txt C := List.append_cancel_right (h.1.symm.trans g.1)
  have h1 := split_txt fun x hx => (h.2 x hx).2
  have h2 := split_txt fun x hx => (g.2 x hx).2
  rw [e, h2] at h1
  exact (List.append_cancel_right h1).symm

noncomputable def stepL (g : GS Str) (s19 : Int × (GS S_pairline_Pair)) : Option ((Int × (GS S_pairline_Pair)) ⊕ ((GS S_pairline_Pair) ⊕ ((GS S_pairline_Pair) × Int))) :=
 if (decide (s19.1 < (g.l.length : Int))) = true then
 (idx g.l s19.1).bind fun x22 =>
 (pairline_Parse x22).bind fun x24 =>
 if (!decide (x24.2 = 0)) = true then
 (some (.nil, x24.2)).map fun r => .inr (.inr r)
 else
 (apG 32 s19.2 [x24.1]).bind fun x32 =>
 some (.inl (IntKind.i64.wrap (s19.1 + 1), x32))
 else
 some (.inr (.inl s19.2))
noncomputable def stepR (g : GS Str) (s26 : Int × (GS S_r36_Pair)) : Option ((Int × (GS S_r36_Pair)) ⊕ ((GS S_r36_Pair) ⊕ ((GS S_r36_Pair) × Int))) :=
 if (decide (s26.1 < (g.l.length : Int))) = true then
 (idx g.l s26.1).bind fun x30 =>
 (r36_Parse x30).bind fun x32 =>
 if (!decide (x32.2 = 0)) = true then
 (some (.nil, x32.2)).map fun r => .inr (.inr r)
 else
 (apG 32 s26.2 [x32.1]).bind fun x40 =>
 some (.inl (IntKind.i64.wrap (s26.1 + 1), x40))
 else
 some (.inr (.inl s26.2))
noncomputable def restL (g : GS Str) : Option ((GS S_pairline_Pair) × Int) :=
 if (decide (400 < (g.l.length : Int))) = true then
 some (.nil, 4)
 else
 (iter (stepL g) (0, .nil)).bind (Sum.elim (fun (p20 : (GS S_pairline_Pair)) =>
 some (p20, 0)) some)
noncomputable def restR (g : GS Str) : Option ((GS S_r36_Pair) × Int) :=
 if (decide (400 < (g.l.length : Int))) = true then
 some (.nil, 4)
 else
 (iter (stepR g) (0, .nil)).bind (Sum.elim (fun (p27 : (GS S_r36_Pair)) =>
 some (p27, 0)) some)

theorem read_form (s : Str) (hl : s.length < 1073741000) : (∃ B, Body s B ∧ pairline_Read s = restL (.mk B) ∧ r36_Read s = restR (.mk B)) ∨ ((∀ B, ¬ Body s B) ∧ pairline_Read s = some (.nil, 5) ∧ r36_Read s = some (.nil, 5)) := by
  have hcd : ∀ x : Str, decide (x = ([] : Str)) = decide (([] : Str) = x) := fun x => by rw [Bool.eq_iff_iff]; simp only [decide_eq_true_eq]; exact ⟨Eq.symm, Eq.symm⟩
  rcases snoc_cases s with rfl | ⟨m, c, rfl⟩
  · right
    refine ⟨fun B h => ?_, ?_, ?_⟩
    · have := congrArg List.length h.1; simp at this
    · unfold pairline_Read
      simp only [lsplit_nil, Option.bind_some, orO]
      rfl
    · unfold r36_Read
      simp only [r06_parts_val [] 10 (by simp), Option.bind_some, orO]
      rfl
  · have hml : (m ++ [c]).length = m.length + 1 := by simp
    by_cases hc : c = 10
    · subst hc
      have hle := splitB_le (c := 10) m
      have hM := splitB_ne (c := 10) m
      have hno : ∀ x ∈ splitB 10 m, (10 : UInt8) ∉ x := fun x => splitB_no
      have hts : txt (splitB 10 m) = m ++ [10] := txt_split m
      obtain ⟨B, last, hB⟩ : ∃ B last, splitB 10 m = B ++ [last] := by
        rcases List.eq_nil_or_concat (splitB 10 m) with e | ⟨B, last, e⟩
        · exact absurd e hM
        · exact ⟨B, last, by rw [e, List.concat_eq_append]⟩
      rw [hB] at hle hno hts
      rw [List.length_append, List.length_singleton] at hle
      have hpr : pairline_Read (m ++ [10]) = if last = [] ∧ ∀ x ∈ B, x ≠ [] then restL (.mk B) else some (.nil, 5) := by
        unfold pairline_Read
        have hi := index_str (.mk (B ++ [last])) [] (by rw [GS.l_mk, List.length_append, List.length_singleton]; omega)
        have e1 : ((GS.mk (B ++ [last])).l.length : Int) - 1 = (B.length : Nat) := by simp
        simp only [lsplit_val m (by omega), hB, Option.bind_some, orO, hi, e1]
        rw [wrapN (by omega), slG_to (by simp)]
        have e0 : decide (((GS.mk (B ++ [last])).l.length : Int) = 0) = false := by simp; omega
        simp only [e0, Bool.not_true, Bool.false_eq_true, if_false, Option.bind_some, List.take_left']
        by_cases hok : last = [] ∧ ∀ x ∈ B, x ≠ []
        · rw [if_pos hok]
          have hf : (GS.mk (B ++ [last])).l.findIdx? (fun y => decide (([] : Str) = y)) = some B.length := by
            rw [GS.l_mk, List.findIdx?_append, List.findIdx?_eq_none_iff.2 (fun x hx => by simpa using Ne.symm (hok.2 x hx)), hok.1]
            simp
          simp only [hf, decide_true, Bool.not_true, Bool.false_eq_true, if_false]
          rfl
        · rw [if_neg hok]
          have hf : (match (GS.mk (B ++ [last])).l.findIdx? (fun y => decide (([] : Str) = y)) with | some i => (i : Int) | none => (-1 : Int)) ≠ ((B.length : Nat) : Int) := by
            cases e : (GS.mk (B ++ [last])).l.findIdx? (fun y => decide (([] : Str) = y)) with
            | none => simp only; omega
            | some i =>
              simp only
              intro hi
              have hi' : i = B.length := by omega
              subst hi'
              rw [GS.l_mk, List.findIdx?_eq_some_iff_getElem] at e
              obtain ⟨h1, h2, h3⟩ := e
              apply hok
              refine ⟨by simpa using h2, fun x hx => ?_⟩
              obtain ⟨j, hj, rfl⟩ := List.mem_iff_getElem.1 hx
              have := h3 j hj
              rw [List.getElem_append_left hj] at this
              simpa using Ne.symm (by simpa using this)
          simp only [hf, decide_false, Bool.not_false, if_true]
      have hrr : r36_Read (m ++ [10]) = if last = [] ∧ ∀ x ∈ B, x ≠ [] then restR (.mk B) else some (.nil, 5) := by
        unfold r36_Read
        have hL : splitB 10 (m ++ [10]) = B ++ [last] ++ [[]] := by rw [splitB_snoc, hB]
        have e1 : ((GS.mk (B ++ [last] ++ [[]])).l.length : Int) - 1 = ((B.length + 1 : Nat) : Int) := by simp; omega
        have e2 : ((GS.mk (B ++ [last] ++ [[]])).l.length : Int) - 2 = ((B.length : Nat) : Int) := by simp
        have e3 : decide (((GS.mk (B ++ [last] ++ [[]])).l.length : Int) < 2) = false := by simp; omega
        have i1 : idx (GS.mk (B ++ [last] ++ [[]])).l ((B.length + 1 : Nat) : Int) = some [] := by
          rw [idx_nat, GS.l_mk, List.getElem?_append_right (by simp)]; simp
        have i2 : idx (GS.mk (B ++ [last] ++ [[]])).l ((B.length : Nat) : Int) = some last := by
          rw [idx_nat, GS.l_mk, List.append_assoc, List.getElem?_append_right (by simp)]; simp
        simp only [r06_parts_val (m ++ [10]) 10 (by omega), hL, Option.bind_some, orO, e1, e2, e3, Bool.false_eq_true, if_false]
        rw [wrapN (by omega), wrapN (by omega), i1, i2, slG_to (by simp)]
        simp only [Option.bind_some, decide_true, Bool.not_true, Bool.false_eq_true, if_false]
        by_cases hlast : last = []
        · subst hlast
          have ht : List.take B.length (B ++ [[]] ++ [[]]) = B := by rw [List.append_assoc, List.take_left' rfl]
          simp only [decide_true, Bool.not_true, Bool.false_eq_true, if_false, true_and]
          rw [ht]
          have key : ∀ K : Unit ⊕ GS S_r36_Pair × Int → Option (GS S_r36_Pair × Int), (∀ x, K (.inr x) = some x) → (iter (fun (s16 : Int) =>
              if (decide (s16 < ((GS.mk B).l.length : Int))) = true then
              (idx (GS.mk B).l s16).bind fun x20 =>
              if (decide (x20 = [])) = true then
              (some ((.nil : GS S_r36_Pair), (5 : Int))).map fun r => .inr (.inr r)
              else
              some (.inl (IntKind.i64.wrap (s16 + 1)))
              else
              some (.inr (.inl ()))) 0).bind K = if ∀ x ∈ B, x ≠ [] then K (.inl ()) else some (.nil, 5) := by
            intro K hK
            refine iter_then (fun s => B.length - s.toNat) (fun s => ∃ n : Nat, s = n ∧ n ≤ B.length ∧ ∀ x ∈ B.take n, x ≠ []) (fun r => (r = .inl () ∧ ∀ x ∈ B, x ≠ []) ∨ (r = .inr (.nil, 5) ∧ ¬ ∀ x ∈ B, x ≠ [])) ⟨0, rfl, by omega, by simp⟩ ?_ ?_
            · rintro s ⟨n, rfl, h1, h2⟩
              by_cases hn : n < B.length
              · rw [if_pos (by simpa using hn), idx_nat, GS.l_mk, List.getElem?_eq_getElem hn]
                simp only [Option.bind_some]
                by_cases hx : B[n] = []
                · right
                  rw [if_pos (by simpa using hx)]
                  exact ⟨_, rfl, .inr ⟨rfl, fun h => h _ (List.getElem_mem hn) hx⟩⟩
                · left
                  rw [if_neg (by simpa using hx), show (n : Int) + 1 = ((n + 1 : Nat) : Int) by omega, wrapN (by omega)]
                  refine ⟨_, rfl, ⟨n + 1, rfl, by omega, fun y hy => ?_⟩, by omega⟩
                  rw [List.take_succ_eq_append_getElem hn] at hy
                  rcases List.mem_append.1 hy with hy | hy
                  · exact h2 y hy
                  · rw [List.mem_singleton.1 hy]; exact hx
              · right
                rw [if_neg (by simpa using hn)]
                rw [List.take_of_length_le (by omega)] at h2
                exact ⟨_, rfl, .inl ⟨rfl, h2⟩⟩
            · rintro _ (⟨rfl, h⟩ | ⟨rfl, h⟩)
              · rw [if_pos h]
              · rw [if_neg h, hK]
          refine (key _ (fun x => rfl)).trans ?_
          by_cases hall : ∀ x ∈ B, x ≠ []
          · rw [if_pos hall, if_pos hall]; rfl
          · rw [if_neg hall, if_neg hall]
        · simp only [hlast, decide_false, Bool.not_false, if_true, false_and, if_false]
      rw [hpr, hrr]
      by_cases hok : last = [] ∧ ∀ x ∈ B, x ≠ []
      · left
        refine ⟨B, ⟨?_, fun x hx => ⟨hok.2 x hx, hno x (by simp [hx])⟩⟩, by rw [if_pos hok], by rw [if_pos hok]⟩
        rw [← hts, hok.1, txt_snoc]; simp
      · right
        refine ⟨fun C hC => hok ?_, by rw [if_neg hok], by rw [if_neg hok]⟩
        have e : txt (B ++ [last]) = txt (C ++ [[]]) := by rw [hts, hC.1, txt_snoc]; simp
        have h1 := split_txt hno
        have h2 : splitB 10 (txt (C ++ [[]])) = C ++ [[]] ++ [[]] := split_txt fun x hx => by
          rcases List.mem_append.1 hx with hx | hx
          · exact (hC.2 x hx).2
          · rw [List.mem_singleton.1 hx]; simp
        rw [e, h2] at h1
        have h3 := List.append_cancel_right h1
        have h4 := List.append_inj' h3 rfl
        exact ⟨by simpa using h4.2.symm, fun x hx => (hC.2 x (h4.1 ▸ hx)).1⟩
    · right
      have hn : ∀ m', m ++ [c] ≠ m' ++ [10] := fun m' e => hc (by simpa using List.append_inj_right' e rfl)
      refine ⟨fun B h => hn _ h.1, ?_, ?_⟩
      · unfold pairline_Read
        simp only [lsplit_none _ (by omega) (by simp) hn, Option.bind_some, orO]
        rfl
      · unfold r36_Read
        obtain ⟨init, last, pre, h1, h2, h3, h4⟩ := splitB_last 10 (m ++ [c])
        have hle := splitB_le (c := 10) (m ++ [c])
        rw [h1, List.length_append, List.length_singleton] at hle
        have hlast : last ≠ [] := by
          rintro rfl
          rw [List.append_nil] at h2
          rcases h4 with ⟨rfl, _⟩ | ⟨q, rfl, _⟩
          · simp at h2
          · exact hn q h2
        have e1 : ((GS.mk (init ++ [last])).l.length : Int) - 1 = (init.length : Nat) := by simp
        have i1 : idx (GS.mk (init ++ [last])).l ((init.length : Nat) : Int) = some last := by rw [idx_nat]; simp
        simp only [r06_parts_val (m ++ [c]) 10 (by omega), h1, Option.bind_some, orO, e1]
        rw [wrapN (by omega), i1]
        have hd : decide (last = []) = false := by simpa using hlast
        by_cases h2' : ((GS.mk (init ++ [last])).l.length : Int) < 2
        · simp only [h2', decide_true, if_true, Option.bind_some]
        · simp only [h2', decide_false, Bool.false_eq_true, if_false, Option.bind_some, hd, Bool.not_false, if_true]

/-- what is read of lines, by both -/
theorem rest_both (B : List Str) (hB : ∀ x ∈ B, x.length < 1073741824) : ∃ g h e, restL (.mk B) = some (g, e) ∧ restR (.mk B) = some (h, e) ∧ h.l = g.l.map convP ∧
    ((e ≠ 0 ∧ g = .nil) ∨ (e = 0 ∧ B = g.l.map lineP ∧ B.length ≤ 400 ∧ ∀ p ∈ g.l, Says (lineP p) p.Key p.Value)) ∧ (400 < B.length → e = 4) ∧ (B.length ≤ 400 → (∀ x ∈ B, ∃ k v, Says x k v) → e = 0) := by
  unfold restL restR
  by_cases h4 : 400 < B.length
  · rw [if_pos (by rw [decide_eq_true_eq, GS.l_mk]; omega), if_pos (by rw [decide_eq_true_eq, GS.l_mk]; omega)]
    exact ⟨.nil, .nil, 4, rfl, rfl, rfl, .inl ⟨by decide, rfl⟩, fun _ => rfl, fun h => by omega⟩
  rw [if_neg (by rw [decide_eq_true_eq, GS.l_mk]; omega), if_neg (by rw [decide_eq_true_eq, GS.l_mk]; omega)]
  obtain ⟨b, c, f1, f2, hq⟩ := iter_rel (F := stepL (.mk B)) (G := stepR (.mk B)) (fun s => B.length - s.1.toNat)
    (fun s t => ∃ n : Nat, s.1 = n ∧ t.1 = n ∧ n ≤ B.length ∧ t.2.l = s.2.l.map convP ∧ B.take n = s.2.l.map lineP ∧ ∀ p ∈ s.2.l, Says (lineP p) p.Key p.Value)
    (fun b c => (∃ g h, b = .inl g ∧ c = .inl h ∧ h.l = g.l.map convP ∧ B = g.l.map lineP ∧ ∀ p ∈ g.l, Says (lineP p) p.Key p.Value) ∨ ∃ e : Int, e ≠ 0 ∧ b = .inr (.nil, e) ∧ c = .inr (.nil, e) ∧ ¬ ∀ x ∈ B, ∃ k v, Says x k v) (by
      rintro ⟨s, g⟩ ⟨t, h⟩ ⟨n, rfl, rfl, h1, h2, h3, h5⟩
      dsimp only at h2 h3 h5 ⊢
      unfold stepL stepR
      dsimp only
      have hgl : g.l.length = n := by
        have := congrArg List.length h3
        rw [List.length_take, List.length_map] at this; omega
      by_cases hn : n < B.length
      · rw [if_pos (by simpa using hn), if_pos (by simpa using hn), idx_nat, GS.l_mk, List.getElem?_eq_getElem hn]
        obtain ⟨k, v, c, p1, p2, hs⟩ := parse_val B[n] (hB _ (List.getElem_mem hn))
        simp only [Option.bind_some, p1, p2]
        rcases hs with ⟨rfl, hs⟩ | ⟨hc, rfl, rfl, hno⟩
        · left
          rw [apG_one (by unfold most; omega), apG_one (by rw [h2, List.length_map]; unfold most; omega), show (n : Int) + 1 = ((n + 1 : Nat) : Int) by omega, wrapN (by omega)]
          refine ⟨(((n + 1 : Nat) : Int), .mk (g.l ++ [⟨k, v⟩])), (((n + 1 : Nat) : Int), .mk (h.l ++ [⟨k, v⟩])), by simp, by simp, ⟨n + 1, rfl, rfl, by omega, ?_, ?_, ?_⟩, by dsimp only; omega⟩
          · simp only [GS.l_mk, List.map_append, h2]; rfl
          · rw [List.take_succ_eq_append_getElem hn, h3]
            simp only [GS.l_mk, List.map_append, List.map_singleton, lineP, ← hs.1]
          · intro p hp
            rcases List.mem_append.1 hp with hp | hp
            · exact h5 p hp
            · rw [List.mem_singleton.1 hp]
              show Says (k ++ 61 :: v) k v
              rw [← hs.1]; exact hs
        · right
          have hd : (!decide (c = 0)) = true := by simpa using hc
          simp only [hd, if_true]
          refine ⟨_, _, rfl, rfl, .inr ⟨c, hc, rfl, rfl, fun hall => ?_⟩⟩
          obtain ⟨k, v, hs⟩ := hall _ (List.getElem_mem hn)
          exact hno k v hs
      · right
        rw [if_neg (by simpa using hn), if_neg (by simpa using hn)]
        rw [List.take_of_length_le (by omega)] at h3
        exact ⟨_, _, rfl, rfl, .inl ⟨g, h, rfl, rfl, h2, h3, h5⟩⟩) (s := (0, .nil)) (t := (0, .nil)) ⟨0, rfl, rfl, by omega, rfl, rfl, by simp⟩
  rw [f1, f2]
  rcases hq with ⟨g, h, rfl, rfl, h1, h2, h3⟩ | ⟨e, he, rfl, rfl, hno⟩
  · exact ⟨g, h, 0, rfl, rfl, h1, .inr ⟨rfl, h2, by omega, h3⟩, fun h => absurd h h4, fun _ _ => rfl⟩
  · exact ⟨.nil, .nil, e, rfl, rfl, rfl, .inl ⟨he, rfl⟩, fun h => absurd h h4, fun _ h => absurd h hno⟩

theorem body_len {s : Str} {B : List Str} (h : Body s B) : ∀ x ∈ B, x.length ≤ s.length := by
  intro x hx
  obtain ⟨a, b, rfl⟩ := List.append_of_mem hx
  rw [h.1, txt_app, txt_cons]
  simp; omega
theorem read_both (s : Str) (hl : s.length < 1073741000) : ∃ g h e, pairline_Read s = some (g, e) ∧ r36_Read s = some (h, e) ∧ h.l = g.l.map convP ∧
    ((e ≠ 0 ∧ g = .nil) ∨ (e = 0 ∧ s = txt (g.l.map lineP) ++ [10] ∧ g.l.length ≤ 400 ∧ ∀ p ∈ g.l, Says (lineP p) p.Key p.Value)) := by
  rcases read_form s hl with ⟨B, hB, e1, e2⟩ | ⟨_, e1, e2⟩
  · obtain ⟨g, h, e, r1, r2, r3, r4, _, _⟩ := rest_both B fun x hx => by have := body_len hB x hx; omega
    refine ⟨g, h, e, e1.trans r1, e2.trans r2, r3, ?_⟩
    rcases r4 with r4 | ⟨a, b, c, d⟩
    · exact .inl r4
    · exact .inr ⟨a, by rw [← b]; exact hB.1, by rw [b, List.length_map] at c; exact c, d⟩
  · exact ⟨.nil, .nil, 5, e1, e2, rfl, .inl ⟨by decide, rfl⟩⟩
theorem line_inj {p q : S_pairline_Pair} (e : lineP p = lineP q) (hp : Says (lineP p) p.Key p.Value) (hq : Says (lineP q) q.Key q.Value) : p = q := by
  obtain ⟨h1, h2⟩ := split_uniq e hp.2.1 hq.2.1
  cases p; cases q; simp only at h1 h2; rw [h1, h2]
theorem lines_inj : ∀ {l m : List S_pairline_Pair}, l.map lineP = m.map lineP → (∀ p ∈ l, Says (lineP p) p.Key p.Value) → (∀ p ∈ m, Says (lineP p) p.Key p.Value) → l = m
  | [], [], _, _, _ => rfl
  | p :: l, q :: m, e, h, g => by
    simp only [List.map_cons, List.cons.injEq] at e
    rw [line_inj e.1 (h p List.mem_cons_self) (g q List.mem_cons_self), lines_inj e.2 (fun x hx => h x (List.mem_cons_of_mem _ hx)) fun x hx => g x (List.mem_cons_of_mem _ hx)]
/-- a block is read as the pairs that it is of -/
theorem read_of {l : List S_pairline_Pair} (h : ∀ p ∈ l, Says (lineP p) p.Key p.Value) (hl : l.length ≤ 400) : ∃ g, pairline_Read (txt (l.map lineP) ++ [10]) = some (g, 0) ∧ g.l = l := by
  have hb : Body (txt (l.map lineP) ++ [10]) (l.map lineP) := ⟨rfl, fun x hx => by
    obtain ⟨p, hp, rfl⟩ := List.mem_map.1 hx
    exact ⟨by simp [lineP], (h p hp).2.2.2.1⟩⟩
  have hlen := lines_fit (fun p hp => badP_of (h p hp)) hl
  rcases read_form (txt (l.map lineP) ++ [10]) (by simp; omega) with ⟨B, hB, e1, _⟩ | ⟨hno, _⟩
  · obtain rfl := hB.uniq hb
    obtain ⟨g, _, e, r1, _, _, r4, _, r6⟩ := rest_both (l.map lineP) fun x hx => by
      obtain ⟨p, hp, rfl⟩ := List.mem_map.1 hx
      have := (h p hp).2.2.2.2; omega
    have he : e = 0 := r6 (by rw [List.length_map]; exact hl) fun x hx => by
      obtain ⟨p, hp, rfl⟩ := List.mem_map.1 hx
      exact ⟨_, _, h p hp⟩
    subst he
    rcases r4 with ⟨r4, _⟩ | ⟨_, b, _, d⟩
    · exact absurd rfl r4
    · exact ⟨g, e1.trans r1, lines_inj b.symm d h⟩
  · exact absurd hb (hno _)

theorem alike_val (g : GS S_pairline_Pair) (h : GS S_r36_Pair) (e : h.l = g.l.map convP) (hl : g.l.length < 1073741824) : l36_alike g h = some true := by
  have hhl : h.l.length = g.l.length := by rw [e, List.length_map]
  unfold l36_alike
  dsimp only
  rw [if_neg (by simp [hhl])]
  refine iter_then (fun s => g.l.length - s.toNat) (fun s => ∃ n : Nat, s = n ∧ n ≤ g.l.length) (fun r => r = .inl ()) ⟨0, rfl, by omega⟩ ?_ (by rintro _ rfl; rfl)
  rintro s ⟨n, rfl, h1⟩
  by_cases hn : n < g.l.length
  · left
    have hg : h.l[n]? = some (convP g.l[n]) := by rw [e, List.getElem?_map, List.getElem?_eq_getElem hn]; rfl
    rw [if_pos (by simpa using hn), idx_nat, idx_nat, hg, List.getElem?_eq_getElem hn]
    simp only [Option.bind_some, convP, decide_true, Bool.not_true, orO, Bool.false_eq_true, if_false]
    rw [show (n : Int) + 1 = ((n + 1 : Nat) : Int) by omega, wrapN (by omega)]
    exact ⟨_, rfl, ⟨n + 1, rfl, by omega⟩, by omega⟩
  · right
    rw [if_neg (by simpa using hn)]
    exact ⟨_, rfl, rfl⟩

theorem plain_PairlineReads (s : Str) : l36_PairlineReads s = some true := by
  unfold l36_PairlineReads
  by_cases hl : (2000 : Int) < (s.length : Int)
  · rw [if_pos (by simpa using hl), l36_alive_val]; rfl
  rw [if_neg (by simpa using hl)]
  obtain ⟨g, h, e, e1, e2, e3, hq⟩ := read_both s (by omega)
  have hgl : g.l.length ≤ 400 := by
    rcases hq with ⟨_, rfl⟩ | ⟨_, _, h, _⟩
    · simp
    · exact h
  have hfit : FitP g.l := by
    intro p hp
    rcases hq with ⟨_, rfl⟩ | ⟨_, _, _, h⟩
    · cases hp
    · have := (h p hp).2.2.2.2
      simp only [lineP, List.length_append, List.length_cons] at this
      omega
  simp only [e1, e2, Option.bind_some, alike_val g h e3 (by omega), decide_true, Bool.not_true, orO, Bool.false_eq_true, if_false, block_val g hfit, l36_alive_val]
  rcases hq with ⟨h0, rfl⟩ | ⟨rfl, h1, h2, h3⟩
  · have : decide (e = 0) = false := by simpa using h0
    simp [this, andO]
  · have hb : blockP g.l = (s, 0) := by
      unfold blockP
      rw [if_neg (by omega), List.find?_eq_none.2 (fun x hx => by simp [badP_of (h3 x hx)]), ← h1]
    simp [hb, andO]

theorem plain_PairlineBlocks (g : GS S_pairline_Pair) : l36_PairlineBlocks g = some true := by
  unfold l36_PairlineBlocks
  by_cases hl : (30 : Int) < (g.l.length : Int)
  · rw [if_pos (by simpa using hl), l36_alive_val]; rfl
  rw [if_neg (by simpa using hl)]
  refine iter_then (fun s => g.l.length - s.1.toNat) (fun s => ∃ n : Nat, s.1 = n ∧ n ≤ g.l.length ∧ s.2.l = (g.l.take n).map convP ∧ ∀ p ∈ g.l.take n, p.Key.length ≤ 600 ∧ p.Value.length ≤ 600)
    (fun r => (∃ h : GS S_r36_Pair, r = .inl h ∧ h.l = g.l.map convP ∧ ∀ p ∈ g.l, p.Key.length ≤ 600 ∧ p.Value.length ≤ 600) ∨ r = .inr true) ⟨0, rfl, by omega, rfl, by simp⟩ ?_ ?_
  · rintro ⟨s, h⟩ ⟨n, rfl, h1, h2, h3⟩
    dsimp only at h2 ⊢
    by_cases hn : n < g.l.length
    · rw [if_pos (by simpa using hn), idx_nat, List.getElem?_eq_getElem hn]
      simp only [Option.bind_some, l36_alive_val]
      by_cases hk : 600 < g.l[n].Key.length
      · right
        have : decide ((600 : Int) < (g.l[n].Key.length : Int)) = true := by rw [decide_eq_true_eq]; omega
        simp only [this, orO, if_true, Option.bind_some]
        exact ⟨_, rfl, .inr rfl⟩
      · have hk' : decide ((600 : Int) < (g.l[n].Key.length : Int)) = false := by rw [decide_eq_false_iff_not]; omega
        by_cases hv : 600 < g.l[n].Value.length
        · right
          have : decide ((600 : Int) < (g.l[n].Value.length : Int)) = true := by rw [decide_eq_true_eq]; omega
          simp only [hk', this, orO, Bool.false_eq_true, if_false, if_true, Option.bind_some]
          exact ⟨_, rfl, .inr rfl⟩
        · left
          have hv' : decide ((600 : Int) < (g.l[n].Value.length : Int)) = false := by rw [decide_eq_false_iff_not]; omega
          have hlen : h.l.length = n := by rw [h2, List.length_map, List.length_take]; omega
          simp only [hk', hv', orO, Bool.false_eq_true, if_false, Option.bind_some]
          rw [apG_one (by unfold most; omega), show (n : Int) + 1 = ((n + 1 : Nat) : Int) by omega, wrapN (by omega)]
          refine ⟨_, rfl, ⟨n + 1, rfl, by omega, ?_, fun p hp => ?_⟩, by dsimp only; omega⟩
          · rw [GS.l_mk, List.take_succ_eq_append_getElem hn, List.map_append, h2]; rfl
          · rw [List.take_succ_eq_append_getElem hn] at hp
            rcases List.mem_append.1 hp with hp | hp
            · exact h3 p hp
            · rw [List.mem_singleton.1 hp]; exact ⟨by omega, by omega⟩
    · right
      rw [if_neg (by simpa using hn)]
      rw [List.take_of_length_le (by omega)] at h2 h3
      exact ⟨_, rfl, .inl ⟨h, rfl, h2, h3⟩⟩
  · rintro _ (⟨h, rfl, h1, h2⟩ | rfl)
    · have hfit : FitP g.l := fun p hp => ⟨by have := (h2 p hp).1; omega, by have := (h2 p hp).2; omega⟩
      simp only [Sum.elim_inl, block_val g hfit, r36_block_val g h h1 hfit, Option.bind_some, decide_true, Bool.not_true, orO, Bool.false_eq_true, if_false, l36_alive_val]
      by_cases h0 : (blockP g.l).2 = 0
      · have hb : (∀ p ∈ g.l, badP p = false) ∧ blockP g.l = (txt (g.l.map lineP) ++ [10], 0) := by
          unfold blockP at h0 ⊢
          rw [if_neg (by omega)] at h0 ⊢
          cases hf : g.l.find? badP with
          | none => exact ⟨fun p hp => by simpa using List.find?_eq_none.1 hf p hp, rfl⟩
          | some p =>
            rw [hf] at h0
            exact absurd h0 (badP_true (List.find?_some hf))
        obtain ⟨g', e1, e2⟩ := read_of (fun p hp => (badP_false (hb.1 p hp)).2) (show g.l.length ≤ 400 by omega)
        simp only [hb.2, decide_true, Bool.not_true, Bool.false_eq_true, if_false, e1, Option.bind_some, alike_val g' h (by rw [h1, e2]) (by rw [e2]; omega), andO, if_true]
      · have : (!decide ((blockP g.l).2 = 0)) = true := by simpa using h0
        simp only [this, if_true]
    · rfl

theorem plain_PairlineMany (n : Int) : l36_PairlineMany n = some true := by
  unfold l36_PairlineMany
  by_cases h0 : n < 0
  · simp only [h0, decide_true, orO, if_true, Option.bind_some, l36_alive_val]
  by_cases h1 : (410 : Int) < n
  · simp only [h0, h1, decide_false, decide_true, orO, Bool.false_eq_true, if_false, if_true, Option.bind_some, l36_alive_val]
  simp only [h0, h1, decide_false, orO, Bool.false_eq_true, if_false, Option.bind_some]
  obtain ⟨k, rfl⟩ : ∃ k : Nat, n = k := ⟨n.toNat, by omega⟩
  have hk : k ≤ 410 := by omega
  let P : S_pairline_Pair := ⟨[107], []⟩
  have hsays : Says (lineP P) P.Key P.Value := ⟨rfl, by decide, by decide, by decide, by decide⟩
  have hline : lineP P = [107, 61] := rfl
  refine iter_then (fun s => k - s.2.1.toNat) (fun s => ∃ i : Nat, s.2.1 = i ∧ i ≤ k ∧ s.1 = txt (List.replicate i (lineP P)) ∧ s.2.2.l = List.replicate i P)
    (fun r => ∃ g : GS S_pairline_Pair, r = .inl (txt (List.replicate k (lineP P)), g) ∧ g.l = List.replicate k P) ⟨0, rfl, by omega, rfl, rfl⟩ ?_ ?_
  · rintro ⟨b, s, g⟩ ⟨i, rfl, g1, g2, g3⟩
    dsimp only at g2 g3 ⊢
    by_cases hi : i < k
    · left
      have hlen := txt_len (List.replicate i (lineP P)) 2 (fun x hx => by rw [List.eq_of_mem_replicate hx]; decide)
      rw [List.length_replicate, ← g2] at hlen
      rw [if_pos (by simpa using hi), if_pos (by unfold most; simp; omega), Option.bind_some, apG_one (by rw [g3, List.length_replicate]; unfold most; omega), Option.bind_some, show (i : Int) + 1 = ((i + 1 : Nat) : Int) by omega, wrapN (by omega)]
      refine ⟨_, rfl, ⟨i + 1, rfl, by omega, ?_, ?_⟩, by dsimp only; omega⟩
      · rw [List.replicate_succ', txt_snoc, ← g2, hline]; simp
      · rw [GS.l_mk, List.replicate_succ', g3]
    · right
      have : i = k := by omega
      subst this
      rw [if_neg (by simp)]
      exact ⟨_, rfl, g, by rw [g2], g3⟩
  · rintro _ ⟨g, rfl, hg⟩
    have hfit : FitP g.l := fun p hp => by rw [hg] at hp; rw [List.eq_of_mem_replicate hp]; exact ⟨by decide, by decide⟩
    have hlen := txt_len (List.replicate k (lineP P)) 2 (fun x hx => by rw [List.eq_of_mem_replicate hx]; decide)
    rw [List.length_replicate] at hlen
    have hj : (if (txt (List.replicate k (lineP P))).length + [10].length ≤ 2 * most then some (txt (List.replicate k (lineP P)) ++ ([10] : Str)) else none) = some (txt (List.replicate k (lineP P)) ++ [10]) := by
      rw [if_pos (by unfold most; simp; omega)]
    simp only [Sum.elim_inl, block_val g hfit, Option.bind_some, hj, l36_alive_val]
    have hbody : Body (txt (List.replicate k (lineP P)) ++ [10]) (List.replicate k (lineP P)) := ⟨rfl, fun x hx => by rw [List.eq_of_mem_replicate hx]; exact ⟨by decide, by decide⟩⟩
    by_cases hbig : (400 : Int) < (k : Int)
    · have hb : blockP g.l = ([], 4) := by unfold blockP; rw [if_pos (by rw [hg, List.length_replicate]; omega)]
      have hr : pairline_Read (txt (List.replicate k (lineP P)) ++ [10]) = some (.nil, 4) := by
        rcases read_form (txt (List.replicate k (lineP P)) ++ [10]) (by simp; omega) with ⟨B, hB, e1, _⟩ | ⟨hno, _⟩
        · obtain rfl := hB.uniq hbody
          rw [e1]
          unfold restL
          rw [if_pos (by rw [decide_eq_true_eq, GS.l_mk, List.length_replicate]; omega)]
        · exact absurd hbody (hno _)
      simp only [hb, hr, hbig, decide_true, if_true, Option.bind_some, andO]
      rfl
    · have hb : blockP g.l = (txt (List.replicate k (lineP P)) ++ [10], 0) := by
        unfold blockP
        rw [if_neg (by rw [hg, List.length_replicate]; omega), List.find?_eq_none.2 (fun x hx => by rw [hg] at hx; rw [List.eq_of_mem_replicate hx, badP_of hsays]; simp), hg, List.map_replicate]
      obtain ⟨g', e1, e2⟩ := read_of (l := List.replicate k P) (fun p hp => by rw [List.eq_of_mem_replicate hp]; exact hsays) (by rw [List.length_replicate]; omega)
      rw [List.map_replicate] at e1
      have hlg : decide ((g'.l.length : Int) = (k : Int)) = true := by rw [decide_eq_true_eq, e2, List.length_replicate]
      simp only [hb, e1, hbig, decide_false, Bool.false_eq_true, if_false, Option.bind_some, andO, decide_true, if_true, hlg]
end Go.Proofs.YtopgecohakediaaDoor.Am
