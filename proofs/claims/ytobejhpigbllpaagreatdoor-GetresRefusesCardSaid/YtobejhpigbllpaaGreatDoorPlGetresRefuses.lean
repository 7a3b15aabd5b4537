/-
  Plain laws: numbers, pieces of lists, a text split at a byte.
  Plain laws: what the functions that split a text come to.
  Plain laws: texts without blanks at their ends, letters made small.
  Plain laws: two loops side by side; a text's lines with and without an end.
  Plain laws: runes of a text; one of two bytes in a text.
  Plain laws: lines of pairs; the law PairlineLines.
  Plain laws: the text of lines; the laws LinesSplit and LinesJoin.
  Plain laws: blocks of pairs; the laws PairlineBlocks, PairlineReads, PairlineMany.
  Plain laws: a number's digits; the text of an error.
-/
import Derived.Test.YtobejhpigbllpaaGreatDoorSmL
import Derived.Test.YtobejhpigbllpaaGreatDoorWk
namespace Go.Proofs.YtobejhpigbllpaaGreatDoor.Am

theorem wrapI {x : Int} (h0 : -9223372036854775808 ≤ x) (h1 : x < 9223372036854775808) : IntKind.i64.wrap x = x := by
  simp only [IntKind.wrap, IntKind.bits, IntKind.signed]; simp; omega
theorem wrapN {m : Nat} (h : m < 9223372036854775808) : IntKind.i64.wrap (m : Int) = m := wrapI (by omega) (by omega)

section
variable {α : Type}
theorem subL_to {l : List α} {n : Nat} (h : n ≤ l.length) : subL l none (some (n : Int)) = some (l.take n) := by
  simp [subL, bnd, h]
theorem subL_from {l : List α} {n : Nat} (h : n ≤ l.length) : subL l (some (n : Int)) none = some (l.drop n) := by
  simp [subL, bnd, h]
theorem subL_mid {l : List α} {m n : Nat} (h : m ≤ n) (h' : n ≤ l.length) : subL l (some (m : Int)) (some (n : Int)) = some ((l.take n).drop m) := by
  simp [subL, bnd, h, h']
theorem slG_from {l : List α} {n : Nat} (h : n ≤ l.length) : slG (.mk l) (some (n : Int)) none = some (.mk (l.drop n)) := by
  simp [slG, bnd, GS.l, h, pieceG]
theorem slG_to {l : List α} {n : Nat} (h : n ≤ l.length) : slG (.mk l) none (some (n : Int)) = some (.mk (l.take n)) := by
  simp [slG, bnd, GS.l, h, pieceG]
theorem idx_nat {l : List α} {n : Nat} : idx l (n : Int) = l[n]? := by simp [idx]
theorem idxN_nat {n k : Nat} (h : n < k) : idxN k (n : Int) = some n := by simp [idxN, h]
theorem apG_one {bytes : Nat} {g : GS α} {x : α} (h : (g.l.length + 1) * bytes ≤ most) : apG bytes g [x] = some (.mk (g.l ++ [x])) := by
  unfold apG
  rw [if_pos (by simpa using h)]
  cases g <;> rfl
@[simp] theorem GS.l_mk {l : List α} : (GS.mk l).l = l := rfl
@[simp] theorem GS.l_nil : (GS.nil : GS α).l = [] := rfl

/-! loops, by a measure -/
theorem iter_ind {σ β : Type} {F : σ → Option (σ ⊕ β)} (m : σ → Nat) (I : σ → Prop) (Q : β → Prop)
    (step : ∀ s, I s → (∃ s', F s = some (.inl s') ∧ I s' ∧ m s' < m s) ∨ ∃ b, F s = some (.inr b) ∧ Q b) : ∀ {s}, I s → ∃ b, iter F s = some b ∧ Q b := by
  have key : ∀ n s, m s < n → I s → ∃ b, iter F s = some b ∧ Q b := by
    intro n
    induction n with
    | zero => intro s h; omega
    | succ n ih =>
      intro s h hI
      rcases step s hI with ⟨s', e, hI', hm⟩ | ⟨b, e, hq⟩
      · rw [iter_next e]; exact ih s' (by omega) hI'
      · exact ⟨b, iter_last e, hq⟩
  intro s hI
  exact key _ s (Nat.lt_succ_self _) hI
/-- .. and what is done behind them -/
theorem iter_then {σ β γ : Type} {F : σ → Option (σ ⊕ β)} {K : β → Option γ} {r : Option γ} {s : σ} (m : σ → Nat) (I : σ → Prop) (Q : β → Prop) (h : I s)
    (step : ∀ s, I s → (∃ s', F s = some (.inl s') ∧ I s' ∧ m s' < m s) ∨ ∃ b, F s = some (.inr b) ∧ Q b) (fin : ∀ b, Q b → K b = r) : (iter F s).bind K = r := by
  obtain ⟨b, e, hb⟩ := iter_ind m I Q step h
  rw [e]; exact fin b hb
/-- .. that come to one value -/
theorem iter_val {σ β : Type} {F : σ → Option (σ ⊕ β)} {b : β} (m : σ → Nat) (I : σ → Prop)
    (step : ∀ s, I s → (∃ s', F s = some (.inl s') ∧ I s' ∧ m s' < m s) ∨ F s = some (.inr b)) {s : σ} (h : I s) : iter F s = some b := by
  obtain ⟨b', e, rfl⟩ := iter_ind m I (fun b' => b' = b) (fun s hs => (step s hs).imp_right fun e => ⟨b, e, rfl⟩) h
  exact e
end

/-! a text split at a byte -/
def splitB (c : UInt8) : Str → List Str
  | [] => [[]]
  | x :: l => if x = c then [] :: splitB c l else match splitB c l with
    | [] => [[x]]
    | h :: t => (x :: h) :: t
theorem splitB_ne {c : UInt8} : ∀ l, splitB c l ≠ []
  | [] => by simp [splitB]
  | x :: l => by
    simp only [splitB]
    split
    · simp
    · split <;> simp
theorem splitB_none {c : UInt8} : ∀ {p : Str}, (∀ x ∈ p, x ≠ c) → splitB c p = [p]
  | [], _ => rfl
  | x :: p, h => by
    simp only [splitB, if_neg (h x List.mem_cons_self), splitB_none fun y hy => h y (List.mem_cons_of_mem _ hy)]
theorem splitB_app {c : UInt8} {q : Str} : ∀ {p : Str}, (∀ x ∈ p, x ≠ c) → splitB c (p ++ c :: q) = p :: splitB c q
  | [], _ => by simp [splitB]
  | x :: p, h => by
    simp only [List.cons_append, splitB, if_neg (h x List.mem_cons_self), splitB_app fun y hy => h y (List.mem_cons_of_mem _ hy)]
theorem splitB_len {c : UInt8} : ∀ l : Str, (splitB c l).length = l.countP (fun x => x == c) + 1
  | [] => rfl
  | x :: l => by
    have ih := splitB_len (c := c) l
    simp only [splitB]
    by_cases hx : x = c
    · rw [if_pos hx, List.length_cons, ih, List.countP_cons_of_pos (by simp [hx])]
    · rw [if_neg hx, List.countP_cons_of_neg (by simp [hx])]
      split
      · rename_i e; exact absurd e (splitB_ne l)
      · rename_i e; rw [e] at ih; simpa using ih
theorem splitB_le {c : UInt8} (l : Str) : (splitB c l).length ≤ l.length + 1 := by
  rw [splitB_len]; have := List.countP_le_length (p := fun x => x == c) (l := l); omega

theorem findB_cases (l : Str) (c : UInt8) : ((∀ x ∈ l, x ≠ c) ∧ findB l c = -1) ∨ ∃ p q, l = p ++ c :: q ∧ (∀ x ∈ p, x ≠ c) ∧ findB l c = (p.length : Int) := by
  unfold findB
  cases e : l.findIdx? (fun x => x == c) with
  | none =>
    left
    rw [List.findIdx?_eq_none_iff] at e
    exact ⟨fun x hx => by simpa using e x hx, rfl⟩
  | some i =>
    right
    rw [List.findIdx?_eq_some_iff_getElem] at e
    obtain ⟨h, h1, h2⟩ := e
    have hc : l[i] = c := by simpa using h1
    refine ⟨l.take i, l.drop (i + 1), ?_, ?_, ?_⟩
    · rw [← hc, ← List.drop_eq_getElem_cons h, List.take_append_drop]
    · intro x hx
      obtain ⟨j, hj, rfl⟩ := List.mem_iff_getElem.1 hx
      rw [List.length_take] at hj
      have := h2 j (by omega)
      rw [List.getElem_take]
      simpa using this
    · rw [List.length_take]; simp only [Int.ofNat_inj]; omega

/-- a slice of one's own is filled -/
theorem set_at {α : Type} {d : List α} {x y : α} {r : List α} : (d ++ x :: r).set d.length y = d ++ y :: r := by
  rw [List.set_append_right _ _ (Nat.le_refl _), Nat.sub_self, List.set_cons_zero]
theorem drop_at {α : Type} {p q : List α} {x : α} : (p ++ x :: q).drop (p.length + 1) = q := by
  rw [← List.drop_drop, List.drop_left' rfl]; rfl
theorem take_at {α : Type} {p q : List α} : (p ++ q).take p.length = p := List.take_left' rfl
theorem get_at {α : Type} {d : List α} {x : α} {r : List α} : (d ++ x :: r)[d.length]? = some x := by
  rw [List.getElem?_append_right (Nat.le_refl _), Nat.sub_self]; rfl
end Go.Proofs.YtobejhpigbllpaaGreatDoor.Am
namespace Go.Proofs.YtobejhpigbllpaaGreatDoor.Am

theorem indexByte_val (l : Str) (c : UInt8) : strings_IndexByte l c = some (findB l c) := rfl
theorem r06_parts_val (l : Str) (c : UInt8) (hl : l.length < 1073741824) : r06_Parts l c = some (.mk (splitB c l)) := by
  unfold r06_Parts
  refine iter_then (fun s => l.length - s.2.1.toNat)
    (fun s => ∃ b j : Nat, s.1 = b ∧ s.2.1 = j ∧ b ≤ j ∧ j ≤ l.length ∧ (∀ x ∈ (l.take j).drop b, x ≠ c) ∧ s.2.2.l.length ≤ b ∧ s.2.2.l ++ splitB c (l.drop b) = splitB c l)
    (fun r => ∃ b : Nat, ∃ g, r = .inl ((b : Int), g) ∧ b ≤ l.length ∧ g.l.length ≤ b ∧ g.l ++ [l.drop b] = splitB c l) ⟨0, 0, rfl, rfl, by omega, by omega, by simp, by simp, by simp⟩ ?_ ?_
  rotate_left
  · rintro _ ⟨b, g, rfl, h1, h2, h3⟩
    simp only [Option.bind_some, Sum.elim_inl, subL_from h1]
    rw [apG_one (by unfold most; omega), h3, Option.bind_some]
  · rintro ⟨b', j', g⟩ ⟨b, j, rfl, rfl, h1, h2, h3, h4, h5⟩
    dsimp only at h4 h5 ⊢
    have hsplit : l.drop b = (l.take j).drop b ++ l.drop j := by
      rw [← List.drop_append_of_le_length (by simp; omega), List.take_append_drop]
    by_cases hj : j < l.length
    · rw [if_pos (by simpa using hj), idx_nat, List.getElem?_eq_getElem hj]
      simp only [Option.bind_some]
      have hdj : l.drop j = l[j] :: l.drop (j + 1) := List.drop_eq_getElem_cons hj
      rw [show (j : Int) + 1 = ((j + 1 : Nat) : Int) by omega, wrapN (by omega)]
      left
      by_cases hx : l[j] = c
      · rw [if_pos (by simp [hx]), subL_mid h1 (by omega)]
        simp only [Option.bind_some]
        rw [apG_one (by unfold most; omega)]
        refine ⟨_, rfl, ⟨j + 1, j + 1, rfl, rfl, by omega, by omega, by simp, ?_, ?_⟩, by dsimp only; omega⟩
        · simp only [GS.l_mk, List.length_append, List.length_cons, List.length_nil]; omega
        · rw [hsplit, hdj, hx, splitB_app h3] at h5
          simpa using h5
      · rw [if_neg (by simp only [decide_eq_true_eq]; exact fun e => hx (UInt8.toNat_inj.1 (by omega)))]
        refine ⟨_, rfl, ⟨b, j + 1, rfl, rfl, by omega, by omega, ?_, h4, h5⟩, by dsimp only; omega⟩
        intro x hxm
        rw [List.take_succ_eq_append_getElem hj, List.drop_append_of_le_length (by simp; omega)] at hxm
        rcases List.mem_append.1 hxm with h | h
        · exact h3 x h
        · rw [List.mem_singleton.1 h]; exact hx
    · rw [if_neg (by simpa using hj)]
      right
      refine ⟨_, rfl, b, g, rfl, by omega, h4, ?_⟩
      have : l.drop j = [] := List.drop_eq_nil_of_le (by omega)
      rw [this, List.append_nil] at hsplit
      rw [hsplit, splitB_none h3] at h5
      rw [hsplit]; exact h5

theorem index_val (l : Str) (c : UInt8) : strings_Index l [c] = some (findB l c) := by
  simp [strings_Index, internal_stringslite_Index, orO, idx, internal_stringslite_IndexByte, internal_bytealg_IndexByteString]
  rintro rfl
  simp [findB, List.findIdx?_cons]

end Go.Proofs.YtobejhpigbllpaaGreatDoor.Am
namespace Go.Proofs.YtobejhpigbllpaaGreatDoor.Am

def blk (c : UInt8) : Bool := c == 32 || c == 9 || c == 13
def trimL (l : Str) : Str := l.dropWhile blk
def trimR (l : Str) : Str := (l.reverse.dropWhile blk).reverse

theorem dropWhile_idem {α : Type} {p : α → Bool} : ∀ l : List α, (l.dropWhile p).dropWhile p = l.dropWhile p
  | [] => rfl
  | x :: l => by
    by_cases h : p x = true
    · rw [List.dropWhile_cons_of_pos h]; exact dropWhile_idem l
    · rw [List.dropWhile_cons_of_neg h, List.dropWhile_cons_of_neg h]
theorem trimL_idem (l : Str) : trimL (trimL l) = trimL l := dropWhile_idem l
theorem trimR_idem (l : Str) : trimR (trimR l) = trimR l := by
  simp only [trimR, List.reverse_reverse, dropWhile_idem]
theorem trimR_snoc (m : Str) (c : UInt8) : trimR (m ++ [c]) = if blk c = true then trimR m else m ++ [c] := by
  simp only [trimR, List.reverse_append, List.reverse_cons, List.reverse_nil, List.nil_append, List.singleton_append, List.dropWhile_cons]
  split <;> simp
theorem trimL_cons (c : UInt8) (l : Str) : trimL (c :: l) = if blk c = true then trimL l else c :: l := by
  simp only [trimL, List.dropWhile_cons]
theorem trimR_cons (c : UInt8) (l : Str) : trimR (c :: l) = if trimR l = [] ∧ blk c = true then [] else c :: trimR l := by
  simp only [trimR, List.reverse_cons, List.dropWhile_append]
  by_cases h : l.reverse.dropWhile blk = []
  · simp only [h, List.isEmpty_nil, if_true, List.reverse_nil, true_and]
    by_cases hc : blk c = true
    · simp [hc]
    · simp [hc]
  · have : (l.reverse.dropWhile blk).isEmpty = false := by simpa using h
    simp [this, h]
theorem trim_comm : ∀ l : Str, trimL (trimR l) = trimR (trimL l)
  | [] => rfl
  | c :: l => by
    have ih := trim_comm l
    rw [trimR_cons, trimL_cons]
    by_cases hc : blk c = true
    · rw [if_pos hc]
      by_cases h : trimR l = []
      · rw [if_pos ⟨h, hc⟩, ← ih, h]
      · rw [if_neg (fun e => h e.1), trimL_cons, if_pos hc, ih]
    · rw [if_neg (fun e => hc e.2), if_neg hc, trimL_cons, if_neg hc, trimR_cons, if_neg (fun e => hc e.2)]

theorem snoc_cases (l : Str) : l = [] ∨ ∃ m c, l = m ++ [c] := by
  rcases List.eq_nil_or_concat l with h | ⟨m, c, h⟩
  · exact .inl h
  · exact .inr ⟨m, c, by rw [h, List.concat_eq_append]⟩
theorem take_last {α : Type} {m : List α} {c : α} : (m ++ [c]).take m.length = m := by simp

/-- the set of blanks -/
def blanks : Ar Bool 256 := (((T.arr 256 T.b).z.set 32 true).set 9 true).set 13 true
theorem makeSet_val : strings_makeASCIISet [32, 9, 13] = some (blanks, true) := by
  unfold strings_makeASCIISet
  rw [iter_of (n := 4) (b := .inl blanks) rfl]
  rfl
theorem contains_val (c : UInt8) : p_strings_asciiSet_contains (some blanks) c = some (blk c) := by
  have hl : blanks.l = (((List.replicate 256 false).set 32 true).set 9 true).set 13 true := rfl
  have h : blanks.l[c.toNat]? = some (blk c) := by
    have hc := c.toNat_lt
    rw [hl]
    simp only [List.getElem?_set, List.length_set, List.length_replicate, List.getElem?_replicate, blk]
    have e : ∀ n : Nat, n < 256 → (n = c.toNat ↔ c = UInt8.ofNat n) := fun n hn => by
      rw [← UInt8.toNat_inj, UInt8.toNat_ofNat']; omega
    by_cases h13 : 13 = c.toNat
    · have := (e 13 (by omega)).1 h13; subst this; decide
    · by_cases h9 : 9 = c.toNat
      · have := (e 9 (by omega)).1 h9; subst this; decide
      · by_cases h32 : 32 = c.toNat
        · have := (e 32 (by omega)).1 h32; subst this; decide
        · rw [if_neg h13, if_neg h9, if_neg h32, if_pos (by simpa using hc)]
          have a : c ≠ 13 := fun h => h13 ((e 13 (by omega)).2 h)
          have b : c ≠ 9 := fun h => h9 ((e 9 (by omega)).2 h)
          have d : c ≠ 32 := fun h => h32 ((e 32 (by omega)).2 h)
          simp [a, b, d]
  simp [p_strings_asciiSet_contains, idx, h]

theorem trimR_le (l : Str) : (trimR l).length ≤ l.length := by
  simp only [trimR, List.length_reverse]
  have := (List.dropWhile_sublist blk (l := l.reverse)).length_le
  simpa using this
/-! small letters -/
def fold (c : UInt8) : UInt8 := if 65 ≤ c.toNat ∧ c.toNat ≤ 90 then IT.u8.ofI ((c.toNat : Int) + ((32 : UInt8).toNat : Int)) else c
def orI (n : Nat) : UInt8 := IT.u8.ofI (bitsR .or .u8 (n : Int) ((32 : UInt8).toNat : Int))
def addI (n : Nat) : UInt8 := IT.u8.ofI ((n : Int) + ((32 : UInt8).toNat : Int))
theorem fold_or : ∀ n : Fin 256, 65 ≤ n.1 → n.1 ≤ 90 → orI n.1 = addI n.1 := by decide +kernel
theorem fold_idemN : ∀ n : Fin 256, fold (fold (UInt8.ofNat n.1)) = fold (UInt8.ofNat n.1) := by decide +kernel
theorem ofNat_self (c : UInt8) : UInt8.ofNat c.toNat = c := by simp
theorem fold_idem (c : UInt8) : fold (fold c) = fold c := by
  have := fold_idemN ⟨c.toNat, c.toNat_lt⟩
  simpa using this
theorem fold_or' (c : UInt8) (h : 65 ≤ c.toNat) (h' : c.toNat ≤ 90) : IT.u8.ofI (bitsR .or .u8 (c.toNat : Int) ((32 : UInt8).toNat : Int)) = fold c := by
  have := fold_or ⟨c.toNat, c.toNat_lt⟩ h h'
  exact Eq.trans (show orI c.toNat = addI c.toNat from this) (if_pos (show 65 ≤ c.toNat ∧ c.toNat ≤ 90 from ⟨h, h'⟩)).symm
end Go.Proofs.YtobejhpigbllpaaGreatDoor.Am
namespace Go.Proofs.YtobejhpigbllpaaGreatDoor.Am

theorem ne_of_notMem {l : Str} {c : UInt8} (h : c ∉ l) : ∀ x ∈ l, x ≠ c := fun x hx e => h (e ▸ hx)
/-- two loops side by side -/
theorem iter_rel {σ τ β γ : Type} {F : σ → Option (σ ⊕ β)} {G : τ → Option (τ ⊕ γ)} (m : σ → Nat) (R : σ → τ → Prop) (Q : β → γ → Prop)
    (step : ∀ s t, R s t → (∃ s' t', F s = some (.inl s') ∧ G t = some (.inl t') ∧ R s' t' ∧ m s' < m s) ∨ ∃ b c, F s = some (.inr b) ∧ G t = some (.inr c) ∧ Q b c) {s : σ} {t : τ} (h : R s t) :
    ∃ b c, iter F s = some b ∧ iter G t = some c ∧ Q b c := by
  have key : ∀ n s t, m s < n → R s t → ∃ b c, iter F s = some b ∧ iter G t = some c ∧ Q b c := by
    intro n
    induction n with
    | zero => intro s t h; omega
    | succ n ih =>
      intro s t h hR
      rcases step s t hR with ⟨s', t', e1, e2, hR', hm⟩ | ⟨b, c, e1, e2, hq⟩
      · rw [iter_next e1, iter_next e2]; exact ih s' t' (by omega) hR'
      · exact ⟨b, c, iter_last e1, iter_last e2, hq⟩
  exact key _ s t (Nat.lt_succ_self _) h

theorem splitB_last (c : UInt8) : ∀ l : Str, ∃ init last pre, splitB c l = init ++ [last] ∧ l = pre ++ last ∧ c ∉ last ∧ ((pre = [] ∧ init = []) ∨ ∃ m, pre = m ++ [c] ∧ init = splitB c m)
  | [] => ⟨[], [], [], rfl, rfl, by simp, .inl ⟨rfl, rfl⟩⟩
  | x :: l => by
    obtain ⟨init, last, pre, h1, h2, h3, h4⟩ := splitB_last c l
    by_cases hx : x = c
    · subst hx
      refine ⟨[] :: init, last, x :: pre, by simp [splitB, h1], by rw [h2]; rfl, h3, .inr ?_⟩
      rcases h4 with ⟨rfl, rfl⟩ | ⟨m, rfl, rfl⟩
      · exact ⟨[], rfl, rfl⟩
      · exact ⟨x :: m, rfl, by simp [splitB]⟩
    · rcases h4 with ⟨rfl, rfl⟩ | ⟨m, rfl, rfl⟩
      · refine ⟨[], x :: last, [], ?_, by rw [h2]; rfl, ?_, .inl ⟨rfl, rfl⟩⟩
        · simp only [List.nil_append] at h1
          simp [splitB, hx, h1]
        · simp only [List.mem_cons, not_or]; exact ⟨Ne.symm hx, h3⟩
      · have hm := splitB_ne (c := c) m
        cases hs : splitB c m with
        | nil => exact absurd hs hm
        | cons h t =>
          rw [hs] at h1
          refine ⟨(x :: h) :: t, last, x :: (m ++ [c]), ?_, by rw [h2]; rfl, h3, .inr ⟨x :: m, rfl, ?_⟩⟩
          · simp [splitB, hx, h1]
          · simp [splitB, hx, hs]

end Go.Proofs.YtobejhpigbllpaaGreatDoor.Am
namespace Go.Proofs.YtobejhpigbllpaaGreatDoor.Am

theorem get_list (l : Str) (k : Nat) (h : k < l.length) : (⟨l.toArray⟩ : ByteArray).get! k = l[k] := by
  show l.toArray[k]! = l[k]
  rw [getElem!_pos _ _ (by simpa using h)]; simp
/-- a rune's bytes: one below 128, or all from 128 on -/
theorem rune_split (l : Str) (pos : Nat) (h : pos < l.length) : (l[pos].toNat < 128 ∧ runeAt l pos = ((l[pos].toNat : Int), 1)) ∨
    (128 ≤ l[pos].toNat ∧ 128 ≤ (runeAt l pos).1 ∧ 1 ≤ (runeAt l pos).2 ∧ ∀ j, j < (runeAt l pos).2 → ∃ hj : pos + j < l.length, 128 ≤ (l[pos + j]).toNat) := by
  have hsz : (⟨l.toArray⟩ : ByteArray).size = l.length := by simp [ByteArray.size]
  have h0 := get_list l pos h
  by_cases hb : l[pos].toNat < 128
  · left
    refine ⟨hb, ?_⟩
    simp only [runeAt, Utf8.decode, Nat.add_zero, h0, hb, if_true]
  · right
    have hb' : 128 ≤ l[pos].toNat := by omega
    refine ⟨hb', ?_⟩
    have hd0 : ∀ j, j < 1 → ∃ hj : pos + j < l.length, 128 ≤ (l[pos + j]).toNat := fun j hj => by
      obtain rfl : j = 0 := by omega
      exact ⟨h, hb'⟩
    have hc : ∀ k, (decide (pos + k < (⟨l.toArray⟩ : ByteArray).size) && ((⟨l.toArray⟩ : ByteArray).get! (pos + k)).toNat / 64 == 2) = true → ∃ hj : pos + k < l.length, 128 ≤ (l[pos + k]).toNat := fun k hk => by
      simp only [Bool.and_eq_true, decide_eq_true_eq, beq_iff_eq, hsz] at hk
      refine ⟨hk.1, ?_⟩
      have := hk.2
      rw [get_list l _ hk.1] at this
      omega
    simp only [runeAt, Utf8.decode, Nat.add_zero, h0]
    rw [if_neg hb]
    have err : (128 : Int) ≤ ((Utf8.runeError : Nat) : Int) := by simp [Utf8.runeError]
    split
    · rename_i hx
      simp only [Bool.and_eq_true] at hx
      have h1 := hc 1 (by simpa using hx.2)
      split
      · rename_i hy
        refine ⟨by simp only; omega, by simp, fun j hj => ?_⟩
        simp only at hj
        rcases (show j = 0 ∨ j = 1 by omega) with rfl | rfl
        · exact hd0 0 (by omega)
        · exact h1
      · exact ⟨err, by simp, hd0⟩
    · split
      · rename_i hx
        simp only [Bool.and_eq_true] at hx
        have h1 := hc 1 (by simpa using hx.1.2)
        have h2 := hc 2 (by simpa using hx.2)
        split
        · rename_i hy
          simp only [Bool.and_eq_true, decide_eq_true_eq] at hy
          refine ⟨by simp only; omega, by simp, fun j hj => ?_⟩
          simp only at hj
          rcases (show j = 0 ∨ j = 1 ∨ j = 2 by omega) with rfl | rfl | rfl
          · exact hd0 0 (by omega)
          · exact h1
          · exact h2
        · exact ⟨err, by simp, hd0⟩
      · split
        · rename_i hx
          simp only [Bool.and_eq_true] at hx
          have h1 := hc 1 (by simpa using hx.1.1.2)
          have h2 := hc 2 (by simpa using hx.1.2)
          have h3 := hc 3 (by simpa using hx.2)
          split
          · rename_i hy
            simp only [Bool.and_eq_true, decide_eq_true_eq] at hy
            refine ⟨by simp only; omega, by simp, fun j hj => ?_⟩
            simp only at hj
            rcases (show j = 0 ∨ j = 1 ∨ j = 2 ∨ j = 3 by omega) with rfl | rfl | rfl | rfl
            · exact hd0 0 (by omega)
            · exact h1
            · exact h2
            · exact h3
          · exact ⟨err, by simp, hd0⟩
        · exact ⟨err, by simp, hd0⟩

theorem enc_len (r : Int) (h : 128 ≤ r) : ∃ b c, (Utf8.encode r).data.toList = b ++ [c] ∧ 1 ≤ b.length ∧ b.length ≤ 3 ∧ 128 ≤ c.toNat := by
  have hc : 128 ≤ (if Utf8.valid r then r.toNat else Utf8.runeError) := by
    split
    · omega
    · simp [Utf8.runeError]
  have hb : ∀ n : Nat, 128 ≤ n → n < 256 → 128 ≤ (UInt8.ofNat n).toNat := fun n h1 h2 => by rw [UInt8.toNat_ofNat']; omega
  unfold Utf8.encode
  dsimp only
  generalize (if Utf8.valid r then r.toNat else Utf8.runeError) = k at hc
  rw [if_neg (by omega)]
  split
  · exact ⟨[_], _, rfl, by simp, by simp, hb _ (by omega) (by omega)⟩
  · split
    · exact ⟨[_, _], _, rfl, by simp, by simp, hb _ (by omega) (by omega)⟩
    · exact ⟨[_, _, _], _, rfl, by simp, by simp, hb _ (by omega) (by omega)⟩

theorem validRune_val (r : Int) : ∃ b, unicode_utf8_ValidRune r = some b := by
  unfold unicode_utf8_ValidRune andO
  by_cases h1 : (0 : Int) ≤ r <;> by_cases h2 : r < 55296 <;> by_cases h3 : (57343 : Int) < r <;> by_cases h4 : r ≤ 1114111 <;> simp [h1, h2, h3, h4]
/-- two bytes below 128, and a rune -/
theorem indexRune_hi (a b : UInt8) (ha : a.toNat < 128) (hb : b.toNat < 128) (r : Int) (h : 128 ≤ r) : strings_IndexRune [a, b] r = some (-1) := by
  unfold strings_IndexRune
  have n1 : ¬ r < 128 := by omega
  have n0 : (0 : Int) ≤ r := by omega
  simp only [andO, n0, n1, decide_true, decide_false, if_true, Option.bind_some]
  rw [if_neg (by simp)]
  by_cases he : r = 65533
  · rw [if_pos (by simpa using he)]
    have r0 : runeAt [a, b] 0 = ((a.toNat : Int), 1) := by
      rcases rune_split [a, b] 0 (by simp) with ⟨_, e⟩ | ⟨e, _⟩
      · exact e
      · simp at e; omega
    have r1 : runeAt [a, b] 1 = ((b.toNat : Int), 1) := by
      rcases rune_split [a, b] 1 (by simp) with ⟨_, e⟩ | ⟨e, _⟩
      · exact e
      · simp at e; omega
    have x0 : ¬ (a.toNat : Int) = 65533 := by omega
    have x1 : ¬ (b.toNat : Int) = 65533 := by omega
    rw [iter_of (n := 3) (b := .inl ())]
    · rfl
    · simp [iterN, r0, r1, x0, x1]
  · rw [if_neg (by simpa using he)]
    obtain ⟨v, hv⟩ := validRune_val r
    simp only [hv, Option.bind_some]
    cases v with
    | false => simp
    | true =>
      obtain ⟨p, c, e, h1, h2, h3⟩ := enc_len r h
      simp only [Bool.not_true, Bool.false_eq_true, if_false, e]
      have hl : ((p ++ [c]).length : Int) - 1 = (p.length : Nat) := by simp
      rw [hl, wrapN (by omega)]
      by_cases hp : p.length = 1
      · rw [iter_of (n := 1) (b := .inr (-1))]
        · rfl
        · have i1 : idx [a, b] ((p.length : Nat) : Int) = some b := by rw [idx_nat, hp]; rfl
          have i2 : idx (p ++ [c]) ((p.length : Nat) : Int) = some c := by rw [idx_nat, List.getElem?_append_right (Nat.le_refl _), Nat.sub_self]; rfl
          have hbc : ¬ (b.toNat : Int) = (c.toNat : Int) := by omega
          have hs : subL [a, b] (some (IntKind.i64.wrap ((p.length : Int) + 1))) none = some [] := by
            rw [hp, show ((1 : Nat) : Int) + 1 = ((2 : Nat) : Int) from rfl, wrapN (by omega), subL_from (by simp)]; rfl
          have hf : strings_IndexByte [] c = some (-1) := rfl
          have hlt : ((p.length : Nat) : Int) < (([a, b] : Str).length : Int) := by rw [hp]; simp
          simp only [iterN, hlt, decide_true, if_true, i1, i2, hs, hf, Option.bind_some, hbc, decide_false, Bool.not_false]
          simp
      · rw [iter_of (n := 1) (b := .inl ())]
        · rfl
        · have hlt : ¬ ((p.length : Nat) : Int) < (([a, b] : Str).length : Int) := by simp; omega
          simp only [iterN, hlt, decide_false, Bool.false_eq_true, if_false]
          rfl
theorem indexRune_lo (a b : UInt8) (c : UInt8) (h : c.toNat < 128) : strings_IndexRune [a, b] (c.toNat : Int) = some (findB [a, b] c) := by
  unfold strings_IndexRune
  have n1 : (c.toNat : Int) < 128 := by omega
  have n0 : (0 : Int) ≤ (c.toNat : Int) := by omega
  have hc : IT.u8.ofI (c.toNat : Int) = c := by
    show UInt8.ofNat (IntKind.u8.wrap (c.toNat : Int)).toNat = c
    have : IntKind.u8.wrap (c.toNat : Int) = c.toNat := by simp only [IntKind.wrap, IntKind.bits, IntKind.signed]; simp; omega
    rw [this]; simp
  simp only [andO, n0, n1, decide_true, if_true, Option.bind_some, hc, indexByte_val]

def two (a b c : UInt8) : Bool := c == a || c == b
theorem find2 (a b c : UInt8) : 0 ≤ findB [a, b] c ↔ two a b c = true := by
  unfold findB two
  by_cases h1 : a = c
  · subst h1; simp [List.findIdx?_cons]
  · by_cases h2 : b = c
    · subst h2
      have : (a == b) = false := by simpa using h1
      simp [List.findIdx?_cons, this]
    · have e1 : (a == c) = false := by simpa using h1
      have e2 : (b == c) = false := by simpa using h2
      have e3 : (c == a) = false := by simpa using Ne.symm h1
      have e4 : (c == b) = false := by simpa using Ne.symm h2
      simp [List.findIdx?_cons, e1, e2, e3, e4]

/-- the set of two bytes -/
def set2 (a b : UInt8) : Ar Bool 256 := ((T.arr 256 T.b).z.set a.toNat true).set b.toNat true
theorem makeSet2 (a b : UInt8) (ha : a.toNat < 128) (hb : b.toNat < 128) : strings_makeASCIISet [a, b] = some (set2 a b, true) := by
  unfold strings_makeASCIISet
  have na : ¬ ((128 : UInt8).toNat : Int) ≤ (a.toNat : Int) := by show ¬ (128 : Int) ≤ _; omega
  have nb : ¬ ((128 : UInt8).toNat : Int) ≤ (b.toNat : Int) := by show ¬ (128 : Int) ≤ _; omega
  have w1 : IntKind.i64.wrap ((0 : Int) + 1) = 1 := rfl
  have w2 : IntKind.i64.wrap ((1 : Int) + 1) = 2 := rfl
  have g0 : idx [a, b] 0 = some a := rfl
  have g1 : idx [a, b] 1 = some b := rfl
  have l0 : (0 : Int) < (([a, b] : Str).length : Int) := by simp
  have l1 : (1 : Int) < (([a, b] : Str).length : Int) := by simp
  have l2 : ¬ (2 : Int) < (([a, b] : Str).length : Int) := by simp
  rw [iter_of (n := 3) (b := .inl (set2 a b))]
  · rfl
  · simp only [iterN, l0, l1, l2, g0, g1, na, nb, w1, w2, decide_true, decide_false, if_true, Bool.false_eq_true, if_false, Option.bind_some, idxN_nat (show a.toNat < 256 by omega), idxN_nat (show b.toNat < 256 by omega), if_pos (show a.toNat < 256 by omega), if_pos (show b.toNat < 256 by omega)]
    rfl
theorem contains2 (a b c : UInt8) : p_strings_asciiSet_contains (some (set2 a b)) c = some (two a b c) := by
  have hl : (set2 a b).l = ((List.replicate 256 false).set a.toNat true).set b.toNat true := rfl
  have h : (set2 a b).l[c.toNat]? = some (two a b c) := by
    have hc := c.toNat_lt
    rw [hl]
    simp only [List.getElem?_set, List.length_set, List.length_replicate, List.getElem?_replicate, two]
    by_cases h1 : b.toNat = c.toNat
    · have := UInt8.toNat_inj.1 h1
      subst this
      have := b.toNat_lt
      simp; omega
    · have e1 : (c == b) = false := by rw [beq_eq_false_iff_ne]; exact fun e => h1 (by rw [e])
      rw [if_neg h1]
      by_cases h2 : a.toNat = c.toNat
      · have := UInt8.toNat_inj.1 h2
        subst this
        have := a.toNat_lt
        simp; omega
      · have e2 : (c == a) = false := by rw [beq_eq_false_iff_ne]; exact fun e => h2 (by rw [e])
        rw [if_neg h2, if_pos (by simpa using hc)]
        simp [e1, e2]
  simp [p_strings_asciiSet_contains, idx, h]

theorem containsAny_val (l : Str) (a b : UInt8) (ha : a.toNat < 128) (hb : b.toNat < 128) (hl : l.length < 1073741824) : strings_ContainsAny l [a, b] = some (l.any (two a b)) := by
  have key : ∃ r : Int, strings_IndexAny l [a, b] = some r ∧ (0 ≤ r ↔ l.any (two a b) = true) := by
    unfold strings_IndexAny
    rw [if_neg (by simp), if_neg (by simp)]
    simp only [strings_shouldUseASCIISet, Option.bind_some]
    by_cases h8 : (8 : Int) < (l.length : Int)
    · rw [if_pos (by simpa using h8)]
      simp only [makeSet2 a b ha hb, Option.bind_some, if_true]
      obtain ⟨r, e, hr⟩ := iter_ind (F := fun (s26 : Int) =>
        if (decide (s26 < (l.length : Int))) = true then
        (idx l s26).bind fun x30 =>
        (p_strings_asciiSet_contains (some (set2 a b)) x30).bind fun x31 =>
        if x31 = true then
        (some s26).map fun r => .inr (.inr r)
        else
        some (.inl (IntKind.i64.wrap (s26 + 1)))
        else
        some (.inr (.inl ()) : _ ⊕ Unit ⊕ Int)) (fun s => l.length - s.toNat) (fun s => ∃ n : Nat, s = (n : Int) ∧ n ≤ l.length ∧ (l.take n).any (two a b) = false)
        (fun r => (r = .inl () ∧ l.any (two a b) = false) ∨ ∃ n : Nat, r = .inr (n : Int) ∧ l.any (two a b) = true) (by
          rintro s ⟨n, rfl, h1, h2⟩
          by_cases hn : n < l.length
          · rw [if_pos (by simpa using hn), idx_nat, List.getElem?_eq_getElem hn]
            simp only [Option.bind_some, contains2]
            by_cases hx : two a b l[n] = true
            · right
              refine ⟨_, by rw [if_pos hx]; rfl, .inr ⟨n, rfl, ?_⟩⟩
              rw [List.any_eq_true]; exact ⟨_, List.getElem_mem hn, hx⟩
            · left
              rw [if_neg hx, show (n : Int) + 1 = ((n + 1 : Nat) : Int) by omega, wrapN (by omega)]
              refine ⟨_, rfl, ⟨n + 1, rfl, by omega, ?_⟩, by omega⟩
              rw [List.take_succ_eq_append_getElem hn, List.any_append, h2]
              simpa using hx
          · right
            rw [if_neg (by simpa using hn)]
            refine ⟨_, rfl, .inl ⟨rfl, ?_⟩⟩
            rwa [List.take_of_length_le (by omega)] at h2) (s := 0) ⟨0, rfl, by omega, by simp⟩
      rw [e]
      rcases hr with ⟨rfl, hr⟩ | ⟨n, rfl, hr⟩
      · exact ⟨-1, rfl, by simp [hr]⟩
      · exact ⟨n, rfl, by simp [hr]⟩
    · rw [if_neg (by simpa using h8)]
      obtain ⟨r, e, hr⟩ := iter_ind (F := fun (s14 : Nat) =>
        if s14 < l.length then
        (strings_IndexRune [a, b] (runeAt l s14).1).bind fun x19 =>
        if (decide (0 ≤ x19)) = true then
        (some ((s14 : Nat) : Int)).map fun r => .inr (.inr r)
        else
        some (.inl (s14 + (runeAt l s14).2))
        else
        some (.inr (.inl ()) : _ ⊕ Unit ⊕ Int)) (fun s => l.length - s) (fun n => n ≤ l.length ∧ (l.take n).any (two a b) = false)
        (fun r => (r = .inl () ∧ l.any (two a b) = false) ∨ ∃ n : Nat, r = .inr (n : Int) ∧ l.any (two a b) = true) (by
          rintro n ⟨h1, h2⟩
          by_cases hn : n < l.length
          · rw [if_pos hn]
            rcases rune_split l n hn with ⟨hlo, e⟩ | ⟨hhi, e1, e2, e3⟩
            · simp only [e, indexRune_lo a b _ hlo, Option.bind_some, find2, decide_eq_true_eq]
              by_cases hx : two a b l[n] = true
              · right
                refine ⟨_, by rw [if_pos hx]; rfl, .inr ⟨n, rfl, ?_⟩⟩
                rw [List.any_eq_true]; exact ⟨_, List.getElem_mem hn, hx⟩
              · left
                rw [if_neg hx]
                refine ⟨_, rfl, ⟨by omega, ?_⟩, by omega⟩
                rw [List.take_succ_eq_append_getElem hn, List.any_append, h2]
                simpa using hx
            · left
              simp only [indexRune_hi a b ha hb _ e1, Option.bind_some]
              have hle : n + (runeAt l n).2 ≤ l.length := by
                obtain ⟨hj, _⟩ := e3 ((runeAt l n).2 - 1) (by omega)
                omega
              refine ⟨n + (runeAt l n).2, by simp, ⟨hle, ?_⟩, by omega⟩
              rw [List.any_eq_false] at h2 ⊢
              intro x hx
              obtain ⟨i, hi, rfl⟩ := List.mem_iff_getElem.1 hx
              rw [List.length_take] at hi
              rw [List.getElem_take]
              by_cases hin : i < n
              · exact h2 _ (List.mem_iff_getElem.2 ⟨i, by rw [List.length_take]; omega, by rw [List.getElem_take]⟩)
              · obtain ⟨hj, hv⟩ := e3 (i - n) (by omega)
                have : l[n + (i - n)] = l[i] := by congr 1; omega
                rw [this] at hv
                intro ht
                simp only [two, Bool.or_eq_true, beq_iff_eq] at ht
                rcases ht with ht | ht <;> rw [ht] at hv <;> omega
          · right
            rw [if_neg hn]
            refine ⟨_, rfl, .inl ⟨rfl, ?_⟩⟩
            rwa [List.take_of_length_le (by omega)] at h2) (s := 0) ⟨by omega, by simp⟩
      rw [e]
      rcases hr with ⟨rfl, hr⟩ | ⟨n, rfl, hr⟩
      · exact ⟨-1, rfl, by simp [hr]⟩
      · exact ⟨n, rfl, by simp [hr]⟩
  obtain ⟨r, e, hr⟩ := key
  simp only [strings_ContainsAny, e, Option.bind_some]
  congr 1
  rw [Bool.eq_iff_iff]; simpa using hr
end Go.Proofs.YtobejhpigbllpaaGreatDoor.Am
namespace Go.Proofs.YtobejhpigbllpaaGreatDoor.Am

theorem contains1_val (l : Str) (c : UInt8) : strings_Contains l [c] = some (decide (c ∈ l)) := by
  simp only [strings_Contains, index_val, Option.bind_some]
  congr 1
  rw [Bool.eq_iff_iff]
  simp only [decide_eq_true_eq]
  rcases findB_cases l c with ⟨h, e⟩ | ⟨p, q, rfl, h, e⟩
  · rw [e]
    exact ⟨fun h => by omega, fun hm => absurd rfl (h c hm)⟩
  · rw [e]; simp
theorem any_two (l : Str) (a b : UInt8) : l.any (two a b) = (decide (a ∈ l) || decide (b ∈ l)) := by
  rw [Bool.eq_iff_iff]
  simp only [List.any_eq_true, two, Bool.or_eq_true, beq_iff_eq, decide_eq_true_eq]
  constructor
  · rintro ⟨x, hx, rfl | rfl⟩
    · exact .inl hx
    · exact .inr hx
  · rintro (h | h)
    · exact ⟨a, h, .inl rfl⟩
    · exact ⟨b, h, .inr rfl⟩

def textP (k v : Str) : Str × Int := if k = [] ∨ 61 ∈ k ∨ 10 ∈ k ∨ 10 ∈ v then ([], 5) else if 512 < (k ++ [61] ++ v).length then ([], 4) else (k ++ [61] ++ v, 0)
theorem text_join (k v : Str) (hk : k.length < 1073741824) (hv : v.length < 1073741824) : ((if k.length + [61].length ≤ 2 * most then some (k ++ ([61] : Str)) else none).bind fun x10 =>
    (if x10.length + v.length ≤ 2 * most then some (x10 ++ v) else none).bind fun x12 =>
    if (decide (512 < (x12.length : Int))) = true then
    some (([] : Str), (4 : Int))
    else
    some (x12, 0)) = some (if 512 < (k ++ [61] ++ v).length then ([], 4) else (k ++ [61] ++ v, 0)) := by
  rw [if_pos (by unfold most; simp; omega), Option.bind_some, if_pos (by unfold most; simp; omega), Option.bind_some]
  by_cases h : 512 < (k ++ [61] ++ v).length
  · rw [if_pos h, if_pos (by rw [decide_eq_true_eq]; omega)]
  · rw [if_neg h, if_neg (by rw [decide_eq_true_eq]; omega)]
theorem text_val (k v : Str) (hk : k.length < 1073741824) (hv : v.length < 1073741824) : pairline_Text ⟨k, v⟩ = some (textP k v) := by
  unfold pairline_Text
  simp only [containsAny_val k 61 10 (by decide) (by decide) hk, any_two, contains1_val, Option.bind_some, text_join k v hk hv, orO]
  by_cases h1 : k = [] <;> by_cases h2 : (61 : UInt8) ∈ k <;> by_cases h3 : (10 : UInt8) ∈ k <;> by_cases h4 : (10 : UInt8) ∈ v <;> simp [textP, h1, h2, h3, h4]
/-- what a line says -/
def Says (a k v : Str) : Prop := a = k ++ 61 :: v ∧ 61 ∉ k ∧ k ≠ [] ∧ 10 ∉ a ∧ a.length ≤ 512
theorem split_uniq {c : UInt8} : ∀ {p p' q q' : Str}, p ++ c :: q = p' ++ c :: q' → c ∉ p → c ∉ p' → p = p' ∧ q = q'
  | [], [], _, _, h, _, _ => by simpa using h
  | [], x :: p', _, _, h, _, h2 => by simp only [List.nil_append, List.cons_append, List.cons.injEq] at h; exact absurd (by rw [h.1]; simp) h2
  | x :: p, [], _, _, h, h1, _ => by simp only [List.nil_append, List.cons_append, List.cons.injEq] at h; exact absurd (by rw [← h.1]; simp) h1
  | x :: p, y :: p', _, _, h, h1, h2 => by
    simp only [List.cons_append, List.cons.injEq] at h
    obtain ⟨a, b⟩ := split_uniq h.2 (fun h => h1 (List.mem_cons_of_mem _ h)) (fun h => h2 (List.mem_cons_of_mem _ h))
    exact ⟨by rw [h.1, a], b⟩
end Go.Proofs.YtobejhpigbllpaaGreatDoor.Am
namespace Go.Proofs.YtobejhpigbllpaaGreatDoor.Am

/-- the text of lines -/
def txt (l : List Str) : Str := l.flatMap fun x => x ++ [10]
theorem txt_cons (x : Str) (l : List Str) : txt (x :: l) = x ++ 10 :: txt l := by simp [txt]
theorem txt_app (a b : List Str) : txt (a ++ b) = txt a ++ txt b := by simp [txt]
theorem txt_one (x : Str) : txt [x] = x ++ [10] := by simp [txt]
theorem txt_snoc (a : List Str) (x : Str) : txt (a ++ [x]) = txt a ++ x ++ [10] := by rw [txt_app, txt_one, List.append_assoc]
theorem txt_take {l : List Str} {n : Nat} (h : n < l.length) : txt (l.take (n + 1)) = txt (l.take n) ++ l[n] ++ [10] := by
  rw [List.take_succ_eq_append_getElem h, txt_snoc]
theorem txt_le (l : List Str) (n : Nat) : (txt (l.take n)).length ≤ (txt l).length := by
  have := congrArg List.length (txt_app (l.take n) (l.drop n))
  rw [List.take_append_drop, List.length_append] at this
  omega
theorem txt_split : ∀ m : Str, txt (splitB 10 m) = m ++ [10]
  | [] => rfl
  | x :: l => by
    have ih := txt_split l
    simp only [splitB]
    by_cases hx : x = 10
    · rw [if_pos hx, txt_cons, ih, hx]; rfl
    · rw [if_neg hx]
      cases e : splitB 10 l with
      | nil => exact absurd e (splitB_ne l)
      | cons h t =>
        rw [e, txt_cons] at ih
        rw [txt_cons]
        show x :: (h ++ 10 :: txt t) = _
        rw [ih]; rfl
theorem split_txt : ∀ {l : List Str}, (∀ x ∈ l, (10 : UInt8) ∉ x) → splitB 10 (txt l) = l ++ [[]]
  | [], _ => rfl
  | x :: l, h => by
    rw [txt_cons, splitB_app (ne_of_notMem (h x List.mem_cons_self)), split_txt fun y hy => h y (List.mem_cons_of_mem _ hy)]
    rfl
theorem txt_len (l : List Str) (n : Nat) (h : ∀ x ∈ l, x.length ≤ n) : (txt l).length ≤ l.length * (n + 1) := by
  induction l with
  | nil => simp [txt]
  | cons x l ih =>
    have h1 := ih fun y hy => h y (List.mem_cons_of_mem _ hy)
    have h2 := h x List.mem_cons_self
    rw [txt_cons, List.length_append, List.length_cons, List.length_cons, Nat.succ_mul]; omega
theorem len_txt (l : List Str) : l.length ≤ (txt l).length := by
  induction l with
  | nil => simp
  | cons x l ih => rw [txt_cons, List.length_append, List.length_cons, List.length_cons]; omega

theorem join_val (g : GS Str) (h : (txt g.l).length ≤ most) : lines_Join g = some (txt g.l) := by
  have hl := len_txt g.l
  unfold most at h
  unfold lines_Join
  refine iter_then (fun s => g.l.length - s.1.toNat) (fun s => ∃ n : Nat, s.1 = n ∧ n ≤ g.l.length ∧ s.2 = txt (g.l.take n)) (fun r => r = .inl (txt g.l)) ⟨0, rfl, by omega, by simp [txt]⟩ ?_ ?_
  rotate_left
  · rintro _ rfl
    simp only [Sum.elim_inl, bldT]
    rw [if_pos ⟨by unfold most; exact h, fun e => by cases e⟩]; rfl
  · rintro ⟨s, b⟩ ⟨n, rfl, h1, h2⟩
    dsimp only at h2 ⊢
    subst h2
    by_cases hn : n < g.l.length
    · have h3 := txt_take hn
      have h4 := txt_le g.l (n + 1)
      rw [h3] at h4
      simp only [List.length_append, List.length_cons, List.length_nil] at h4
      rw [if_pos (by simpa using hn), idx_nat, List.getElem?_eq_getElem hn]
      left
      refine ⟨((n : Int) + 1, txt (g.l.take (n + 1))), ?_, ⟨n + 1, by simp, by omega, rfl⟩, by dsimp only; omega⟩
      simp only [Option.bind_some, bldG]
      rw [if_pos (by unfold most; omega)]
      simp only [Option.bind_some]
      rw [if_pos (by unfold most; simp; omega), Option.bind_some, ← h3, show (n : Int) + 1 = ((n + 1 : Nat) : Int) by omega, wrapN (by omega)]
    · right
      rw [if_neg (by simpa using hn)]
      exact ⟨_, rfl, by rw [List.take_of_length_le (by omega)]⟩

end Go.Proofs.YtobejhpigbllpaaGreatDoor.Am
namespace Go.Proofs.YtobejhpigbllpaaGreatDoor.Am

theorem find_first {α : Type} {q : α → Bool} : ∀ {l : List α} {n : Nat} {x : α}, l[n]? = some x → (∀ y ∈ l.take n, q y = false) → q x = true → l.find? q = some x
  | [], _, _, h, _, _ => by simp at h
  | y :: l, 0, x, h, _, hq => by simp only [List.getElem?_cons_zero, Option.some.injEq] at h; subst h; simp [hq]
  | y :: l, n + 1, x, h, ha, hq => by
    have h1 := ha y (by simp)
    rw [List.find?_cons, h1]
    exact find_first (n := n) (by simpa using h) (fun z hz => ha z (by simp [hz])) hq

def textOf (p : S_pairline_Pair) : Str × Int := textP p.Key p.Value
def badP (p : S_pairline_Pair) : Bool := decide ((textOf p).2 ≠ 0)
def lineP (p : S_pairline_Pair) : Str := p.Key ++ 61 :: p.Value
def convP (p : S_pairline_Pair) : S_r36_Pair := ⟨p.Key, p.Value⟩
/-- the block of pairs -/
def blockP (l : List S_pairline_Pair) : Str × Int :=
  if 400 < l.length then ([], 4) else match l.find? badP with
    | some p => ([], (textOf p).2)
    | none => (txt (l.map lineP) ++ [10], 0)

theorem textP_ok {k v : Str} (h : (textP k v).2 = 0) : (textP k v).1 = k ++ 61 :: v ∧ Says (k ++ 61 :: v) k v := by
  unfold textP at h ⊢
  by_cases hc : k = [] ∨ 61 ∈ k ∨ 10 ∈ k ∨ 10 ∈ v
  · rw [if_pos hc] at h; simp at h
  · rw [if_neg hc] at h ⊢
    by_cases hl : 512 < (k ++ [61] ++ v).length
    · rw [if_pos hl] at h; simp at h
    · rw [if_neg hl]
      refine ⟨by simp, rfl, fun h => hc (.inr (.inl h)), fun h => hc (.inl h), fun h => ?_, by simp at hl ⊢; omega⟩
      simp only [List.mem_append, List.mem_cons] at h
      rcases h with h | h | h
      · exact hc (.inr (.inr (.inl h)))
      · exact absurd h (by decide)
      · exact hc (.inr (.inr (.inr h)))
theorem textP_of {k v : Str} (s : Says (k ++ 61 :: v) k v) : textP k v = (k ++ 61 :: v, 0) := by
  have hm := s.2.2.2.1
  have hle := s.2.2.2.2
  simp only [List.mem_append, List.mem_cons, not_or] at hm
  unfold textP
  rw [if_neg (by
    rintro (h | h | h | h)
    · exact s.2.2.1 h
    · exact s.2.1 h
    · exact hm.1 h
    · exact hm.2.2 h), if_neg (by simp at hle ⊢; omega)]
  simp
theorem badP_false {p : S_pairline_Pair} (h : badP p = false) : textOf p = (lineP p, 0) ∧ Says (lineP p) p.Key p.Value := by
  simp only [badP, ne_eq, decide_not, Bool.not_eq_false', decide_eq_true_eq] at h
  obtain ⟨h1, h2⟩ := textP_ok h
  exact ⟨Prod.ext h1 h, h2⟩
theorem badP_true {p : S_pairline_Pair} (h : badP p = true) : (textOf p).2 ≠ 0 := by simpa [badP] using h
theorem badP_of {p : S_pairline_Pair} (s : Says (lineP p) p.Key p.Value) : badP p = false := by
  have := textP_of s
  simp [badP, textOf, this]

/-- not too long for memory -/
def FitP (l : List S_pairline_Pair) : Prop := ∀ p ∈ l, p.Key.length < 1073741824 ∧ p.Value.length < 1073741824
theorem lines_fit {l : List S_pairline_Pair} (h : ∀ p ∈ l, badP p = false) (hl : l.length ≤ 400) : (txt (l.map lineP)).length ≤ 205200 := by
  have := txt_len (l.map lineP) 512 (fun x hx => by
    obtain ⟨p, hp, rfl⟩ := List.mem_map.1 hx
    exact (badP_false (h p hp)).2.2.2.2.2)
  rw [List.length_map] at this
  have h2 : l.length * 513 ≤ 400 * 513 := Nat.mul_le_mul_right _ hl
  omega

theorem block_val (g : GS S_pairline_Pair) (hf : FitP g.l) : pairline_Block g = some (blockP g.l) := by
  unfold pairline_Block blockP
  by_cases h4 : 400 < g.l.length
  · rw [if_pos h4, if_pos (by rw [decide_eq_true_eq]; omega)]
  rw [if_neg h4, if_neg (by rw [decide_eq_true_eq]; omega)]
  refine iter_then (fun s => g.l.length - s.1.toNat) (fun s => ∃ n : Nat, s.1 = n ∧ n ≤ g.l.length ∧ (∀ p ∈ g.l.take n, badP p = false) ∧ s.2.l = (g.l.take n).map lineP)
    (fun r => (∃ b : GS Str, r = .inl b ∧ (∀ p ∈ g.l, badP p = false) ∧ b.l = g.l.map lineP) ∨ ∃ p, r = .inr ([], (textOf p).2) ∧ g.l.find? badP = some p) ⟨0, rfl, by omega, by simp, rfl⟩ ?_ ?_
  · rintro ⟨s, b⟩ ⟨n, rfl, h1, h2, h3⟩
    dsimp only at h3 ⊢
    by_cases hn : n < g.l.length
    · rw [if_pos (by simpa using hn), idx_nat, List.getElem?_eq_getElem hn]
      have hfit := hf _ (List.getElem_mem hn)
      have ht : pairline_Text g.l[n] = some (textOf g.l[n]) := text_val _ _ hfit.1 hfit.2
      simp only [Option.bind_some, ht]
      by_cases hb : badP g.l[n] = true
      · right
        rw [if_pos (by simpa using badP_true hb)]
        exact ⟨_, rfl, .inr ⟨_, rfl, find_first (List.getElem?_eq_getElem hn) h2 hb⟩⟩
      · left
        have hb' : badP g.l[n] = false := by simpa using hb
        obtain ⟨e, _⟩ := badP_false hb'
        rw [e]
        have hlen : b.l.length = n := by rw [h3, List.length_map, List.length_take]; omega
        rw [apG_one (by unfold most; omega), show (n : Int) + 1 = ((n + 1 : Nat) : Int) by omega, wrapN (by omega)]
        refine ⟨(((n + 1 : Nat) : Int), .mk (b.l ++ [lineP g.l[n]])), by simp, ⟨n + 1, rfl, by omega, fun p hp => ?_, ?_⟩, by dsimp only; omega⟩
        · rw [List.take_succ_eq_append_getElem hn] at hp
          rcases List.mem_append.1 hp with hp | hp
          · exact h2 p hp
          · rw [List.mem_singleton.1 hp]; exact hb'
        · rw [List.take_succ_eq_append_getElem hn, List.map_append, ← h3]; rfl
    · right
      rw [if_neg (by simpa using hn)]
      rw [List.take_of_length_le (by omega)] at h2 h3
      exact ⟨_, rfl, .inl ⟨b, rfl, h2, h3⟩⟩
  · rintro _ (⟨b, rfl, h1, h2⟩ | ⟨p, rfl, h⟩)
    · have hlen : b.l.length = g.l.length := by rw [h2, List.length_map]
      have hfind : g.l.find? badP = none := by rw [List.find?_eq_none]; exact fun x hx => by simp [h1 x hx]
      have hfit := lines_fit h1 (by omega)
      have ht : txt (b.l ++ [[]]) = txt (g.l.map lineP) ++ [10] := by rw [h2, txt_snoc]; simp
      simp only [Sum.elim_inl, hfind]
      rw [apG_one (by unfold most; omega), Option.bind_some, join_val _ (by rw [GS.l_mk, ht]; unfold most; simp; omega), GS.l_mk, ht]
      rfl
    · simp only [Sum.elim_inr, h]

theorem splitB_snoc (c : UInt8) : ∀ m : Str, splitB c (m ++ [c]) = splitB c m ++ [[]]
  | [] => by simp [splitB]
  | x :: m => by
    simp only [List.cons_append, splitB, splitB_snoc c m]
    by_cases hx : x = c
    · rw [if_pos hx, if_pos hx]; rfl
    · rw [if_neg hx, if_neg hx]
      cases e : splitB c m with
      | nil => exact absurd e (splitB_ne m)
      | cons h t => rfl
theorem splitB_no {c : UInt8} : ∀ {l : Str} {x : Str}, x ∈ splitB c l → c ∉ x
  | [], x, h => by simp only [splitB, List.mem_singleton] at h; subst h; simp
  | y :: l, x, h => by
    simp only [splitB] at h
    by_cases hy : y = c
    · rw [if_pos hy] at h
      rcases List.mem_cons.1 h with rfl | h
      · simp
      · exact splitB_no h
    · rw [if_neg hy] at h
      cases e : splitB c l with
      | nil => exact absurd e (splitB_ne l)
      | cons a t =>
        rw [e] at h
        rcases List.mem_cons.1 h with rfl | h
        · simp only [List.mem_cons, not_or]
          exact ⟨fun h => hy h.symm, splitB_no (l := l) (by rw [e]; simp)⟩
        · exact splitB_no (l := l) (by rw [e]; simp [h])

/-- the lines of a block -/
def Body (s : Str) (B : List Str) : Prop := s = txt B ++ [10] ∧ ∀ x ∈ B, x ≠ [] ∧ 10 ∉ x
theorem body_len {s : Str} {B : List Str} (h : Body s B) : ∀ x ∈ B, x.length ≤ s.length := by
  intro x hx
  obtain ⟨a, b, rfl⟩ := List.append_of_mem hx
  rw [h.1, txt_app, txt_cons]
  simp; omega
theorem line_inj {p q : S_pairline_Pair} (e : lineP p = lineP q) (hp : Says (lineP p) p.Key p.Value) (hq : Says (lineP q) q.Key q.Value) : p = q := by
  obtain ⟨h1, h2⟩ := split_uniq e hp.2.1 hq.2.1
  cases p; cases q; simp only at h1 h2; rw [h1, h2]
theorem lines_inj : ∀ {l m : List S_pairline_Pair}, l.map lineP = m.map lineP → (∀ p ∈ l, Says (lineP p) p.Key p.Value) → (∀ p ∈ m, Says (lineP p) p.Key p.Value) → l = m
  | [], [], _, _, _ => rfl
  | p :: l, q :: m, e, h, g => by
    simp only [List.map_cons, List.cons.injEq] at e
    rw [line_inj e.1 (h p List.mem_cons_self) (g q List.mem_cons_self), lines_inj e.2 (fun x hx => h x (List.mem_cons_of_mem _ hx)) fun x hx => g x (List.mem_cons_of_mem _ hx)]
end Go.Proofs.YtobejhpigbllpaaGreatDoor.Am
namespace Go.Proofs.YtobejhpigbllpaaGreatDoor.Am

theorem iter_bind {σ β γ : Type} {F : σ → Option (σ ⊕ β)} {s : σ} {K : β → Option γ} {r : Option γ} (n : Nat) (b : β) (h : iterN F n s = some b) (hk : K b = r) : (iter F s).bind K = r := by
  rw [iter_of h]; exact hk

/-! a number's digits -/
def digsF : Nat → Nat → Str
  | 0, _ => []
  | k + 1, n => if n < 10 then [UInt8.ofNat (48 + n)] else digsF k (n / 10) ++ [UInt8.ofNat (48 + n % 10)]
def digs (n : Nat) : Str := digsF 20 n
theorem digsF_more : ∀ (k n : Nat), n < 10 ^ (k + 1) → digsF (k + 2) n = digsF (k + 1) n
  | 0, n, h => by
    have h : n < 10 := by simpa using h
    simp [digsF, h]
  | k + 1, n, h => by
    by_cases hn : n < 10
    · simp [digsF, hn]
    · have hd : n / 10 < 10 ^ (k + 1) := by
        rw [Nat.div_lt_iff_lt_mul (by decide), ← Nat.pow_succ]; exact h
      have ih := digsF_more k (n / 10) hd
      rw [digsF, if_neg hn, ih]
      conv => rhs; rw [digsF, if_neg hn]
theorem digs_eq {n : Nat} (h : n < 18446744073709551616) : digs n = if n < 10 then [UInt8.ofNat (48 + n)] else digs (n / 10) ++ [UInt8.ofNat (48 + n % 10)] := by
  unfold digs
  rw [digsF_more 18 (n / 10) (by omega)]
  rfl
theorem digsF_len : ∀ (k n : Nat), (digsF k n).length ≤ k
  | 0, _ => by simp [digsF]
  | k + 1, n => by
    rw [digsF]
    split
    · simp
    · simp [digsF_len k]
theorem digs_len (n : Nat) : (digs n).length ≤ 20 := digsF_len 20 n
theorem u64_of {m : Nat} (h : m < 18446744073709551616) : (IT.u64.ofI (m : Int)).toNat = m := by
  show (UInt64.ofNat ((m : Int) % 18446744073709551616).toNat).toNat = m
  rw [show ((m : Int) % 18446744073709551616).toNat = m by omega]
  simp [UInt64.toNat_ofNat, h]
theorem u8_of {m : Nat} (h : m < 256) : IT.u8.ofI (m : Int) = UInt8.ofNat m := by
  show UInt8.ofNat ((m : Int) % 256).toNat = _
  rw [show ((m : Int) % 256).toNat = m by omega]
theorem r03_r : ∀ (k : Nat) (a : UInt64), (r03_Text_r k a = none ∨ r03_Text_r k a = some (digs a.toNat)) ∧ (a.toNat < 10 ^ (k + 1) → r03_Text_r (k + 1) a = some (digs a.toNat)) := by
  have step : ∀ (k : Nat) (a : UInt64), r03_Text_r (k + 1) a = if a.toNat < 10 then some (digs a.toNat) else (r03_Text_r k (IT.u64.ofI ((a.toNat / 10 : Nat) : Int))).bind fun x => if x.length + 1 ≤ 2 * most then some (x ++ [UInt8.ofNat (48 + a.toNat % 10)]) else none := by
    intro k a
    have ha := a.toNat_lt
    have e10 : ((10 : UInt64).toNat : Int) = ((10 : Nat) : Int) := rfl
    have e48 : ((48 : UInt64).toNat : Int) = ((48 : Nat) : Int) := rfl
    have hm : (IT.u64.ofI (Int.tmod (a.toNat : Int) ((10 : Nat) : Int))).toNat = a.toNat % 10 := by
      rw [← Int.ofNat_tmod, u64_of (by omega)]
    have h48 : (IT.u64.ofI (((48 : Nat) : Int) + ((a.toNat % 10 : Nat) : Int))).toNat = 48 + a.toNat % 10 := by
      rw [show (((48 : Nat) : Int) + ((a.toNat % 10 : Nat) : Int)) = ((48 + a.toNat % 10 : Nat) : Int) by omega, u64_of (by omega)]
    rw [r03_Text_r, e10, if_neg (by decide), Option.bind_some]
    simp only [e48, hm, h48]
    rw [u8_of (by omega)]
    by_cases hl : a.toNat < 10
    · rw [if_pos (by rw [decide_eq_true_eq]; omega), if_pos hl, digs_eq (by omega), if_pos hl, show 48 + a.toNat % 10 = 48 + a.toNat by omega]
    · rw [if_neg (by rw [decide_eq_true_eq]; omega), if_neg hl, if_neg (by decide), Option.bind_some, ← Int.ofNat_tdiv]
      cases r03_Text_r k (IT.u64.ofI ((a.toNat / 10 : Nat) : Int)) with
      | none => rfl
      | some x => simp [Option.bind_some]
  have fin : ∀ (k : Nat) (a : UInt64), ¬ a.toNat < 10 → r03_Text_r k (IT.u64.ofI ((a.toNat / 10 : Nat) : Int)) = some (digs (IT.u64.ofI ((a.toNat / 10 : Nat) : Int)).toNat) → r03_Text_r (k + 1) a = some (digs a.toNat) := by
    intro k a hl e
    have ha := a.toNat_lt
    rw [step, if_neg hl, e, u64_of (by omega), Option.bind_some, if_pos (by have := digs_len (a.toNat / 10); unfold most; omega)]
    conv => rhs; rw [digs_eq (by omega), if_neg hl]
  intro k
  induction k with
  | zero =>
    intro a
    refine ⟨.inl rfl, fun h => ?_⟩
    rw [step, if_pos (by simpa using h)]
  | succ k ih =>
    intro a
    have ha := a.toNat_lt
    refine ⟨?_, fun h => ?_⟩
    · by_cases hl : a.toNat < 10
      · right; rw [step, if_pos hl]
      · rcases (ih (IT.u64.ofI ((a.toNat / 10 : Nat) : Int))).1 with e | e
        · left; rw [step, if_neg hl, e]; rfl
        · right; exact fin k a hl e
    · by_cases hl : a.toNat < 10
      · rw [step, if_pos hl]
      · refine fin (k + 1) a hl ((ih _).2 ?_)
        rw [u64_of (by omega), Nat.div_lt_iff_lt_mul (by decide), ← Nat.pow_succ]
        exact h
theorem r03_val (a : UInt64) : r03_Text a = some (digs a.toNat) :=
  fuelO_eq (fun n => (r03_r n a).1) ((r03_r 19 a).2 (by have := a.toNat_lt; omega))

/-! fields that are pairs -/
def gOf {α : Type} : List α → GS α
  | [] => .nil
  | x :: l => .mk (x :: l)
theorem gOf_l {α : Type} : ∀ l : List α, (gOf l).l = l
  | [] => rfl
  | _ :: _ => rfl
theorem gOf_snoc {α : Type} : ∀ (l : List α) (x : α), gOf (l ++ [x]) = .mk (l ++ [x])
  | [], _ => rfl
  | _ :: _, _ => rfl
theorem pairs_val (l : GS S_api_Field) (ps : List (S_pairline_Pair × Int)) (h : l.l.map field_Pair = ps.map some) (hl : l.l.length < 1000000000) : getres_pairs l = some (gOf (ps.map (·.1))) := by
  have hlen : l.l.length = ps.length := by have := congrArg List.length h; simpa using this
  unfold getres_pairs
  refine iter_then (fun s => l.l.length - s.1.toNat) (fun s => ∃ n : Nat, s.1 = n ∧ n ≤ l.l.length ∧ s.2 = gOf ((ps.take n).map (·.1))) (fun r => r = .inl (gOf (ps.map (·.1)))) ⟨0, rfl, by omega, rfl⟩ ?_ ?_
  rotate_left
  · rintro _ rfl; rfl
  · rintro ⟨s, b⟩ ⟨n, rfl, h1, h2⟩
    dsimp only at h2 ⊢
    subst h2
    by_cases hn : n < l.l.length
    · rw [if_pos (by simpa using hn), idx_nat, List.getElem?_eq_getElem hn]
      have hp : field_Pair l.l[n] = some (ps[n]'(by omega)) := by
        have := congrArg (fun x => x[n]?) h
        simp only [List.getElem?_map, List.getElem?_eq_getElem hn, List.getElem?_eq_getElem (show n < ps.length by omega), Option.map_some, Option.some.injEq] at this
        exact this
      have hbl : (gOf ((ps.take n).map (·.1))).l.length = n := by rw [gOf_l, List.length_map, List.length_take]; omega
      left
      simp only [Option.bind_some, hp]
      rw [apG_one (by unfold most; omega), show (n : Int) + 1 = ((n + 1 : Nat) : Int) by omega, wrapN (by omega)]
      refine ⟨_, rfl, ⟨n + 1, rfl, by omega, ?_⟩, by dsimp only; omega⟩
      rw [List.take_succ_eq_append_getElem (by omega), List.map_append, gOf_l]
      exact (gOf_snoc _ _).symm
    · right
      rw [if_neg (by simpa using hn)]
      exact ⟨_, rfl, by rw [List.take_of_length_le (by omega)]⟩

def errF (n : Nat) : S_api_Field := ⟨16, (T.arr 32 T.u8).z, UInt64.ofNat n, T_api_Endpoint.z, T_api_Prefix.z⟩
def errP (n : Nat) : S_pairline_Pair := ⟨[101, 114, 114, 110, 111], digs n⟩
theorem pair_err : ∀ n : Fin 21, field_Pair (errF n.1) = some (errP n.1, 0) := by decide +kernel
/-! the text of an error -/
def fitB (l : List S_pairline_Pair) : Bool := l.all fun p => decide (p.Key.length < 1073741824) && decide (p.Value.length < 1073741824)
theorem fitB_spec {l : List S_pairline_Pair} (h : fitB l = true) : FitP l := by
  intro p hp
  have := List.all_eq_true.1 h p hp
  simpa using this
theorem block_of {g : GS S_pairline_Pair} {r : Str × Int} (hf : fitB g.l = true) (h : blockP g.l = r) : pairline_Block g = some r := by
  rw [block_val g (fitB_spec hf), h]
def refu (n : Nat) : Str := [101, 114, 114, 110, 111, 61] ++ digs n ++ [10, 10]
theorem blocks_err : ∀ n : Fin 21, fitB [errP n.1] = true ∧ blockP [errP n.1] = (refu n.1, 0) := by decide +kernel
theorem refusal_in {n : Nat} (h : n < 21) : getres_Refusal (n : Int) = some (refu n) := by
  have h1 := pair_err ⟨n, h⟩
  have h2 := blocks_err ⟨n, h⟩
  have e : (IT.u64.ofI (n : Int)) = UInt64.ofNat n := by
    show UInt64.ofNat ((n : Int) % 18446744073709551616).toNat = _
    rw [show ((n : Int) % 18446744073709551616).toNat = n by omega]
  unfold getres_Refusal
  have ho : orO (decide ((n : Int) < 0)) (some (decide (20 < (n : Int)))) = some false := by
    rw [decide_eq_false (by omega), decide_eq_false (by omega)]; rfl
  have hp : getres_pairs (GS.mk [(⟨16, (T.arr 32 T.u8).z, IT.u64.ofI (n : Int), T_api_Endpoint.z, T_api_Prefix.z⟩ : S_api_Field)]) = some (.mk [errP n]) := by
    have e2 : (⟨16, (T.arr 32 T.u8).z, IT.u64.ofI (n : Int), T_api_Endpoint.z, T_api_Prefix.z⟩ : S_api_Field) = errF n := congrArg (fun x => (⟨16, (T.arr 32 T.u8).z, x, T_api_Endpoint.z, T_api_Prefix.z⟩ : S_api_Field)) e
    rw [e2]
    exact pairs_val (.mk [errF n]) [(errP n, 0)] (by simp only [GS.l_mk, List.map_cons, List.map_nil]; exact congrArg (fun x => [x]) h1) (by simp)
  have hb : pairline_Block (.mk [errP n]) = some (refu n, 0) := block_of h2.1 h2.2
  simp only [ho, Option.bind_some, Bool.false_eq_true, if_false, hp, hb]
theorem r39_in {n : Nat} (h : n < 21) : r39_Refusal (n : Int) = some (refu n) := by
  unfold r39_Refusal
  have ho : orO (decide ((n : Int) < 0)) (some (decide (20 < (n : Int)))) = some false := by
    rw [decide_eq_false (by omega), decide_eq_false (by omega)]; rfl
  have hd := digs_len n
  have hv : r03_Text (IT.u64.ofI (n : Int)) = some (digs n) := by
    have := r03_val (IT.u64.ofI (n : Int))
    rw [u64_of (show n < 18446744073709551616 by omega)] at this
    exact this
  simp only [ho, Option.bind_some, Bool.false_eq_true, if_false, hv]
  rw [if_pos (by unfold most; simp; omega)]
  simp only [Option.bind_some]
  rw [if_pos (by unfold most; simp; omega)]
  rfl
theorem refusal_out {e : Int} (h : e < 0 ∨ 20 < e) : getres_Refusal e = getres_Refusal 1 ∧ r39_Refusal e = r39_Refusal 1 := by
  have ho : orO (decide (e < 0)) (some (decide (20 < e))) = some true := by
    rcases h with h | h
    · rw [decide_eq_true h]; rfl
    · rw [decide_eq_true h]; cases decide (e < 0) <;> rfl
  have ho1 : orO (decide ((1 : Int) < 0)) (some (decide (20 < (1 : Int)))) = some false := by decide
  constructor
  · unfold getres_Refusal; simp only [ho, ho1, Option.bind_some, if_true, Bool.false_eq_true, if_false]
  · unfold r39_Refusal; simp only [ho, ho1, Option.bind_some, if_true, Bool.false_eq_true, if_false]
theorem refusal_both (e : Int) : ∃ s, getres_Refusal e = some s ∧ r39_Refusal e = some s := by
  by_cases h : e < 0 ∨ 20 < e
  · obtain ⟨h1, h2⟩ := refusal_out h
    exact ⟨_, h1.trans (refusal_in (n := 1) (by omega)), h2.trans (r39_in (n := 1) (by omega))⟩
  · obtain ⟨n, rfl⟩ : ∃ n : Nat, e = n := ⟨e.toNat, by omega⟩
    exact ⟨_, refusal_in (by omega), r39_in (by omega)⟩

/-! a configuration without anything -/
def conf0 : S_api_Conf := ⟨(T.arr 32 T.u8).z, 0, 0, .nil⟩
def zeros : Str := List.replicate 64 48
theorem hex_zero : hexes_Encode (.mk (List.replicate 32 0)) = some zeros := by
  unfold hexes_Encode
  exact iter_bind 33 (.inl zeros) (by decide +kernel) (by decide +kernel)
theorem right0 : view_Right conf0 = some true := by
  unfold view_Right
  have h1 : view_short conf0.Port = some true := by decide +kernel
  simp only [h1, Option.bind_some]
  exact iter_bind 1 (.inl []) (by decide +kernel) (by decide +kernel)
def keyF : S_api_Field := ⟨1, (T.arr 32 T.u8).z, 0, T_api_Endpoint.z, T_api_Prefix.z⟩
def keyP : S_pairline_Pair := ⟨[112, 114, 105, 118, 97, 116, 101, 95, 107, 101, 121], zeros⟩
theorem hexK : keys_Hex keyF.Key = some zeros := by
  have h : frzO keyF.Key.l 0 32 32 = some (.mk (List.replicate 32 0)) := by decide +kernel
  unfold keys_Hex
  simp only [h, Option.bind_some, hex_zero]
theorem keyed2 : field_keyed_2 keyF = some (zeros, true) := by
  unfold field_keyed_2; simp only [hexK, Option.bind_some]
theorem pair_key : field_Pair keyF = some (keyP, 0) := by
  have hn : field_Name keyF.Word = some [112, 114, 105, 118, 97, 116, 101, 95, 107, 101, 121] := by decide +kernel
  have h3 : field_keyed_3 keyF = some keyF := by decide +kernel
  have hc : cmpB C_api_Field keyF (⟨keyF.Word, (T.arr 32 T.u8).z, 0, T_api_Endpoint.z, T_api_Prefix.z⟩ : S_api_Field) = true := by decide +kernel
  have h1 : decide (keyF.Word = 1) = true := rfl
  have hr : field_Right keyF = some true := by
    unfold field_Right
    simp only [hn, h1, Option.bind_some, keyed2, h3, hc, if_true, Sum.elim_inl]
    rfl
  unfold field_Pair
  simp only [hr, hn, h1, Option.bind_some, keyed2, if_true, Sum.elim_inl]
  rfl
def portF : S_api_Field := ⟨2, (T.arr 32 T.u8).z, 0, T_api_Endpoint.z, T_api_Prefix.z⟩
def portP : S_pairline_Pair := ⟨[108, 105, 115, 116, 101, 110, 95, 112, 111, 114, 116], [48]⟩
def markF : S_api_Field := ⟨3, (T.arr 32 T.u8).z, 0, T_api_Endpoint.z, T_api_Prefix.z⟩
def markP : S_pairline_Pair := ⟨[102, 119, 109, 97, 114, 107], [48]⟩
theorem pair_port : field_Pair portF = some (portP, 0) := by decide +kernel
theorem pair_mark : field_Pair markF = some (markP, 0) := by decide +kernel
def text0 : Str := lineP keyP ++ [10] ++ lineP portP ++ [10] ++ lineP markP ++ [10] ++ lineP (errP 0) ++ [10, 10]
theorem block0 : fitB [keyP, portP, markP, errP 0] = true ∧ blockP [keyP, portP, markP, errP 0] = (text0, 0) := by decide +kernel
theorem text0_val : getres_Text conf0 = some (text0, 0) := by
  have e0 : errF 0 = (⟨16, (T.arr 32 T.u8).z, 0, T_api_Endpoint.z, T_api_Prefix.z⟩ : S_api_Field) := rfl
  unfold getres_Text
  simp only [right0, Option.bind_some, Bool.not_true, Bool.false_eq_true, if_false]
  refine iter_bind 1 (.inl (.mk [keyF, portF, markF])) rfl ?_
  simp only [Sum.elim_inl, ← e0]
  rw [apG_one (by unfold most; simp), Option.bind_some]
  rw [pairs_val _ [(keyP, 0), (portP, 0), (markP, 0), (errP 0, 0)] (by simp only [GS.l_mk, List.map_append, List.map_cons, List.map_nil, pair_key, pair_port, pair_mark, List.cons_append, List.nil_append]; rw [pair_err ⟨0, by decide⟩]) (by simp)]
  simp only [Option.bind_some, List.map_cons, List.map_nil, gOf]
  rw [block_of (g := .mk [keyP, portP, markP, errP 0]) block0.1 block0.2]
  rfl
theorem l39_alive_val : l39_alive () = some true := by
  have hl : ∃ g, r06_Loose text0 = some g ∧ (g.l.length : Int) = 5 := by
    have hp := r06_parts_val text0 10 (by decide +kernel)
    have h6 : (splitB 10 text0).length = 6 ∧ (splitB 10 text0)[5]? = some [] := by decide +kernel
    unfold r06_Loose
    simp only [hp, Option.bind_some, GS.l_mk]
    have hw : IntKind.i64.wrap (((splitB 10 text0).length : Int) - 1) = ((5 : Nat) : Int) := by rw [h6.1]; decide
    rw [hw, idx_nat, h6.2, slG_to (by omega)]
    exact ⟨_, rfl, by simp [h6.1]⟩
  obtain ⟨g, hg, h5⟩ := hl
  unfold l39_alive
  have e : (⟨(T.arr 32 T.u8).z, 0, 0, .nil⟩ : S_api_Conf) = conf0 := rfl
  have h7 : getres_Refusal 7 = some (refu 7) := refusal_in (n := 7) (by omega)
  rw [e, text0_val]
  simp only [Option.bind_some, hg, h5, h7]
  decide +kernel
theorem plain_GetresRefuses (e : Int) : l39_GetresRefuses e = some true := by
  obtain ⟨s, h1, h2⟩ := refusal_both e
  unfold l39_GetresRefuses
  simp only [h1, h2, l39_alive_val, Option.bind_some, andO, decide_true, if_true]
end Go.Proofs.YtobejhpigbllpaaGreatDoor.Am
