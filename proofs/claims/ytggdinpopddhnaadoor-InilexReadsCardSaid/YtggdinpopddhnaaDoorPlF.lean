/-
  Plain laws: a text's lines with and without an end; the law InilexReads.
-/
import Derived.Test.YtggdinpopddhnaaDoorPlE
namespace Go.Proofs.YtggdinpopddhnaaDoor.Am

/-- two loops side by side -/
theorem iter_rel {σ τ β γ : Type} {F : σ → Option (σ ⊕ β)} {G : τ → Option (τ ⊕ γ)} (m : σ → Nat) (R : σ → τ → Prop) (Q : β → γ → Prop)
    (step : ∀ s t, R s t → (∃ s' t', F s = some (.inl s') ∧ G t = some (.inl t') ∧ R s' t' ∧ m s' < m s) ∨ ∃ b c, F s = some (.inr b) ∧ G t = some (.inr c) ∧ Q b c) {s : σ} {t : τ} (h : R s t) :
    ∃ b c, iter F s = some b ∧ iter G t = some c ∧ Q b c := by
  have key : ∀ n s t, m s < n → R s t → ∃ b c, iter F s = some b ∧ iter G t = some c ∧ Q b c := by
    intro n
    induction n with
    | zero => intro s t h; omega
    | succ n ih =>
      intro s t h hR
      rcases step s t hR with ⟨s', t', e1, e2, hR', hm⟩ | ⟨b, c, e1, e2, hq⟩
      · rw [iter_next e1, iter_next e2]; exact ih s' t' (by omega) hR'
      · exact ⟨b, c, iter_last e1, iter_last e2, hq⟩
  exact key _ s t (Nat.lt_succ_self _) h

theorem splitB_last (c : UInt8) : ∀ l : Str, ∃ init last pre, splitB c l = init ++ [last] ∧ l = pre ++ last ∧ c ∉ last ∧ ((pre = [] ∧ init = []) ∨ ∃ m, pre = m ++ [c] ∧ init = splitB c m)
  | [] => ⟨[], [], [], rfl, rfl, by simp, .inl ⟨rfl, rfl⟩⟩
  | x :: l => by
    obtain ⟨init, last, pre, h1, h2, h3, h4⟩ := splitB_last c l
    by_cases hx : x = c
    · subst hx
      refine ⟨[] :: init, last, x :: pre, by simp [splitB, h1], by rw [h2]; rfl, h3, .inr ?_⟩
      rcases h4 with ⟨rfl, rfl⟩ | ⟨m, rfl, rfl⟩
      · exact ⟨[], rfl, rfl⟩
      · exact ⟨x :: m, rfl, by simp [splitB]⟩
    · rcases h4 with ⟨rfl, rfl⟩ | ⟨m, rfl, rfl⟩
      · refine ⟨[], x :: last, [], ?_, by rw [h2]; rfl, ?_, .inl ⟨rfl, rfl⟩⟩
        · simp only [List.nil_append] at h1
          simp [splitB, hx, h1]
        · simp only [List.mem_cons, not_or]; exact ⟨Ne.symm hx, h3⟩
      · have hm := splitB_ne (c := c) m
        cases hs : splitB c m with
        | nil => exact absurd hs hm
        | cons h t =>
          rw [hs] at h1
          refine ⟨(x :: h) :: t, last, x :: (m ++ [c]), ?_, by rw [h2]; rfl, h3, .inr ⟨x :: m, rfl, ?_⟩⟩
          · simp [splitB, hx, h1]
          · simp [splitB, hx, hs]

theorem loose_both (s : Str) (hl : s.length < 1073741823) : ∃ g g', lines_Loose s = some g ∧ r06_Loose s = some g' ∧ g.l = g'.l ∧ g.l.length ≤ s.length + 1 := by
  obtain ⟨init, last, pre, h1, h2, h3, h4⟩ := splitB_last 10 s
  have hle := splitB_le (c := 10) s
  rw [h1, List.length_append, List.length_singleton] at hle
  have hr : r06_Loose s = if last = [] then some (.mk init) else some (.mk (init ++ [last])) := by
    unfold r06_Loose
    simp only [r06_parts_val s 10 (by omega), h1, Option.bind_some]
    have hn : ((GS.mk (init ++ [last])).l.length : Int) - 1 = (init.length : Nat) := by simp
    rw [hn, wrapN (by omega)]
    have hi : idx (GS.mk (init ++ [last])).l ((init.length : Nat) : Int) = some last := by
      rw [idx_nat]; simp
    rw [hi, slG_to (by simp)]
    simp only [Option.bind_some, List.take_left']
    by_cases h : last = []
    · rw [if_pos h, if_pos (by simpa using h)]
    · rw [if_neg h, if_neg (by simpa using h)]
  by_cases h : last = []
  · rw [if_pos h] at hr
    subst h
    rw [List.append_nil] at h2
    subst h2
    rcases h4 with ⟨rfl, rfl⟩ | ⟨m, rfl, rfl⟩
    · exact ⟨.nil, _, by simp [lines_Loose], hr, rfl, by simp⟩
    · simp only [List.length_append, List.length_cons, List.length_nil] at hl
      exact ⟨_, _, loose_val m (by omega), hr, rfl, by simp only [GS.l_mk]; omega⟩
  · rw [if_neg h] at hr
    refine ⟨_, _, loose_none s hl ?_ ?_, hr, by rw [h1], by rw [h1]; simp; omega⟩
    · intro e
      have := congrArg List.length h2
      rw [e, List.length_append, List.length_nil] at this
      exact h (List.eq_nil_of_length_eq_zero (by omega))
    · intro m e
      rcases snoc_cases last with e' | ⟨q, x, e'⟩
      · exact h e'
      · rw [e', e, ← List.append_assoc] at h2
        have := List.append_inj_right' h2 rfl
        simp only [List.cons.injEq, and_true] at this
        exact h3 (by rw [e', ← this]; simp)

/-- what stands ahead of a byte -/
theorem head_both (l : Str) (c : UInt8) (hl : l.length < 1073741824) : ∃ h r f t, lines_Cut l c = some (h, r, f) ∧ r06_Parts l c = some (.mk (h :: t)) ∧ ((f = false ∧ h = l ∧ r = []) ∨ (f = true ∧ l = h ++ c :: r)) := by
  rw [r06_parts_val l c hl]
  rcases cut_val l c (by omega) with ⟨hn, e⟩ | ⟨p, q, rfl, hn, e⟩
  · exact ⟨l, [], false, [], e, by rw [splitB_none hn], .inl ⟨rfl, rfl, rfl⟩⟩
  · exact ⟨p, q, true, _, e, by rw [splitB_app hn], .inr ⟨rfl, rfl⟩⟩
theorem trim_le (l : Str) : (trimL (trimR l)).length ≤ l.length := by
  have h1 := trimR_le l
  have h2 : (trimL (trimR l)).length ≤ (trimR l).length := (List.dropWhile_sublist blk (l := trimR l)).length_le
  omega
theorem said_val (l : Str) (hl : l.length < 1073741824) : ∃ h r f t, lines_Cut l 35 = some (h, r, f) ∧ lines_Trim h = some t ∧ r42_said l = some t ∧ t.length ≤ l.length := by
  obtain ⟨h, r, f, q, e1, e2, h3⟩ := head_both l 35 hl
  have hh : h.length ≤ l.length := by
    rcases h3 with ⟨_, rfl, _⟩ | ⟨_, rfl⟩
    · exact Nat.le_refl _
    · simp
  have ht := trim_le h
  refine ⟨h, r, f, _, e1, trim_val h (by omega), ?_, by omega⟩
  have i0 : idx (GS.mk (h :: q)).l 0 = some h := rfl
  simp only [r42_said, e2, Option.bind_some, i0, r06_trim_val h (by omega), trim_comm]

theorem prefix_val (x c : UInt8) (l : Str) : internal_stringslite_HasPrefix (x :: l) [c] = some (decide (x = c)) := by
  have hs : subL (x :: l) none (some ((([c] : Str).length : Nat) : Int)) = some [x] := by
    rw [subL_to (by simp)]; simp
  simp only [internal_stringslite_HasPrefix, hs, Option.bind_some, andO]
  rw [if_pos (by simp; omega)]
  simp
theorem suffix_val' (m : Str) (x c : UInt8) (hl : m.length < 4611686018427387900) : internal_stringslite_HasSuffix (m ++ [x]) [c] = some (decide (x = c)) := by
  have h := suffix_val (m ++ [x]) c (by simp; omega)
  simp only [strings_HasSuffix] at h
  cases hh : internal_stringslite_HasSuffix (m ++ [x]) [c] with
  | none => rw [hh] at h; simp at h
  | some b =>
    rw [hh] at h
    simp only [Option.bind_some, Option.some.injEq] at h
    rcases h with ⟨⟨m', e⟩, rfl⟩ | ⟨e, rfl⟩
    · have := List.append_inj_right' e rfl
      simp only [List.cons.injEq, and_true] at this
      simp [this]
    · have : x ≠ c := fun hx => e m (by rw [hx])
      simp [this]

theorem say_val (t : Str) (h0 : t ≠ []) (hl : t.length < 1073741824) : ∃ a n v b, inilex_say t = some (⟨a, n, v, 0⟩, b) ∧ r42_one t = some (⟨a, n, v, 0⟩, b) := by
  obtain ⟨x, l, rfl⟩ : ∃ x l, t = x :: l := by
    cases t with
    | nil => exact absurd rfl h0
    | cons x l => exact ⟨x, l, rfl⟩
  have hdec : decide ((x.toNat : Int) = ((91 : UInt8).toNat : Int)) = decide (x = 91) := by
    rw [Bool.eq_iff_iff]; simp only [decide_eq_true_eq, ← UInt8.toNat_inj]; omega
  have i0 : idx (x :: l) 0 = some x := rfl
  simp only [List.length_cons] at hl
  by_cases hx : x = 91
  · subst hx
    have hpre : strings_HasPrefix (91 :: l) [91] = some true := by simp [strings_HasPrefix, prefix_val]
    have hlast : idx (91 :: l) (IntKind.i64.wrap (((91 :: l : Str).length : Int) - 1)) = (91 :: l : Str)[l.length]? := by
      rw [show ((91 :: l : Str).length : Int) - 1 = (l.length : Nat) by simp, wrapN (by omega), idx_nat]
    rcases snoc_cases l with rfl | ⟨m, y, rfl⟩
    · refine ⟨false, [], [], false, ?_, ?_⟩
      · have : internal_stringslite_HasSuffix ([] ++ [91]) [93] = some (decide ((91 : UInt8) = 93)) := suffix_val' [] 91 93 (by simp)
        simp only [List.nil_append] at this
        simp [inilex_say, hpre, inilex_section, strings_CutSuffix, internal_stringslite_CutSuffix, this]
      · simp [r42_one, idx]
        rfl
    · simp only [List.length_append, List.length_cons, List.length_nil] at hl
      have hs : internal_stringslite_HasSuffix (91 :: (m ++ [y])) [93] = some (decide (y = 93)) := suffix_val' (91 :: m) y 93 (by simp; omega)
      have hget : (91 :: (m ++ [y]) : Str)[(m ++ [y]).length]? = some y := by simp
      have hy : decide ((y.toNat : Int) = ((93 : UInt8).toNat : Int)) = decide (y = 93) := by
        rw [Bool.eq_iff_iff]; simp only [decide_eq_true_eq, ← UInt8.toNat_inj]; omega
      have hcut : strings_CutSuffix (91 :: (m ++ [y])) [93] = some (if y = 93 then (91 :: m, true) else (91 :: (m ++ [y]), false)) := by
        simp only [strings_CutSuffix, internal_stringslite_CutSuffix, hs, Option.bind_some]
        by_cases h : y = 93
        · have e : ((91 :: (m ++ [y]) : Str).length : Int) - (([93] : Str).length : Int) = ((91 :: m : Str).length : Nat) := by simp
          have e2 : (91 :: (m ++ [y]) : Str).take (91 :: m : Str).length = 91 :: m := by simp
          rw [e, wrapN (by simp; omega), subL_to (by simp), e2]
          simp [h]
        · simp [h]
      by_cases h : y = 93
      · have htp : strings_TrimPrefix (91 :: m) [91] = some m := by
          have e : subL (91 :: m : Str) (some ((([91] : Str).length : Nat) : Int)) none = some m := by rw [subL_from (by simp)]; simp
          simp only [strings_TrimPrefix, internal_stringslite_TrimPrefix, prefix_val, e, Option.bind_some, decide_true, if_true]
        have hmid : subL (91 :: (m ++ [y]) : Str) (some 1) (some (IntKind.i64.wrap (((91 :: (m ++ [y]) : Str).length : Int) - 1))) = some m := by
          rw [show ((91 :: (m ++ [y]) : Str).length : Int) - 1 = ((m.length + 1 : Nat) : Int) by simp, wrapN (by omega)]
          have := subL_mid (l := (91 :: (m ++ [y]) : Str)) (m := 1) (n := m.length + 1) (by omega) (by simp)
          have e : ((91 :: (m ++ [y]) : Str).take (m.length + 1)).drop 1 = m := by simp
          rw [e] at this
          exact this
        have htl := trim_le m
        refine ⟨true, (trimL (trimR m)).map fold, [], !decide (trimL (trimR m) = []), ?_, ?_⟩
        · simp only [inilex_say, hpre, inilex_section, hcut, if_pos h, Option.bind_some, if_true, Bool.not_true, Bool.false_eq_true, if_false, htp, trim_val m (by omega), fold_val _ (show (trimL (trimR m)).length < 1073741824 by omega)]
        · have hyt : decide (y = 93) = true := decide_eq_true h
          simp only [r42_one, i0, hlast, hget, hy, hyt, hmid, Option.bind_some, decide_true, if_true, Bool.not_true, Bool.false_eq_true, if_false, r06_trim_val m (by omega), ← trim_comm, r06_fold_val _ (show (trimL (trimR m)).length < 1073741824 by omega)]
      · refine ⟨false, [], [], false, ?_, ?_⟩
        · simp only [inilex_say, hpre, inilex_section, hcut, if_neg h, Option.bind_some, if_true, Bool.not_false]
        · simp only [r42_one, i0, hlast, hget, hy, h, Option.bind_some, decide_true, decide_false, if_true, Bool.not_false]
  · have hpre : strings_HasPrefix (x :: l) [91] = some false := by simp [strings_HasPrefix, prefix_val, hx]
    obtain ⟨h, r, f, q, e1, e2, h3⟩ := head_both (x :: l) 61 (by simp; omega)
    have hlen : (x :: l).length = l.length + 1 := rfl
    have hh : h.length ≤ l.length + 1 ∧ r.length ≤ l.length + 1 ∧ (decide ((h.length : Int) = ((x :: l).length : Int)) = !f) := by
      rcases h3 with ⟨rfl, rfl, rfl⟩ | ⟨rfl, e⟩
      · simp
      · have := congrArg List.length e
        simp only [List.length_append, List.length_cons] at this
        refine ⟨by omega, by omega, ?_⟩
        have hne : ¬ (h.length : Int) = ((x :: l).length : Int) := by rw [hlen]; omega
        rw [decide_eq_false hne]; rfl
    have ht1 := trim_le h
    have ht2 := trim_le r
    have ih : idx (GS.mk (h :: q)).l 0 = some h := rfl
    have hd : decide (x = 91) = false := by simpa using hx
    by_cases hc : f = true ∧ trimL (trimR h) ≠ []
    · obtain ⟨rfl, hne⟩ := hc
      have e3 : x :: l = h ++ 61 :: r := by
        rcases h3 with ⟨h, _⟩ | ⟨_, h⟩
        · cases h
        · exact h
      have hsub : subL (x :: l) (some (IntKind.i64.wrap ((h.length : Int) + 1))) none = some r := by
        have hpl : (h ++ 61 :: r).length = h.length + (r.length + 1) := by simp
        rw [e3, show (h.length : Int) + 1 = ((h.length + 1 : Nat) : Int) by omega, wrapN (by omega), subL_from (by omega), drop_at]
      refine ⟨false, (trimL (trimR h)).map fold, trimL (trimR r), true, ?_, ?_⟩
      · simp only [inilex_say, hpre, inilex_pair, e1, Option.bind_some, Bool.false_eq_true, if_false, trim_val h (by omega), trim_val r (by omega), fold_val _ (show (trimL (trimR h)).length < 1073741824 by omega), Bool.not_true, orO, hne, decide_false]
      · simp only [r42_one, i0, hdec, hd, e2, ih, Option.bind_some, Bool.false_eq_true, if_false, r06_trim_val h (by omega), r06_trim_val r (by omega), ← trim_comm, r06_fold_val _ (show (trimL (trimR h)).length < 1073741824 by omega), hh.2.2, Bool.not_true, orO, hne, decide_false, hsub]
    · refine ⟨false, [], [], false, ?_, ?_⟩
      · simp only [inilex_say, hpre, inilex_pair, e1, Option.bind_some, Bool.false_eq_true, if_false, trim_val h (by omega), orO]
        cases f with
        | false => simp
        | true =>
          have : trimL (trimR h) = [] := Classical.byContradiction fun e => hc ⟨rfl, e⟩
          simp [this]
      · simp only [r42_one, i0, hdec, hd, e2, ih, Option.bind_some, Bool.false_eq_true, if_false, r06_trim_val h (by omega), ← trim_comm, hh.2.2, orO]
        cases f with
        | false => simp
        | true =>
          have : trimL (trimR h) = [] := Classical.byContradiction fun e => hc ⟨rfl, e⟩
          simp [this]

def SameI (a : S_inilex_Item) (b : S_r42_Item) : Prop := a.Section = b.Section ∧ a.Name = b.Name ∧ a.Value = b.Value ∧ a.Line = b.Line
def SameL : List S_inilex_Item → List S_r42_Item → Prop
  | [], [] => True
  | a :: l, b :: m => SameI a b ∧ SameL l m
  | _, _ => False
theorem SameL.length : ∀ {l : List S_inilex_Item} {m : List S_r42_Item}, SameL l m → l.length = m.length
  | [], [], _ => rfl
  | _ :: _, _ :: _, h => by simp [SameL.length h.2]
theorem SameL.get : ∀ {l : List S_inilex_Item} {m : List S_r42_Item} {i : Nat}, SameL l m → i < l.length → ∃ a b, l[i]? = some a ∧ m[i]? = some b ∧ SameI a b
  | a :: l, b :: m, 0, h, _ => ⟨a, b, rfl, rfl, h.1⟩
  | _ :: l, _ :: m, i + 1, h, hi => by
    obtain ⟨a, b, h1, h2, h3⟩ := SameL.get (i := i) h.2 (by simpa using hi)
    exact ⟨a, b, by simpa using h1, by simpa using h2, h3⟩
theorem SameL.snoc {a : S_inilex_Item} {b : S_r42_Item} (k : SameI a b) : ∀ {l : List S_inilex_Item} {m : List S_r42_Item}, SameL l m → SameL (l ++ [a]) (m ++ [b])
  | [], [], _ => ⟨k, trivial⟩
  | _ :: _, _ :: _, h => ⟨h.1, SameL.snoc k h.2⟩

theorem lex_both (s : Str) (hl : s.length ≤ 2000) : ∃ g h a e, inilex_Lex s = some (g, a, e) ∧ r42_Lex s = some (h, a, e) ∧ SameL g.l h.l ∧ g.l.length ≤ 400 := by
  obtain ⟨u, u', e1, e2, he, hn⟩ := loose_both s (by omega)
  unfold inilex_Lex r42_Lex
  simp only [e1, e2, Option.bind_some]
  rw [← he]
  have hlen : (u.l.length : Int) ≤ 2001 := by omega
  obtain ⟨b, c, f1, f2, hq⟩ := iter_rel (F := fun (s3 : (Int × (GS S_inilex_Item))) =>
     if (decide (s3.1 < (u.l.length : Int))) = true then
     (orO (decide (400 ≤ s3.1)) ((idx u.l s3.1).bind fun x7 =>
     some (decide (512 < (x7.length : Int))))).bind fun x11 =>
     if x11 = true then
     (some (.nil, IntKind.i64.wrap (s3.1 + 1), 4)).map fun r => .inr (.inr r)
     else
     (idx u.l s3.1).bind fun x13 =>
     (lines_Cut x13 (35 : UInt8)).bind fun x15 =>
     (lines_Trim x15.1).bind fun x19 =>
     if (decide (x19 = [])) = true then
     some (.inl (IntKind.i64.wrap (s3.1 + 1), s3.2))
     else
     (inilex_say x19).bind fun x22 =>
     if (!x22.2) = true then
     (some (.nil, IntKind.i64.wrap (s3.1 + 1), 5)).map fun r => .inr (.inr r)
     else
     (apG 48 s3.2 [{ x22.1 with Line := IntKind.i64.wrap (s3.1 + 1) }]).bind fun x33 =>
     some (.inl (IntKind.i64.wrap (s3.1 + 1), x33))
     else
     some (.inr (.inl s3.2) : _ ⊕ GS S_inilex_Item ⊕ (GS S_inilex_Item × Int × Int)))
    (G := fun (s2 : (Int × (GS S_r42_Item))) =>
     if (decide (s2.1 < (u.l.length : Int))) = true then
     (orO (decide (400 ≤ s2.1)) ((idx u.l s2.1).bind fun x7 =>
     some (decide (512 < (x7.length : Int))))).bind fun x11 =>
     if x11 = true then
     (some (.nil, IntKind.i64.wrap (s2.1 + 1), 4)).map fun r => .inr (.inr r)
     else
     (idx u.l s2.1).bind fun x13 =>
     (r42_said x13).bind fun x15 =>
     if (decide (x15 = [])) = true then
     some (.inl (IntKind.i64.wrap (s2.1 + 1), s2.2))
     else
     (r42_one x15).bind fun x18 =>
     if (!x18.2) = true then
     (some (.nil, IntKind.i64.wrap (s2.1 + 1), 5)).map fun r => .inr (.inr r)
     else
     (apG 48 s2.2 [{ x18.1 with Line := IntKind.i64.wrap (s2.1 + 1) }]).bind fun x29 =>
     some (.inl (IntKind.i64.wrap (s2.1 + 1), x29))
     else
     some (.inr (.inl s2.2) : _ ⊕ GS S_r42_Item ⊕ (GS S_r42_Item × Int × Int)))
    (fun s => u.l.length - s.1.toNat) (fun s t => ∃ n : Nat, s.1 = (n : Int) ∧ t.1 = (n : Int) ∧ n ≤ u.l.length ∧ SameL s.2.l t.2.l ∧ s.2.l.length ≤ n ∧ s.2.l.length ≤ 400)
    (fun b c => (∃ g h, b = .inl g ∧ c = .inl h ∧ SameL g.l h.l ∧ g.l.length ≤ 400) ∨ ∃ n e, b = .inr (.nil, n, e) ∧ c = .inr (.nil, n, e)) (by
      rintro ⟨i, g⟩ ⟨j, h⟩ ⟨n, rfl, rfl, h1, h2, h3, h3'⟩
      dsimp only at h2 h3 h3' ⊢
      by_cases hn : n < u.l.length
      · have hlt : (n : Int) < (u.l.length : Int) := by omega
        have hi : idx u.l (n : Int) = some u.l[n] := by rw [idx_nat, List.getElem?_eq_getElem hn]
        rw [show (n : Int) + 1 = ((n + 1 : Nat) : Int) by omega, wrapN (by omega)]
        simp only [hlt, decide_true, if_true, hi, Option.bind_some, orO]
        by_cases hb : (400 : Int) ≤ (n : Int) ∨ (512 : Int) < (u.l[n].length : Int)
        · right
          refine ⟨.inr (.nil, ((n + 1 : Nat) : Int), 4), .inr (.nil, ((n + 1 : Nat) : Int), 4), ?_, ?_, .inr ⟨_, _, rfl, rfl⟩⟩
          · by_cases hb1 : (400 : Int) ≤ (n : Int)
            · simp [hb1]
            · simp [hb1, hb.resolve_left hb1]
          · by_cases hb1 : (400 : Int) ≤ (n : Int)
            · simp [hb1]
            · simp [hb1, hb.resolve_left hb1]
        · have hb1 : ¬ (400 : Int) ≤ (n : Int) := fun e => hb (.inl e)
          have hb2 : ¬ (512 : Int) < (u.l[n].length : Int) := fun e => hb (.inr e)
          obtain ⟨p, q, f, t, c1, c2, c3, c4⟩ := said_val u.l[n] (by omega)
          simp only [hb1, hb2, decide_false, Bool.false_eq_true, if_false, Option.bind_some, c1, c2, c3]
          by_cases ht : t = []
          · left
            exact ⟨(((n + 1 : Nat) : Int), g), (((n + 1 : Nat) : Int), h), by simp [ht], by simp [ht], ⟨n + 1, rfl, rfl, by omega, h2, by dsimp only; omega, h3'⟩, by dsimp only; omega⟩
          · obtain ⟨a, m, v, b, d1, d2⟩ := say_val t ht (by omega)
            simp only [ht, decide_false, Bool.false_eq_true, if_false, d1, d2, Option.bind_some]
            cases b with
            | false =>
              right
              exact ⟨.inr (.nil, ((n + 1 : Nat) : Int), 5), .inr (.nil, ((n + 1 : Nat) : Int), 5), by simp, by simp, .inr ⟨_, _, rfl, rfl⟩⟩
            | true =>
              left
              have hgl := h2.length
              have a1 : apG 48 g [(⟨a, m, v, ((n + 1 : Nat) : Int)⟩ : S_inilex_Item)] = some (.mk (g.l ++ [⟨a, m, v, ((n + 1 : Nat) : Int)⟩])) := apG_one (by unfold most; omega)
              have a2 : apG 48 h [(⟨a, m, v, ((n + 1 : Nat) : Int)⟩ : S_r42_Item)] = some (.mk (h.l ++ [⟨a, m, v, ((n + 1 : Nat) : Int)⟩])) := apG_one (by unfold most; omega)
              refine ⟨(((n + 1 : Nat) : Int), .mk (g.l ++ [⟨a, m, v, ((n + 1 : Nat) : Int)⟩])), (((n + 1 : Nat) : Int), .mk (h.l ++ [⟨a, m, v, ((n + 1 : Nat) : Int)⟩])), by simp only [Bool.not_true, Bool.false_eq_true, if_false, a1, Option.bind_some], by simp only [Bool.not_true, Bool.false_eq_true, if_false, a2, Option.bind_some], ⟨n + 1, rfl, rfl, by omega, ?_, ?_, ?_⟩, by dsimp only; omega⟩
              · exact h2.snoc ⟨rfl, rfl, rfl, rfl⟩
              · simp only [GS.l_mk, List.length_append, List.length_cons, List.length_nil]; omega
              · simp only [GS.l_mk, List.length_append, List.length_cons, List.length_nil]; omega
      · right
        have hlt : ¬ (n : Int) < (u.l.length : Int) := by omega
        simp only [hlt, decide_false, Bool.false_eq_true, if_false]
        exact ⟨_, _, rfl, rfl, .inl ⟨g, h, rfl, rfl, h2, h3'⟩⟩) (s := (0, .nil)) (t := (0, .nil)) ⟨0, rfl, rfl, by omega, trivial, by simp, by simp⟩
  rw [f1, f2]
  rcases hq with ⟨g, h, rfl, rfl, hs, hle⟩ | ⟨n, e, rfl, rfl⟩
  · exact ⟨g, h, 0, 0, rfl, rfl, hs, hle⟩
  · exact ⟨.nil, .nil, n, e, rfl, rfl, trivial, by simp⟩

theorem l42_alive_val : l42_alive () = some true := by
  have h1 := loose_val [91, 32, 80, 101, 101, 114, 32, 93, 10, 65, 32, 61, 32, 98, 32, 35, 32, 99] (by simp)
  simp only [List.cons_append, List.nil_append] at h1
  have h2 : splitB 10 [91, 32, 80, 101, 101, 114, 32, 93, 10, 65, 32, 61, 32, 98, 32, 35, 32, 99] = [[91, 32, 80, 101, 101, 114, 32, 93], [65, 32, 61, 32, 98, 32, 35, 32, 99]] := by decide
  rw [h2] at h1
  have c1 : lines_Cut [91, 32, 80, 101, 101, 114, 32, 93] 35 = some ([91, 32, 80, 101, 101, 114, 32, 93], [], false) := by rfl
  have c2 : lines_Cut [65, 32, 61, 32, 98, 32, 35, 32, 99] 35 = some ([65, 32, 61, 32, 98, 32], [32, 99], true) := by rfl
  have tv : ∀ l : Str, l.length < 100 → lines_Trim l = some (trimL (trimR l)) := fun l h => trim_val l (by omega)
  have fv : ∀ l : Str, l.length < 100 → lines_Fold l = some (l.map fold) := fun l h => fold_val l (by omega)
  have t1 : lines_Trim [91, 32, 80, 101, 101, 114, 32, 93] = some [91, 32, 80, 101, 101, 114, 32, 93] := (tv _ (by decide)).trans (by decide)
  have t2 : lines_Trim [65, 32, 61, 32, 98, 32] = some [65, 32, 61, 32, 98] := (tv _ (by decide)).trans (by decide)
  have s1 : inilex_say [91, 32, 80, 101, 101, 114, 32, 93] = some (⟨true, [112, 101, 101, 114], [], 0⟩, true) := by
    have a1 : strings_HasPrefix [91, 32, 80, 101, 101, 114, 32, 93] [91] = some true := by rfl
    have a2 : strings_CutSuffix [91, 32, 80, 101, 101, 114, 32, 93] [93] = some ([91, 32, 80, 101, 101, 114, 32], true) := by rfl
    have a3 : strings_TrimPrefix [91, 32, 80, 101, 101, 114, 32] [91] = some [32, 80, 101, 101, 114, 32] := by rfl
    have a4 : lines_Trim [32, 80, 101, 101, 114, 32] = some [80, 101, 101, 114] := (tv _ (by decide)).trans (by decide)
    have a5 : lines_Fold [80, 101, 101, 114] = some [112, 101, 101, 114] := (fv _ (by decide)).trans (by decide)
    simp only [inilex_say, inilex_section, a1, a2, a3, a4, a5, Option.bind_some, if_true, Bool.not_true, Bool.false_eq_true, if_false]
    rfl
  have s2 : inilex_say [65, 32, 61, 32, 98] = some (⟨false, [97], [98], 0⟩, true) := by
    have a1 : strings_HasPrefix [65, 32, 61, 32, 98] [91] = some false := by rfl
    have a2 : lines_Cut [65, 32, 61, 32, 98] 61 = some ([65, 32], [32, 98], true) := by rfl
    have a3 : lines_Trim [65, 32] = some [65] := (tv _ (by decide)).trans (by decide)
    have a4 : lines_Trim [32, 98] = some [98] := (tv _ (by decide)).trans (by decide)
    have a5 : lines_Fold [65] = some [97] := (fv _ (by decide)).trans (by decide)
    simp only [inilex_say, inilex_pair, a1, a2, a3, a4, a5, Option.bind_some, Bool.false_eq_true, if_false, orO, Bool.not_true]
    rfl
  have hx : inilex_Lex [91, 32, 80, 101, 101, 114, 32, 93, 10, 65, 32, 61, 32, 98, 32, 35, 32, 99, 10] = some (.mk [⟨true, [112, 101, 101, 114], [], 1⟩, ⟨false, [97], [98], 2⟩], 0, 0) := by
    unfold inilex_Lex
    simp only [h1, Option.bind_some]
    rw [iter_of (n := 3) (b := .inl (.mk [⟨true, [112, 101, 101, 114], [], 1⟩, ⟨false, [97], [98], 2⟩]))]
    · rfl
    · have g0 : idx (GS.mk [([91, 32, 80, 101, 101, 114, 32, 93] : Str), [65, 32, 61, 32, 98, 32, 35, 32, 99]]).l 0 = some [91, 32, 80, 101, 101, 114, 32, 93] := rfl
      have g1 : idx (GS.mk [([91, 32, 80, 101, 101, 114, 32, 93] : Str), [65, 32, 61, 32, 98, 32, 35, 32, 99]]).l 1 = some [65, 32, 61, 32, 98, 32, 35, 32, 99] := rfl
      have l0 : (0 : Int) < ((GS.mk [([91, 32, 80, 101, 101, 114, 32, 93] : Str), [65, 32, 61, 32, 98, 32, 35, 32, 99]]).l.length : Int) := by decide
      have l1 : (1 : Int) < ((GS.mk [([91, 32, 80, 101, 101, 114, 32, 93] : Str), [65, 32, 61, 32, 98, 32, 35, 32, 99]]).l.length : Int) := by decide
      have l2 : ¬ (2 : Int) < ((GS.mk [([91, 32, 80, 101, 101, 114, 32, 93] : Str), [65, 32, 61, 32, 98, 32, 35, 32, 99]]).l.length : Int) := by decide
      have w0 : IntKind.i64.wrap ((0 : Int) + 1) = 1 := rfl
      have w1 : IntKind.i64.wrap ((1 : Int) + 1) = 2 := rfl
      have n0 : ¬ (400 : Int) ≤ 0 := by decide
      have n1 : ¬ (400 : Int) ≤ 1 := by decide
      have m0 : ¬ (512 : Int) < ((([91, 32, 80, 101, 101, 114, 32, 93] : Str).length : Nat) : Int) := by decide
      have m1 : ¬ (512 : Int) < ((([65, 32, 61, 32, 98, 32, 35, 32, 99] : Str).length : Nat) : Int) := by decide
      have e0 : ¬ ([91, 32, 80, 101, 101, 114, 32, 93] : Str) = [] := by decide
      have e1 : ¬ ([65, 32, 61, 32, 98] : Str) = [] := by decide
      have p0 : apG 48 (GS.nil : GS S_inilex_Item) [⟨true, [112, 101, 101, 114], [], 1⟩] = some (.mk [⟨true, [112, 101, 101, 114], [], 1⟩]) := apG_one (by unfold most; simp)
      have p1 : apG 48 (GS.mk [(⟨true, [112, 101, 101, 114], [], 1⟩ : S_inilex_Item)]) [⟨false, [97], [98], 2⟩] = some (.mk [⟨true, [112, 101, 101, 114], [], 1⟩, ⟨false, [97], [98], 2⟩]) := apG_one (by unfold most; simp)
      simp only [iterN, l0, l1, l2, g0, g1, w0, w1, n0, n1, m0, m1, e0, e1, c1, c2, t1, t2, s1, s2, p0, p1, orO, decide_true, decide_false, if_true, Bool.false_eq_true, if_false, Option.bind_some, Bool.not_true]
  simp only [l42_alive, hx, Option.bind_some]
  rfl

theorem plain_InilexReads (s : Str) : l42_InilexReads s = some true := by
  unfold l42_InilexReads
  by_cases hl : (2000 : Int) < (s.length : Int)
  · rw [if_pos (by simpa using hl), l42_alive_val]; rfl
  · rw [if_neg (by simpa using hl)]
    obtain ⟨g, h, a, e, h1, h2, hs, hle⟩ := lex_both s (by omega)
    have hlen := hs.length
    have he : (g.l.length : Int) = (h.l.length : Int) := by omega
    simp only [h1, h2, Option.bind_some, decide_true, Bool.not_true, orO, Bool.false_eq_true, if_false, he]
    refine iter_then (fun i => h.l.length - i.toNat) (fun i => ∃ n : Nat, i = (n : Int) ∧ n ≤ h.l.length) (fun r => r = .inl ()) ⟨0, rfl, by omega⟩ ?_ ?_
    · rintro i ⟨n, rfl, hn⟩
      by_cases hlt : n < h.l.length
      · left
        obtain ⟨x, y, g1, g2, k1, k2, k3, k4⟩ := hs.get (i := n) (by omega)
        have hi : (n : Int) < (h.l.length : Int) := by omega
        have j1 : idx g.l (n : Int) = some x := by rw [idx_nat, g1]
        have j2 : idx h.l (n : Int) = some y := by rw [idx_nat, g2]
        refine ⟨((n + 1 : Nat) : Int), ?_, ⟨n + 1, rfl, by omega⟩, by omega⟩
        rw [show (n : Int) + 1 = ((n + 1 : Nat) : Int) by omega, wrapN (by omega)]
        simp only [hi, j1, j2, k1, k2, k3, k4, decide_true, if_true, Option.bind_some, Bool.not_true, Bool.false_eq_true, if_false]
      · right
        have hi : ¬ (n : Int) < (h.l.length : Int) := by omega
        simp only [hi, decide_false, Bool.false_eq_true, if_false]
        exact ⟨_, rfl, rfl⟩
    · rintro _ rfl
      simp only [Sum.elim_inl, l42_alive_val, Option.bind_some]
end Go.Proofs.YtggdinpopddhnaaDoor.Am
