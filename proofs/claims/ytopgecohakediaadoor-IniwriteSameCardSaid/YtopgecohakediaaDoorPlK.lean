/-
  The plain law of IniwriteSame.
-/
import Derived.Test.YtopgecohakediaaDoorPlA
import Derived.Test.YtopgecohakediaaDoorWk
namespace Go.Proofs.YtopgecohakediaaDoor.Am
open Classical

/-- a loop over numbers that goes on, or ends early -/
theorem scanI {β : Type} {n : Nat} {F : Int → Option (Int ⊕ (Unit ⊕ β))} {K : Unit → Option β} (q : Nat → Option β) (hn : n < 4611686018427387904) (h1 : ∀ i : Nat, i < n → F (i : Int) = some (match q i with | none => .inl (IntKind.i64.wrap ((i : Int) + 1)) | some b => .inr (.inr b)))
    (h2 : F (n : Int) = some (.inr (.inl ()))) : (iter F 0).bind (Sum.elim K some) = (match (List.range n).findSome? q with | none => K () | some b => some b) := by
  refine iter_then (fun s => n - s.toNat) (fun s => ∃ i : Nat, s = i ∧ i ≤ n ∧ ∀ j, j < i → q j = none)
    (fun r => (r = .inl () ∧ ∀ j, j < n → q j = none) ∨ ∃ b, r = .inr b ∧ (List.range n).findSome? q = some b) ⟨0, rfl, by omega, by omega⟩ ?_ ?_
  · rintro s ⟨i, rfl, hi, hq⟩
    rcases Nat.lt_or_ge i n with hlt | hge
    · rw [h1 i hlt]
      cases e : q i with
      | none =>
        left
        refine ⟨_, rfl, ⟨i + 1, ?_, by omega, fun j hj => ?_⟩, ?_⟩
        · rw [show (i : Int) + 1 = ((i + 1 : Nat) : Int) by omega, wrapN (by omega)]
        · rcases Nat.lt_or_ge j i with h | h
          · exact hq j h
          · obtain rfl : j = i := by omega
            exact e
        · rw [show (i : Int) + 1 = ((i + 1 : Nat) : Int) by omega, wrapN (by omega)]; omega
      | some b =>
        right
        refine ⟨_, rfl, .inr ⟨b, rfl, ?_⟩⟩
        have : List.range n = List.range i ++ [i] ++ (List.range (n - (i + 1))).map ((i + 1) + ·) := by
          rw [← List.range_succ, ← List.range_add]; congr 1; omega
        rw [this, List.findSome?_append, List.findSome?_append, List.findSome?_eq_none_iff.2 (fun j hj => hq j (List.mem_range.1 hj))]
        simp [e]
    · obtain rfl : i = n := by omega
      right
      exact ⟨_, h2, .inl ⟨rfl, hq⟩⟩
  · rintro _ (⟨rfl, h⟩ | ⟨b, rfl, h⟩)
    · rw [List.findSome?_eq_none_iff.2 (fun j hj => h j (List.mem_range.1 hj))]; rfl
    · rw [h]; rfl
theorem cmp_key (x y : Ar UInt8 32) : cmpB (CmpC.arr 32 CmpC.u8) x y = decide (x = y) :=
  if h : x = y then (cmpB_yes (t := T.arr 32 T.u8) h).trans (decide_eq_true h).symm else (cmpB_no (t := T.arr 32 T.u8) h).trans (decide_eq_false h).symm
theorem cmp_end (x y : S_api_Endpoint) : cmpB C_api_Endpoint x y = decide (x = y) :=
  if h : x = y then (cmpB_yes (t := T_api_Endpoint) h).trans (decide_eq_true h).symm else (cmpB_no (t := T_api_Endpoint) h).trans (decide_eq_false h).symm
theorem cmp_pre (x y : S_api_Prefix) : cmpB C_api_Prefix x y = decide (x = y) :=
  if h : x = y then (cmpB_yes (t := T_api_Prefix) h).trans (decide_eq_true h).symm else (cmpB_no (t := T_api_Prefix) h).trans (decide_eq_false h).symm

def alikeP (x y : S_api_IniPeer) : Prop := x.Key = y.Key ∧ x.Psk = y.Psk ∧ x.End = y.End ∧ x.Keep = y.Keep ∧ x.Allowed.l = y.Allowed.l

theorem allow_eq {a b : List S_api_Prefix} (h : a.length = b.length) : ((List.range a.length).findSome? fun i => if a[i]? = b[i]? then none else some false) = none ↔ a = b := by
  rw [List.findSome?_eq_none_iff]
  constructor
  · intro g
    apply List.ext_getElem?
    intro i
    rcases Nat.lt_or_ge i a.length with hi | hi
    · have := g i (List.mem_range.2 hi)
      split at this
      · assumption
      · cases this
    · rw [List.getElem?_eq_none hi, List.getElem?_eq_none (by omega)]
  · rintro rfl i _
    simp
theorem allow_some {q : Nat → Option Bool} (hq : ∀ i, q i = none ∨ q i = some false) {n : Nat} : (List.range n).findSome? q = none ∨ (List.range n).findSome? q = some false := by
  cases e : (List.range n).findSome? q with
  | none => exact .inl rfl
  | some b =>
    obtain ⟨i, _, h⟩ := List.exists_of_findSome?_eq_some e
    rcases hq i with h' | h'
    · rw [h] at h'; cases h'
    · rw [h] at h'; cases h'; exact .inr rfl

theorem slices_val (a b : GS S_api_Prefix) (hl : a.l.length < 4611686018427387904) : slices_Equal_api_Prefix a b = some (decide (a.l = b.l)) := by
  unfold slices_Equal_api_Prefix
  by_cases h : a.l.length = b.l.length
  · simp only [h, decide_true, Bool.not_true, Bool.false_eq_true, if_false]
    rw [scanI (n := b.l.length) (fun i => if a.l[i]? = b.l[i]? then none else some false) (by omega)]
    · have := allow_eq h
      rw [h] at this
      rcases allow_some (q := fun i => if a.l[i]? = b.l[i]? then none else some false) (fun i => by split <;> simp) (n := b.l.length) with e | e
      · rw [e]; simp [this.1 e]
      · rw [e]
        have : a.l ≠ b.l := fun g => by rw [this.2 g] at e; cases e
        simp [this]
    · intro i hi
      rw [if_pos (by simpa using hi), idx_nat, idx_nat, List.getElem?_eq_getElem (by omega), List.getElem?_eq_getElem hi]
      simp only [Option.bind_some, Option.some.injEq]
      rw [cmp_pre]
      by_cases e : a.l[i] = b.l[i] <;> simp [e]
    · rw [if_neg (by simp)]
  · have h' : ¬ (a.l.length : Int) = (b.l.length : Int) := by omega
    have : a.l ≠ b.l := fun e => h (by rw [e])
    simp [h', this]
theorem r11_val (a b : GS S_api_Prefix) (hl : a.l.length < 4611686018427387904) : r11_Same a b = some (decide (a.l = b.l)) := slices_val a b hl

theorem alike_val' (x y : S_api_IniPeer) (hl : x.Allowed.l.length < 4611686018427387904) : iniwrite_alike x y = some (decide (alikeP x y)) := by
  unfold iniwrite_alike
  simp only [slices_val _ _ hl, cmp_key, cmp_end]
  by_cases h1 : x.Key = y.Key <;> by_cases h2 : x.Psk = y.Psk <;> by_cases h3 : x.End = y.End <;> by_cases h4 : x.Keep = y.Keep <;> by_cases h5 : x.Allowed.l = y.Allowed.l <;> simp [andO, alikeP, h1, h2, h3, h4, h5]

def smallI (a : S_api_Ini) : Prop := a.Peers.l.length ≤ 80 ∧ ∀ x ∈ a.Peers.l, x.Allowed.l.length ≤ 80
theorem r43_large_val (a : S_api_Ini) : ∃ b, r43_Large a = some b ∧ (b = false → smallI a) := by
  unfold r43_Large
  by_cases h : 80 < a.Peers.l.length
  · exact ⟨true, by rw [if_pos (decide_eq_true (by omega))], by simp⟩
  · rw [if_neg (by simp only [decide_eq_true_eq]; omega)]
    rw [scanI (n := a.Peers.l.length) (fun i => if 80 < (a.Peers.l[i]?.map fun x => x.Allowed.l.length).getD 0 then some true else none) (by omega)]
    · cases e : (List.range a.Peers.l.length).findSome? fun i => if 80 < (a.Peers.l[i]?.map fun x => x.Allowed.l.length).getD 0 then some true else none with
      | none =>
        refine ⟨false, rfl, fun _ => ⟨by omega, fun x hx => ?_⟩⟩
        obtain ⟨i, hi, rfl⟩ := List.mem_iff_getElem.1 hx
        have := List.findSome?_eq_none_iff.1 e i (List.mem_range.2 hi)
        rw [List.getElem?_eq_getElem hi] at this
        simp only [Option.map_some, Option.getD_some] at this
        split at this
        · cases this
        · omega
      | some b =>
        obtain ⟨i, _, h'⟩ := List.exists_of_findSome?_eq_some e
        split at h'
        · cases h'; exact ⟨true, rfl, by simp⟩
        · cases h'
    · intro i hi
      rw [if_pos (by simpa using hi), idx_nat, List.getElem?_eq_getElem hi]
      simp only [Option.bind_some, Option.map_some, Option.getD_some]
      by_cases e : 80 < a.Peers.l[i].Allowed.l.length
      · rw [if_pos (decide_eq_true (by omega)), if_pos e]
      · rw [if_neg (by simp only [decide_eq_true_eq]; omega), if_neg e]
    · rw [if_neg (by simp)]

noncomputable def peersQ (a b : S_api_Ini) (i : Nat) : Option Bool := if (∃ x y, a.Peers.l[i]? = some x ∧ b.Peers.l[i]? = some y ∧ alikeP x y) then none else some false
noncomputable def peersV (a b : S_api_Ini) : Bool := decide (a.Peers.l.length = b.Peers.l.length) && ((List.range a.Peers.l.length).findSome? (peersQ a b)).isNone
noncomputable def sameV (a b : S_api_Ini) : Bool := decide (a.Private = b.Private) && (decide (a.Port = b.Port) && (decide (a.Mark = b.Mark) && peersV a b))
theorem mark_eq {x y : UInt32} : ((x.toNat : Int) = (y.toNat : Int)) ↔ x = y := by
  constructor
  · intro h; exact UInt32.toNat_inj.1 (by omega)
  · rintro rfl; rfl
theorem same_val44 (a b : S_api_Ini) (ha : smallI a) : iniwrite_Same a b = some (sameV a b) := by
  unfold iniwrite_Same
  simp only [cmp_key]
  have hM : decide ((a.Mark.toNat : Int) = (b.Mark.toNat : Int)) = decide (a.Mark = b.Mark) := by simp only [mark_eq]
  rw [hM]
  have loop : (if (!decide ((a.Peers.l.length : Int) = (b.Peers.l.length : Int))) = true then some false else (iter (fun (s21 : Int) =>
 if (decide (s21 < (a.Peers.l.length : Int))) = true then
 (idx a.Peers.l s21).bind fun x24 =>
 (idx b.Peers.l s21).bind fun x28 =>
 (iniwrite_alike x24 x28).bind fun x34 =>
 if (!x34) = true then
 (some false).map fun r => .inr (.inr r)
 else
 some (.inl (IntKind.i64.wrap (s21 + 1)))
 else
 some (.inr (.inl ()))) 0).bind (Sum.elim (fun (p22 : Unit) =>
 some true) some)) = some (peersV a b) := by
    by_cases h : a.Peers.l.length = b.Peers.l.length
    · rw [if_neg (by simp [h])]
      rw [scanI (n := a.Peers.l.length) (peersQ a b) (by have := ha.1; omega)]
      · rcases allow_some (q := peersQ a b) (fun i => by unfold peersQ; split <;> simp) (n := a.Peers.l.length) with e | e <;> (unfold peersV; rw [e]; simp [h])
      · intro i hi
        rw [if_pos (by simpa using hi), idx_nat, idx_nat, List.getElem?_eq_getElem hi, List.getElem?_eq_getElem (by omega)]
        simp only [Option.bind_some]
        rw [alike_val' _ _ (by have := ha.2 _ (List.getElem_mem hi); omega)]
        have hb : i < b.Peers.l.length := by omega
        have : (∃ x y, a.Peers.l[i]? = some x ∧ b.Peers.l[i]? = some y ∧ alikeP x y) ↔ alikeP a.Peers.l[i] b.Peers.l[i] := by
          rw [List.getElem?_eq_getElem hi, List.getElem?_eq_getElem hb]; simp
        simp only [peersQ, this]
        by_cases e : alikeP a.Peers.l[i] b.Peers.l[i] <;> simp [e]
      · rw [if_neg (by simp)]
    · rw [if_pos (by simp; omega)]
      simp [peersV, h]
  simp only [loop]
  by_cases h1 : a.Private = b.Private <;> by_cases h2 : a.Port = b.Port <;> by_cases h3 : a.Mark = b.Mark <;> simp [andO, sameV, h1, h2, h3]
theorem r43_same_val (a b : S_api_Ini) (ha : smallI a) : r43_Same a b = some (sameV a b) := by
  unfold r43_Same
  simp only [cmp_key]
  have hM : decide ((a.Mark.toNat : Int) = (b.Mark.toNat : Int)) = decide (a.Mark = b.Mark) := by simp only [mark_eq]
  rw [hM]
  by_cases h1 : a.Private = b.Private
  rotate_left
  · simp [orO, sameV, h1]
  by_cases h2 : a.Port = b.Port
  rotate_left
  · simp [orO, sameV, h1, h2]
  by_cases h3 : a.Mark = b.Mark
  rotate_left
  · simp [orO, sameV, h1, h2, h3]
  by_cases h : a.Peers.l.length = b.Peers.l.length
  rotate_left
  · have : ¬ (a.Peers.l.length : Int) = (b.Peers.l.length : Int) := by omega
    simp [orO, sameV, peersV, h1, h2, h3, h, this]
  simp only [h1, h2, h3, decide_true, Bool.not_true, orO, Bool.false_eq_true, if_false, Option.bind_some]
  rw [if_neg (by simp [h])]
  rw [scanI (n := a.Peers.l.length) (peersQ a b) (by have := ha.1; omega)]
  · rcases allow_some (q := peersQ a b) (fun i => by unfold peersQ; split <;> simp) (n := a.Peers.l.length) with e | e <;> (unfold sameV peersV; rw [e]; simp [h1, h2, h3, h])
  · intro i hi
    rw [if_pos (by simpa using hi), idx_nat, idx_nat, List.getElem?_eq_getElem hi, List.getElem?_eq_getElem (by omega)]
    have hb : i < b.Peers.l.length := by omega
    simp only [Option.bind_some]
    rw [r11_val _ _ (by have := ha.2 _ (List.getElem_mem hi); omega)]
    have : (∃ x y, a.Peers.l[i]? = some x ∧ b.Peers.l[i]? = some y ∧ alikeP x y) ↔ alikeP a.Peers.l[i] b.Peers.l[i] := by
      rw [List.getElem?_eq_getElem hi, List.getElem?_eq_getElem hb]; simp
    simp only [peersQ, this]
    generalize a.Peers.l[i] = x
    generalize b.Peers.l[i] = y
    simp only [cmp_end]
    by_cases g1 : x.Key = y.Key <;> by_cases g2 : x.Psk = y.Psk <;> by_cases g3 : x.End = y.End <;> by_cases g4 : x.Keep = y.Keep <;> by_cases g5 : x.Allowed.l = y.Allowed.l <;> simp [orO, alikeP, g1, g2, g3, g4, g5]
  · rw [if_neg (by simp)]
theorem same_self (a : S_api_Ini) : sameV a a = true := by
  have : (List.range a.Peers.l.length).findSome? (peersQ a a) = none := by
    rw [List.findSome?_eq_none_iff]
    intro i hi
    have hi := List.mem_range.1 hi
    unfold peersQ
    rw [if_pos ⟨a.Peers.l[i], a.Peers.l[i], List.getElem?_eq_getElem hi, List.getElem?_eq_getElem hi, rfl, rfl, rfl, rfl, rfl⟩]
  simp [sameV, peersV, this]
theorem alive44 : l44_alive () = some true := by
  have hz : keys_Zero (T.arr 32 T.u8).z = some true := by
    unfold keys_Zero
    exact congrArg some (cmpB_yes rfl)
  have hR : iniwrite_Right ⟨(T.arr 32 T.u8).z, 0, 0, .nil⟩ = some true := by
    unfold iniwrite_Right
    rw [show iniwrite_short 0 = some true from rfl]
    simp only [andO, Option.bind_some, GS.l_nil, List.length_nil, if_true]
    rw [scanI (n := 0) (fun _ => none) (by omega) (by omega) (by simp)]
    rfl
  have hF : iniwrite_file ⟨(T.arr 32 T.u8).z, 0, 0, .nil⟩ = some (.mk [[91, 73, 110, 116, 101, 114, 102, 97, 99, 101, 93]]) := by
    unfold iniwrite_file
    simp only [hz, Option.bind_some, Bool.not_true, Bool.false_eq_true, if_false, decide_true, UInt32.toNat_zero]
    rw [iter_last (b := .inl (.mk [[91, 73, 110, 116, 101, 114, 102, 97, 99, 101, 93]])) (by simp)]
    rfl
  have hJ : lines_Join (.mk [[91, 73, 110, 116, 101, 114, 102, 97, 99, 101, 93]]) = some [91, 73, 110, 116, 101, 114, 102, 97, 99, 101, 93, 10] := by
    unfold lines_Join
    rw [iter_next (s' := (1, [91, 73, 110, 116, 101, 114, 102, 97, 99, 101, 93, 10])) (by rfl), iter_last (b := .inl [91, 73, 110, 116, 101, 114, 102, 97, 99, 101, 93, 10]) (by rfl)]
    rfl
  unfold l44_alive iniwrite_Text
  simp [hR, hF, hJ, andO]
theorem plain_IniwriteSame (a b : S_api_Ini) : l44_IniwriteSame a b = some true := by
  unfold l44_IniwriteSame
  obtain ⟨u, hu, hu'⟩ := r43_large_val a
  obtain ⟨v, hv, hv'⟩ := r43_large_val b
  simp only [hu, hv, alive44, Option.bind_some]
  cases u with
  | true => simp [orO]
  | false =>
    cases v with
    | true => simp [orO]
    | false =>
      have ha := hu' rfl
      simp [orO, andO, same_val44 a b ha, r43_same_val a b ha, same_val44 a a ha, same_self]
end Go.Proofs.YtopgecohakediaaDoor.Am
