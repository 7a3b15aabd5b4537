/-
  strings.Builder: a builder in memory of its own as one thing, its bytes.
-/
import Derived.Test.YtobejhpigbllpaaGreatDoorSmQ
namespace Go.Proofs.YtobejhpigbllpaaGreatDoor.Am

/-- g: has it room from the start? -/
def DBld (tB te : Nat) (g : Bool) : Dom where
  α := Str
  R := fun F _ H v l => ∃ id, v = .ptr id 0 ∧ ((g = false ∧ l = [] ∧ ∃ a, (a = .nilp ∨ a = .ptr id 0) ∧ H[id]? = some (.cells (some tB) [a, .nils]) ∧ ∀ i, F i ↔ i = id) ∨
    ((g = true ∨ l ≠ []) ∧ ∃ r, r ≠ id ∧ H[id]? = some (.cells (some tB) [.ptr id 0, .orow r l.length 0 l.length]) ∧ H[r]? = some (.row (some te) false 1 (byteEls l)) ∧ ∀ i, F i ↔ (i = id ∨ i = r)))
  lt := by
    rintro F P H v l ⟨id, _, ⟨_, _, a, _, h, hF⟩ | ⟨_, r, _, h, h', hF⟩⟩ i hi
    · obtain rfl := (hF i).1 hi; exact lt_of_get h
    · rcases (hF i).1 hi with rfl | rfl
      · exact lt_of_get h
      · exact lt_of_get h'
  men := by
    rintro F P H v l m ⟨id, rfl, ⟨_, _, a, _, h, hF⟩ | ⟨_, r, _, h, h', hF⟩⟩ _ hm
    · exact hm id ((hF id).2 rfl)
    · exact hm id ((hF id).2 (.inl rfl))
  mono := by
    rintro F P Q H G v l _ hG ⟨id, hv, ⟨h0, h1, a, h2, h, hF⟩ | ⟨h0, r, h1, h, h', hF⟩⟩
    · exact ⟨id, hv, .inl ⟨h0, h1, a, h2, by rw [hG id ((hF id).2 rfl)]; exact h, hF⟩⟩
    · exact ⟨id, hv, .inr ⟨h0, r, h1, by rw [hG id ((hF id).2 (.inl rfl))]; exact h, by rw [hG r ((hF r).2 (.inr rfl))]; exact h', hF⟩⟩
/-- a builder whose text was taken -/
def DUsed : Dom where
  α := Unit
  R := fun F _ H v _ => (∀ i, F i → i < H.length) ∧ ∃ id, v = .ptr id 0 ∧ F id
  lt := fun h => h.1
  men := by rintro F P H v x m ⟨_, id, rfl, h⟩ _ hm; exact hm id h
  mono := by
    rintro F P Q H G v x _ hG ⟨h, id, hv, hi⟩
    refine ⟨fun i hi => ?_, id, hv, hi⟩
    have h1 := h i hi
    have h2 := hG i hi
    rw [List.getElem?_eq_getElem h1] at h2
    exact lt_of_get h2

theorem mentLL_bytes (l : Str) : mentLL (byteEls l) = 0 := by
  have := (all_bytes (P := fun _ => False) (H := []) l).men (m := 0) (fun _ h => h.elim)
  omega

section
variable {tb : Tab} {tB te ncc nne nws nwb nbs : Nat}

/-- bytes more -/
theorem bld_grow {g : Bool} {F P : Nat → Prop} {H : Heap} {v : AV} {l s : Str} (hw : mentH H ≤ H.length) (h : (DBld tB te g).R F P H v l) (hm : l.length + s.length ≤ most) :
    ∃ id G F', v = .ptr id 0 ∧ Grows tB te H id s G ∧ H.length ≤ G.length ∧ (∀ i, i < H.length → ¬ F i → G[i]? = H[i]?) ∧ (∀ i, F' i → F i ∨ (H.length ≤ i ∧ i < G.length)) ∧ mentH G ≤ G.length ∧ ∀ Q, (DBld tB te g).R F' Q G v (l ++ s) := by
  obtain ⟨id, hv, ⟨h0, h1, a, ha, hh, hF⟩ | ⟨h0, r, hne, hh, hr, hF⟩⟩ := h
  · subst h1
    have hid := lt_of_get hh
    by_cases hs : s = []
    · subst hs
      refine ⟨id, _, F, hv, .none hh ha rfl, by simp, fun i _ hi => List.getElem?_set_ne fun e => hi ((hF i).2 e.symm), fun i hi => .inl hi, ?_, fun Q => ⟨id, hv, .inl ⟨h0, rfl, _, .inr rfl, List.getElem?_set_self hid, hF⟩⟩⟩
      simp only [List.length_set]
      exact mentH_set hw (by simp only [mentO, mentL, ment]; omega)
    · refine ⟨id, _, fun i => i = id ∨ i = H.length, hv, .first hh ha hs (by simpa using hm), by simp, fun i hi hn => ?_, fun i hi => ?_, ?_, fun Q => ⟨id, hv, .inr ⟨.inr (by simpa using hs), H.length, by omega, ?_, ?_, fun i => Iff.rfl⟩⟩⟩
      · rw [List.getElem?_append_left (by simpa using hi)]
        exact List.getElem?_set_ne fun e => hn ((hF i).2 e.symm)
      · rcases hi with rfl | rfl
        · exact .inl ((hF _).2 rfl)
        · exact .inr ⟨Nat.le_refl _, by simp⟩
      · rw [mentH_app]
        have := mentH_set (l := H) (i := id) (o := .cells (some tB) [.ptr id 0, .orow H.length s.length 0 s.length]) (m := H.length + 1) (by omega) (by simp only [mentO, mentL, ment]; omega)
        simp only [mentH, mentO, mentLL_bytes, List.length_append, List.length_set, List.length_cons, List.length_nil]
        omega
      · rw [List.getElem?_append_left (by simpa using hid), List.nil_append]
        exact List.getElem?_set_self hid
      · rw [List.getElem?_append_right (by simp)]; simp
  · have hid := lt_of_get hh
    have hrd := lt_of_get hr
    refine ⟨id, _, F, hv, .more hh hr hne hm, by simp, fun i _ hi => ?_, fun i hi => .inl hi, ?_, fun Q => ⟨id, hv, .inr ⟨?_, r, hne, ?_, ?_, hF⟩⟩⟩
    · rw [List.getElem?_set_ne (fun e => hi ((hF i).2 (.inl e.symm))), List.getElem?_set_ne (fun e => hi ((hF i).2 (.inr e.symm)))]
    · simp only [List.length_set]
      exact mentH_set (mentH_set hw (by simp only [mentO, mentLL_bytes]; omega)) (by simp only [mentO, mentL, ment]; omega)
    · rcases h0 with h0 | h0
      · exact .inl h0
      · exact .inr (by simp [h0])
    · exact List.getElem?_set_self (by simpa using hid)
    · rw [List.getElem?_set_ne (Ne.symm hne)]
      exact List.getElem?_set_self hrd

variable {Γ : Cx} {a b : AO}

/-- a builder, made -/
theorem M_bldA {d : Nat} {z : List AV} (j : Nat) (te : Nat) (hz : z = [.nilp, .nils]) (hj : findS Γ.ss j = none) : OpM tb Γ (some d) (.alloc tB z) (some ([] : Str)) fun l => ⟨(d, .own j) :: Γ.ts, (j, .dom (DBld tB te false) l) :: Γ.ss⟩ := by
  rintro E rv fp f H R _ ⟨⟩
  subst hz
  obtain ⟨rv', fp', h1, h2, h3⟩ := R.more (j := j) (S := .dom (DBld tB te false) []) (v := .ptr H.length 0) (o := .cells (some tB) [.nilp, .nils]) (live_none hj) (by simp only [mentO, mentL, ment]; omega) rfl (by simp [ment]) rfl fun rv' fp' e1 e2 hP hs =>
    ⟨H.length, e1, .inl ⟨rfl, rfl, .nilp, .inl rfl, by simp, e2⟩⟩
  exact ⟨_, _, rfl, rv', fp', h3.push (d := d) (φ := .own j) ⟨h2, h1.symm⟩⟩

/-- a slot is another one now, out of what a call has made of it -/
theorem RelI.dom {E : Env} {rv : Nat → AV} {fp : Fp} {f : Fr} {H G : Heap} (R : RelI E Γ rv fp f H) {j : Nat} {S : Slot} {D : Dom} {y : D.α} (hnk : keepO (findS Γ.ss j) = false) (hl : live Γ.ss j) {F' : Nat → Prop} (hlen : H.length ≤ G.length) (hG : ∀ i, i < H.length → ¬ fp j i → G[i]? = H[i]?)
    (hF : ∀ i, F' i → fp j i ∨ (H.length ≤ i ∧ i < G.length)) (hw : mentH G ≤ G.length) (hS : S = .dom D y) (hR : ∀ Q, D.R F' Q G (rv j) y) :
    ∃ rv' fp', rv' j = rv j ∧ live ((j, S) :: Γ.ss) j ∧ RelI E ⟨Γ.ts, (j, S) :: Γ.ss⟩ rv' fp' f G := by
  subst hS
  exact R.chg (j := j) (S := .dom D y) (v := rv j) (F := F') (G := G) hnk rfl hlen (fun i hi hn => hG i hi (hn hl)) (fun i hi => (hF i hi).imp (fun h => ⟨hl, h⟩) id) (fun _ => .inl rfl) hw (Nat.le_trans (R.rvlt j hl) hlen) (.inr ((R.scal j hl).resolve_left (by rw [hnk]; simp)))
    fun rv' fp' e1 e2 _ _ => by
      show D.R (fp' j) _ G (rv' j) y
      rw [e1, e2]; exact hR _

def bldG (l s : Str) : Option Str := if l.length + s.length ≤ most then some (l ++ s) else none
/-- a text is written -/
theorem M_bldW {g : Bool} {d j : Nat} {l s : Str} (hcc : tb.prim ncc = none ∧ tb.fns ncc = some (ccCode tB nne)) (hne : tb.prim nne = some pSame) (hf : tb.prim nws = none ∧ tb.fns nws = some (wsCode te ncc))
    (ha : OpF tb Γ a (.own j)) (hj : findS Γ.ss j = some (.dom (DBld tB te g) l)) (hb : OpF tb Γ b (.val T.str s)) :
    OpM tb Γ (some d) (.call nws [a, b]) (bldG l s) fun l' => ⟨(d, .junk) :: Γ.ts, (j, .dom (DBld tB te g) l') :: Γ.ss⟩ := by
  intro E rv fp f H R l' hl'
  simp only [bldG] at hl'
  split at hl'
  · rename_i hm
    cases hl'
    obtain ⟨hl, hv⟩ := ha E rv fp f H R
    obtain ⟨id, G, F', e, hg, h1, h2, h3, h4, h5⟩ := bld_grow (s := s) R.wf (R.slots j _ hj) hm
    obtain ⟨rv', fp', g1, g2, g3⟩ := R.dom (G := G) (F' := F') (by rw [hj]; rfl) hl h1 h2 h3 h4 rfl h5
    refine ⟨.tup [.i .i64 s.length, .nili], some G, ?_, rv', fp', g3.push (d := d) (φ := .junk) trivial⟩
    simp only [aop, List.map_cons, List.map_nil, hv, e, T.str_V.1 (hb E rv fp f H R)]
    exact ws_eval hf hcc hne hg
  · cases hl'
/-- a byte is written -/
theorem M_bldB {g : Bool} {d j : Nat} {l : Str} {c : UInt8} (hcc : tb.prim ncc = none ∧ tb.fns ncc = some (ccCode tB nne)) (hne : tb.prim nne = some pSame) (hf : tb.prim nwb = none ∧ tb.fns nwb = some (wbCode te ncc))
    (ha : OpF tb Γ a (.own j)) (hj : findS Γ.ss j = some (.dom (DBld tB te g) l)) (hb : OpF tb Γ b (.val T.u8 c)) :
    OpM tb Γ (some d) (.call nwb [a, b]) (bldG l [c]) fun l' => ⟨(d, .junk) :: Γ.ts, (j, .dom (DBld tB te g) l') :: Γ.ss⟩ := by
  intro E rv fp f H R l' hl'
  simp only [bldG] at hl'
  split at hl'
  · rename_i hm
    cases hl'
    obtain ⟨hl, hv⟩ := ha E rv fp f H R
    obtain ⟨id, G, F', e, hg, h1, h2, h3, h4, h5⟩ := bld_grow (s := [c]) R.wf (R.slots j _ hj) hm
    obtain ⟨rv', fp', g1, g2, g3⟩ := R.dom (G := G) (F' := F') (by rw [hj]; rfl) hl h1 h2 h3 h4 rfl h5
    refine ⟨.nili, some G, ?_, rv', fp', g3.push (d := d) (φ := .junk) trivial⟩
    simp only [aop, List.map_cons, List.map_nil, hv, e, T.u8_V.1 (hb E rv fp f H R)]
    exact wb_eval hf hcc hne hg
  · cases hl'
def bldT (g : Bool) (l : Str) : Option Str := if l.length ≤ most ∧ (g = true → l ≠ []) then some l else none
/-- its text is taken -/
theorem M_bldS {g : Bool} {d j : Nat} {l : Str} (hf : tb.prim nbs = none ∧ tb.fns nbs = some (bsCode te)) (ha : OpF tb Γ a (.own j)) (hj : findS Γ.ss j = some (.dom (DBld tB te g) l)) :
    OpM tb Γ (some d) (.call nbs [a]) (bldT g l) fun l' => ⟨(d, .val T.str l') :: Γ.ts, (j, .dom DUsed ()) :: Γ.ss⟩ := by
  intro E rv fp f H R l' hl'
  simp only [bldT] at hl'
  split at hl'
  · rename_i hc
    obtain ⟨hm, hg⟩ := hc
    cases hl'
    obtain ⟨hl, hv⟩ := ha E rv fp f H R
    have hd := R.slots j _ hj
    obtain ⟨id, e, ⟨h0, h1, x, hx, hh, hF⟩ | ⟨h0, r, hne', hh, hr, hF⟩⟩ := hd
    · subst h1
      obtain ⟨rv', fp', g1, g2, g3⟩ := R.dom (D := DUsed) (y := ()) (G := H) (F' := fp j) (by rw [hj]; rfl) hl (Nat.le_refl _) (fun _ _ _ => rfl) (fun i hi => .inl hi) R.wf rfl (fun Q => ⟨fun i hi => (R.fplt j i hl hi).1, id, e, (hF id).2 rfl⟩)
      refine ⟨.s [], some H, ?_, rv', fp', g3.push (d := d) (φ := .val T.str []) (T.str_V.2 rfl)⟩
      simp only [aop, List.map_cons, List.map_nil, hv, e]
      exact bs_eval_nil hf hh
    · have hl0 : l ≠ [] := by
        rcases h0 with h0 | h0
        · exact hg h0
        · exact h0
      have hrd := lt_of_get hr
      obtain ⟨rv', fp', g1, g2, g3⟩ := R.dom (D := DUsed) (y := ()) (G := H.set r (.row (some te) true 1 (byteEls l))) (F' := fp j) (by rw [hj]; rfl) hl (by simp) (fun i _ hn => List.getElem?_set_ne fun e => hn ((hF i).2 (.inr e.symm))) (fun i hi => .inl hi)
        (by simp only [List.length_set]; exact mentH_set R.wf (by simp only [mentO, mentLL_bytes]; omega)) rfl (fun Q => ⟨fun i hi => by simpa using (R.fplt j i hl hi).1, id, e, (hF id).2 (.inl rfl)⟩)
      refine ⟨.s l, some (H.set r (.row (some te) true 1 (byteEls l))), ?_, rv', fp', g3.push (d := d) (φ := .val T.str l) (T.str_V.2 rfl)⟩
      simp only [aop, List.map_cons, List.map_nil, hv, e]
      exact bs_eval hf hh hr hl0 hm
  · cases hl'
end
end Go.Proofs.YtobejhpigbllpaaGreatDoor.Am
