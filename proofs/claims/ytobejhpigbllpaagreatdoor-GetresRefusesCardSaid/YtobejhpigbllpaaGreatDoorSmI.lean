/-
  What operations come to, on typed values: slices that grow, texts and bytes, structures, calls, equality.
-/
import Derived.Test.YtobejhpigbllpaaGreatDoorSmH
namespace Go.Proofs.YtobejhpigbllpaaGreatDoor.Am

section
variable {tb : Tab} {Γ : Cx} {a b : AO}

/-- what is appended -/
def NewL (tb : Tab) (Γ : Cx) (a : AO) (t : T) (l : List t.α) : Prop := ∀ E rv fp f H, RelI E Γ rv fp f H → ∃ els, news H t.sz (eval tb f a) = some els ∧ AllR t (Pf E Γ.ss fp H) H els l
theorem n_sl {t : T} {g : GS t.α} (ha : OpF tb Γ a (.val (T.sl t) g)) : NewL tb Γ a t g.l := by
  intro E rv fp f H R
  have hv := T.sl_V.1 (ha E rv fp f H R)
  obtain ⟨els, e, h⟩ := hv.els
  refine ⟨els, ?_, h⟩
  have hs := hv.sca
  cases hx : eval tb f a <;> rw [hx] at e hv <;> first
    | exact e
    | (cases g <;> first | (have hv' := hv; cases hv'; done) | (have := hv.1; simp only [baseP] at this; done))
theorem all_bytes {P : Nat → Prop} {H : Heap} : ∀ l : Str, AllR T.u8 P H (byteEls l) l
  | [] => trivial
  | c :: l => ⟨rfl, all_bytes l⟩
theorem n_str {s : Str} (ha : OpF tb Γ a (.val T.str s)) : NewL tb Γ a T.u8 s := by
  intro E rv fp f H R
  rw [T.str_V.1 (ha E rv fp f H R)]
  exact ⟨byteEls s, rfl, all_bytes s⟩

def apG {α : Type} (bytes : Nat) (g : GS α) (l : List α) : Option (GS α) := if (g.l.length + l.length) * bytes ≤ most then some (appG g l) else none
theorem mentLL_append : ∀ (x y : List (List AV)), mentLL (x ++ y) = max (mentLL x) (mentLL y)
  | [], y => by simp [mentLL]
  | z :: x, y => by simp only [List.cons_append, mentLL, mentLL_append x y]; omega
/-- a slice of the function's own grows -/
theorem M_app {t : T} {g : GS t.α} {l : List t.α} {d j t0 sz bytes : Nat} (hs : sz = t.sz) (ha : OpF tb Γ a (.own j)) (hj : findS Γ.ss j = some (.row t g)) (hb : NewL tb Γ b t l) :
    OpM tb Γ (some d) (.app t0 sz bytes a b) (apG bytes g l) fun g' => ⟨(d, .own j) :: (Γ.kill j).ts, (j, .row t g') :: (Γ.kill j).ss⟩ := by
  intro E rv fp f H R g' hg
  simp only [apG] at hg
  split at hg
  · rename_i hle
    cases hg
    subst hs
    obtain ⟨els, e, hels⟩ := hb E rv fp f H R
    have hel := hels.length
    have hlive : live Γ.ss j := live_of hj rfl
    have hnk : keepO (findS Γ.ss j) = false := by rw [hj]; rfl
    have hka := Cx.kill_all R hnk
    have K := R.kill j hnk
    have hkk : keepO (findS (Γ.kill j).ss j) = false := by rw [Cx.kill]; simp only [findS_map, keepO_map]; exact hnk
    have hkl : live (Γ.kill j).ss j := live_map.2 hlive
    have hslot := R.slots j _ hj
    have hPk : ∀ i, Pf E Γ.ss fp H i → Pf E (Γ.kill j).ss fp H i := fun i => Pf.same fun k l => live_map.1 l
    have hels' := hels.mono (Q := Pf E (Γ.kill j).ss fp H) (G := H) fun i hi => ⟨hPk i hi, rfl⟩
    have hmen := hels'.men K.ltP
    obtain ⟨_, hv⟩ := ha E rv fp f H R
    simp only [aop, e, Option.bind_some, hv]
    cases g with
    | nil =>
      obtain ⟨hr, hf⟩ := hslot
      rw [hr]
      simp only [GS.l, List.length_nil, Nat.zero_add] at hle
      cases l with
      | nil =>
        have : els = [] := List.length_eq_zero_iff.1 hel
        subst this
        obtain ⟨rv', fp', h1, h2, h3⟩ := K.chg (j := j) (S := .row t .nil) (v := .nils) (F := fp j) (G := H) hkk rfl (Nat.le_refl _) (fun _ _ _ => rfl) (fun i hi => absurd hi (hf i)) (fun _ => .inr hka) K.wf (by simp [ment]) (.inr rfl)
          fun rv' fp' e1 e2 _ _ => ⟨e1, fun i => by rw [e2]; exact hf i⟩
        exact ⟨.nils, none, rfl, rv', fp', h3.push (φ := .own j) ⟨h2, h1.symm⟩⟩
      | cons x l =>
        have hne : ¬ els.length = 0 := by rw [hel]; simp
        obtain ⟨rv', fp', h1, h2, h3⟩ := K.chg (j := j) (S := .row t (.mk (x :: l))) (v := .orow H.length els.length 0 els.length) (F := fun i => i = H.length) (G := H ++ [.row (some t0) false t.sz els]) hkk rfl (by simp) (fun i hi _ => List.getElem?_append_left hi)
          (fun i hi => .inr ⟨by omega, by simp; omega⟩) (fun _ => .inr hka) (by rw [mentH_app]; have := K.wf; simp only [mentH, mentO, List.length_append, List.length_cons, List.length_nil]; omega) (by simp [ment]) (.inr rfl)
          fun rv' fp' e1 e2 hP _ => ⟨_, els, e1, fun i => by rw [e2], by simp [rowAt], hels'.mono hP⟩
        refine ⟨.orow H.length els.length 0 els.length, some (H ++ [AObj.row (some t0) false t.sz els]), ?_, rv', fp', h3.push (φ := .own j) ⟨h2, h1.symm⟩⟩
        simp only [appd, if_neg hne]
        rw [if_pos (by rw [hel]; exact hle)]
    | mk q =>
      obtain ⟨id, old, hr, hf, h2, h3⟩ := hslot
      rw [hr]
      have hlen := h3.length
      have h3' := h3.mono (Q := Pf E (Γ.kill j).ss fp H) (G := H) fun i hi => ⟨hPk i hi, rfl⟩
      have hm3 := h3'.men K.ltP
      have hidlt := (K.fplt j id hkl ((hf id).2 rfl)).1
      simp only [GS.l] at hle
      simp only [appd, h2, Option.bind_some]
      rw [if_pos ⟨trivial, trivial, trivial, trivial, by rw [hlen, hel]; exact hle, trivial⟩]
      by_cases h0 : els.length = 0
      · rw [if_pos h0]
        have hnil : els = [] := List.length_eq_zero_iff.1 h0
        subst hnil
        have hl0 : l = [] := List.length_eq_zero_iff.1 hel.symm
        subst hl0
        obtain ⟨rv', fp', g1, g2, g3⟩ := K.chg (j := j) (S := .row t (.mk q)) (v := rv j) (F := fp j) (G := H) hkk rfl (Nat.le_refl _) (fun _ _ _ => rfl) (fun i hi => .inl ⟨hkl, hi⟩) (fun _ => .inl rfl) K.wf (K.rvlt j hkl) (.inr (by rw [hr]; rfl))
          fun rv' fp' e1 e2 hP _ => ⟨id, old, by rw [e1]; exact hr, by rw [e2]; exact hf, h2, h3'.mono hP⟩
        refine ⟨.orow id old.length 0 old.length, none, rfl, rv', fp', ?_⟩
        have := g3.push (d := d) (φ := .own j) (v := rv j) ⟨g2, g1.symm⟩
        rw [hr] at this
        simpa [appG, Cx.push] using this
      · rw [if_neg h0]
        obtain ⟨rv', fp', g1, g2, g3⟩ := K.set (j := j) (S := .row t (.mk (q ++ l))) (v := .orow id (old ++ els).length 0 (old ++ els).length) (o := .row (labIf (labAt H id) t0) false t.sz (old ++ els)) hkk hkl hf (by simp only [mentO, mentLL_append]; omega) rfl (by simp only [ment]; omega) (.inr hka) (.inr rfl)
          fun rv' fp' e1 e2 hP _ => ⟨id, old ++ els, e1, e2, by simp [rowAt, hidlt], (h3'.app hels').mono hP⟩
        refine ⟨.orow id (old ++ els).length 0 (old ++ els).length, some (H.set id (.row (labIf (labAt H id) t0) false t.sz (old ++ els))), by rw [List.length_append], rv', fp', g3.push (φ := .own j) ⟨g2, g1.symm⟩⟩
  · cases hg

def mkG {α : Type} (z : α) (bytes : Nat) (l c : Int) : Option (GS α) := if 0 ≤ l ∧ l ≤ c ∧ c * bytes ≤ most then some (.mk (List.replicate l.toNat z)) else none
theorem all_zero {t : T} {P : Nat → Prop} {H : Heap} : ∀ n, AllR t P H (List.replicate n t.zc) (List.replicate n t.z)
  | 0 => trivial
  | n + 1 => ⟨t.hz P H, all_zero n⟩
theorem mentLL_zero {z : List AV} (h : mentL z ≤ 0) : ∀ n, mentLL (List.replicate n z) ≤ 0
  | 0 => by simp [mentLL]
  | n + 1 => by simp only [List.replicate_succ, mentLL]; have := mentLL_zero h n; omega
/-- a slice that is made -/
theorem M_mks {t : T} {d t0 sz bytes : Nat} {zero : List AV} {k k' : IntKind} {l c : Int} (j : Nat) (hs : sz = t.sz) (hz : zero = t.zc) (hj : findS Γ.ss j = none) (ha : OpF tb Γ a (.val (T.int k) l)) (hb : OpF tb Γ b (.val (T.int k') c)) :
    OpM tb Γ (some d) (.mks t0 sz bytes zero a b) (mkG t.z bytes l c) fun g => ⟨(d, .own j) :: Γ.ts, (j, .row t g) :: Γ.ss⟩ := by
  intro E rv fp f H R g hg
  simp only [mkG] at hg
  split at hg
  · rename_i hc
    cases hg
    subst hs hz
    have hzm : mentL t.zc ≤ 0 := t.men (t.hz (fun _ => False) []) (fun _ h => h.elim)
    have hzz := mentLL_zero hzm l.toNat
    obtain ⟨rv', fp', h1, h2, h3⟩ := R.more (j := j) (S := .row t (.mk (List.replicate l.toNat t.z))) (v := .orow H.length l.toNat 0 l.toNat) (o := .row (some t0) false t.sz (List.replicate l.toNat t.zc)) (live_none hj) (by simp only [mentO]; omega) rfl (by simp [ment]) rfl fun rv' fp' e1 e2 hP hs =>
      ⟨_, List.replicate l.toNat t.zc, by simpa using e1, e2, by simp [rowAt], all_zero _⟩
    refine ⟨.orow H.length l.toNat 0 l.toNat, some (H ++ [AObj.row (some t0) false t.sz (List.replicate l.toNat t.zc)]), ?_, rv', fp', h3.push (d := d) (φ := .own j) ⟨h2, h1.symm⟩⟩
    simp only [aop, T.int_V.1 (ha E rv fp f H R), T.int_V.1 (hb E rv fp f H R), int?, Option.bind_some]
    rw [if_pos hc]
  · cases hg

/-! what is read of a slice of one's own -/
theorem own_v {t : T} {g : GS t.α} {j : Nat} (ha : OpF tb Γ a (.own j)) (hj : findS Γ.ss j = some (.row t g)) {E : Env} {rv : Nat → AV} {fp : Fp} {f : Fr} {H : Heap} (R : RelI E Γ rv fp f H) :
    (g = .nil ∧ eval tb f a = .nils) ∨ ∃ id els l, g = .mk l ∧ rv j = .orow id els.length 0 els.length ∧ (∀ i, fp j i ↔ i = id) ∧ rowAt H id = some (false, t.sz, els) ∧ AllR t (Pf E Γ.ss fp H) H els l ∧ eval tb f a = .orow id els.length 0 els.length := by
  obtain ⟨_, hv⟩ := ha E rv fp f H R
  have hs := R.slots j _ hj
  cases g with
  | nil => exact .inl ⟨rfl, hv.trans hs.1⟩
  | mk l =>
    obtain ⟨id, els, h1, h0, h2, h3⟩ := hs
    exact .inr ⟨id, els, l, rfl, h1, h0, h2, h3, hv.trans h1⟩
theorem h_lenO {t : T} {g : GS t.α} {j : Nat} (ha : OpF tb Γ a (.own j)) (hj : findS Γ.ss j = some (.row t g)) : OpH tb Γ (.len a) (some (g.l.length : Int)) fun z => .val (T.int .i64) z := by
  rintro E rv fp f H R z ⟨⟩
  rcases own_v ha hj R with ⟨rfl, hv⟩ | ⟨id, els, l, rfl, _, _, _, h, hv⟩
  · exact ⟨_, none, by simp only [aop, hv, len?, Option.map_some]; rfl, rfl, T.int_V.2 rfl⟩
  · exact ⟨_, none, by simp only [aop, hv, len?, Option.map_some, h.length]; rfl, rfl, T.int_V.2 rfl⟩
def idxN (n : Nat) (i : Int) : Option Nat := if 0 ≤ i ∧ i.toNat < n then some i.toNat else none
theorem h_iasO {t : T} {g : GS t.α} {j sz : Nat} {k : IntKind} {i : Int} (hs : sz = t.sz) (ha : OpF tb Γ a (.own j)) (hj : findS Γ.ss j = some (.row t g)) (hb : OpF tb Γ b (.val (T.int k) i)) :
    OpH tb Γ (.ias sz a b) (idxN g.l.length i) fun n => .ep j n 0 := by
  intro E rv fp f H R n hn
  simp only [idxN] at hn
  split at hn
  · rename_i hc
    cases hn
    subst hs
    have hl : live Γ.ss j := live_of hj rfl
    rcases own_v ha hj R with ⟨rfl, hv⟩ | ⟨id, els, l, rfl, hid, _, hr, h, hv⟩
    · simp [GS.l] at hc
    · have hlen := h.length
      simp only [GS.l] at hc
      have hx : iaddr H t.sz (.orow id els.length 0 els.length) i.toNat = some (.pe id els.length (0 + i.toNat) 0) := by
        simp [iaddr, els?, hr, hlen, hc.2]
      refine ⟨.pe id els.length (0 + i.toNat) 0, none, by simp only [aop, hv, T.int_V.1 (hb E rv fp f H R), int?, Option.bind_some, if_pos hc.1, hx, val, Option.map_some], rfl, hl, id, els.length, hid, by omega, by rw [Nat.zero_add]⟩
  · cases hn
theorem h_ldE {t u : T} {g : GS t.α} {j i off n : Nat} {ag : Bool} (hag : ag = u.agg) (hn : n = u.sz) (F : Fld t u off) (ha : OpF tb Γ a (.ep j i off)) (hj : findS Γ.ss j = some (.row t g)) : OpH tb Γ (.ld ag n a) ((g.l[i]?).map F.get) fun z => .val u z := by
  intro E rv fp f H R z hz
  obtain ⟨x, hx, rfl⟩ := Option.map_eq_some_iff.1 hz
  obtain ⟨_, id, m, hid, hi, hv⟩ := ha E rv fp f H R
  have hs := R.slots j _ hj
  cases g with
  | nil => simp [GS.l] at hx
  | mk l =>
    obtain ⟨id', els, h1, h0, h2, h3⟩ := hs
    rw [hid] at h1; cases h1
    obtain ⟨c, hc, hr⟩ := h3.get hx
    have hle := F.le
    have hl := t.len hr
    obtain ⟨v, g1, g2⟩ := T.V.of (F.getR hr)
    subst hag hn
    refine ⟨v, none, ?_, rfl, g2⟩
    simp only [aop, hv, Am.load, place, h2, Option.bind_some, if_pos, hc, Option.map_some, if_pos (show off + u.sz ≤ c.length by omega), g1, val]
theorem h_faE {j i o off : Nat} (ha : OpF tb Γ a (.ep j i o)) : OpH tb Γ (.fa off a) (some ()) fun _ => .ep j i (o + off) := by
  rintro E rv fp f H R z ⟨⟩
  obtain ⟨l, id, n, e, hi, hv⟩ := ha E rv fp f H R
  exact ⟨.pe id n i (o + off), none, by simp only [aop, hv, shift, val, Option.map_some], rfl, l, id, n, e, hi, rfl⟩
def GS.set {α : Type} : GS α → Nat → α → GS α
  | .nil, _, _ => .nil
  | .mk l, i, x => .mk (l.set i x)
/-- an element of a slice of one's own is stored -/
theorem M_stE {t u : T} {g : GS t.α} {y : u.α} {j i off n : Nat} (hn : n = u.sz) (F : Fld t u off) (ha : OpF tb Γ a (.ep j i off)) (hb : OpF tb Γ b (.val u y)) (hj : findS Γ.ss j = some (.row t g)) :
    OpM tb Γ none (.st n a b) ((g.l[i]?).map fun x => g.set i (F.put x y)) fun g' => Γ.setS j (.row t g') := by
  intro E rv fp f H R g' hg
  obtain ⟨x, hx, rfl⟩ := Option.map_eq_some_iff.1 hg
  obtain ⟨hl, id, m, hid, hi, hv⟩ := ha E rv fp f H R
  have hs := R.slots j _ hj
  cases g with
  | nil => simp [GS.l] at hx
  | mk l =>
    obtain ⟨id', els, h1, h0, h2, h3⟩ := hs
    rw [hid] at h1; cases h1
    obtain ⟨c, hc, hr⟩ := h3.get hx
    have hle := F.le
    have hlen := t.len hr
    have hy := T.V.cells (hb E rv fp f H R)
    have hyl := u.len hy
    have hput := F.putR hr hy
    have hidlt := (R.fplt j id hl ((h0 id).2 rfl)).1
    have hall := h3.set (i := i) hput
    have hmm := hall.men R.ltP
    obtain ⟨rv', fp', _, _, R'⟩ := R.set (j := j) (S := .row t (GS.set (.mk l) i (F.put x y))) (v := rv j) (o := .row (labAt H id) false t.sz (els.set i (splice c off (cellsOf (eval tb f b))))) (by rw [hj]; rfl) hl h0 (by simpa [mentO] using hmm) rfl (R.rvlt j hl) (.inl rfl) (R.scal j hl)
      fun rv' fp' e1 e2 hP _ => ⟨id, _, by rw [e1, hid, List.length_set], e2, by simp [rowAt, hidlt], hall.mono hP⟩
    refine ⟨.junk, some (H.set id (.row (labAt H id) false t.sz (els.set i (splice c off (cellsOf (eval tb f b)))))), ?_, rv', fp', R'⟩
    subst hn
    simp only [aop, hv, store, h2, Option.bind_some]
    rw [if_pos ⟨trivial, trivial, hyl⟩]
    simp only [hc, Option.bind_some]
    rw [if_pos (show off + u.sz ≤ c.length by omega)]
    rfl
end
end Go.Proofs.YtobejhpigbllpaaGreatDoor.Am
