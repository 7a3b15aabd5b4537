/-
  The machine's steps as rewriting rules.
-/
import Derived.Test.YtggdinpopddhnaaAmB
namespace Go.Proofs.Ytggdinpopddhnaa.Am
/-- nothing leads out of the memory -/
abbrev WF (h : Heap) : Prop := mentH h ≤ h.length
section
variable {tb : Tab} {cl : Nat → List AV → Heap → Out} {f : Fr} {h : Heap}

/-! What is left to do, under a name: it is not looked into before its turn. -/
def kops (tb : Tab) (cl : Nat → List AV → Heap → Out) (r : List AOper) (f : Fr) (d : Option Nat) (h : Heap) (p : AV × Option Heap) : Option (Fr × Heap) := ops tb cl r (put f d p.1) (p.2.getD h)
open Classical in
noncomputable def kopsQ (tb : Tab) (cl : Nat → List AV → Heap → Out) (r : List AOper) (f : Fr) (d : Option Nat) (h : Heap) (p : AV × Option Heap) : Option Fr :=
  if p.2.getD h = h then opsQ tb cl h r (put f d p.1) else none
noncomputable def kseq (tb : Tab) (cl : Nat → List AV → Heap → Out) (y : AC) : Ex × Fr × Heap → Option (Ex × Fr × Heap)
  | (.normal, f, h) => exec tb cl y f h
  | r => some r
def kblk (id : Nat) : Ex × Fr × Heap → Ex × Fr × Heap
  | (.exit id', f, h) => if id' = id then (.normal, f, h) else (.exit id', f, h)
  | r => r
def kkeep (live : List Nat) : Ex × Fr × Heap → Ex × Fr × Heap
  | (.normal, f, h) => (.normal, keepL live f, h)
  | r => r
def kround (live : List Nat) (n : Nat) : Ex × Fr × Heap → Ex × Fr × Heap
  | (.normal, f', h') => (.normal, settle n (keepL live f') h')
  | r => r
def leave3 (n : Nat) (h : Heap) (vs vs' : List AV) : Bool → AV × Option Heap
  | true => (packed vs', some (h.take n))
  | false => (packed vs, some h)
def leave2 (n : Nat) (h : Heap) (vs : List AV) : Option (List AV) → AV × Option Heap
  | some vs' => leave3 n h vs vs' (Nat.ble (mentH (h.take n)) n)
  | none => (packed vs, some h)
@[go_sem] theorem leave_eq {n : Nat} {vs : List AV} : leave n h vs = leave2 n h vs (frzL h n vs) := by
  unfold leave leave2
  cases frzL h n vs with
  | none => rfl
  | some v =>
    simp only []
    split
    · rename_i e
      have hb : Nat.ble (mentH (h.take n)) n = true := by rw [Nat.ble_eq]; exact e
      rw [hb]; rfl
    · rename_i e
      cases hb : Nat.ble (mentH (h.take n)) n
      · rfl
      · rw [Nat.ble_eq] at hb; exact absurd hb e
@[go_sem] theorem leave2_some {n : Nat} {vs vs' : List AV} : leave2 n h vs (some vs') = leave3 n h vs vs' (Nat.ble (mentH (h.take n)) n) := rfl
@[go_sem] theorem leave2_none {n : Nat} {vs : List AV} : leave2 n h vs none = (packed vs, some h) := rfl
@[go_sem] theorem leave3_true {n : Nat} {vs vs' : List AV} : leave3 n h vs vs' true = (packed vs', some (h.take n)) := rfl
@[go_sem] theorem leave3_false {n : Nat} {vs vs' : List AV} : leave3 n h vs vs' false = (packed vs, some h) := rfl
@[go_sem] theorem packed_one {v : AV} : packed [v] = v := rfl
@[go_sem] theorem packed_nil : packed [] = .tup [] := rfl
@[go_sem] theorem packed_two {v w : AV} {r : List AV} : packed (v :: w :: r) = .tup (v :: w :: r) := rfl
def kbody (fn : AFn) (n : Nat) : Ex × Fr × Heap → Out
  | (.exit _, _, _) => none
  | (_, f, h') => (results f h' fn.res).map (leave n h')
def kloop (L : Fr → Heap → Option (Ex × Fr × Heap)) : Option (Ex × Fr × Heap) → Option (Ex × Fr × Heap)
  | some (.normal, f', h') => L f' h'
  | r => r

noncomputable def klast (hs : List Heap) (f : Fr) : Option (Ex × Fr × Heap) := hs.getLast?.map fun h => (.normal, f, h)
noncomputable def kregd (tb : Tab) (cl : Nat → List AV → Heap → Out) (l : List AOper) (w : List (Option (Nat × Nat))) (f : Fr) (h : Heap) (hs : List Heap) : Option (Ex × Fr × Heap) :=
  (opsD tb cl (h :: hs.tail) l w 0 f).bind (klast (h :: hs.tail))
def kheaps (tb : Tab) (cl : Nat → List AV → Heap → Out) (r : List AOper) (w : List (Option (Nat × Nat))) (f : Fr) (d : Option Nat) (h : Heap) (p : AV × Option Heap) : Option (List Heap) := heaps tb cl r w (put f d p.1) (p.2.getD h)
def chk2 (v : AV) (h : Heap) (q : Out) : Prop := ∃ u, q = some (v, u) ∧ u.getD h = h
def chk1 (tb : Tab) (cl : Nat → List AV → Heap → Out) (rho : AO → AV) (o : AOp) (v : AV) (h : Option Heap) : Prop := ∃ u, h.bind (fun h => aop tb cl rho h o) = some (v, u) ∧ some (u.getD (h.getD [])) = h
def chkD (tb : Tab) (cl : Nat → List AV → Heap → Out) (hs : List Heap) (rho : AO → AV) (o : AOp) (v : AV) : List Nat → Prop
  | [] => True
  | j :: r => chk1 tb cl rho o v hs[j]? ∧ chkD tb cl hs rho o v r
open Classical in
theorem chkD_iff {hs : List Heap} {rho : AO → AV} {o : AOp} {v : AV} : ∀ {l : List Nat},
    (l.all (fun j => decide (∃ u, (hs[j]?).bind (fun h => aop tb cl rho h o) = some (v, u) ∧ some (u.getD (hs[j]?.getD [])) = hs[j]?)) = true) = chkD tb cl hs rho o v l
  | [] => by simp [chkD]
  | j :: l => by simp only [List.all_cons, Bool.and_eq_true, decide_eq_true_eq, chkD, chk1, chkD_iff (l := l)]

open Classical in
noncomputable def kDn2 (tb : Tab) (cl : Nat → List AV → Heap → Out) (hs : List Heap) (r : List AOper) (w : List (Option (Nat × Nat))) (k : Nat) (f : Fr) (d : Option Nat) (h : Heap) (p : AV × Option Heap) : Option Fr :=
  if some (p.2.getD h) = hs[k + 1]? then opsD tb cl hs r w (k + 1) (put f d p.1) else none
noncomputable def kDn (tb : Tab) (cl : Nat → List AV → Heap → Out) (hs : List Heap) (o : AOp) (r : List AOper) (w : List (Option (Nat × Nat))) (k : Nat) (f : Fr) (d : Option Nat) (h : Heap) : Option Fr :=
  (aop tb cl (eval tb f) h o).bind (kDn2 tb cl hs r w k f d h)
open Classical in
noncomputable def kDs2 (tb : Tab) (cl : Nat → List AV → Heap → Out) (hs : List Heap) (o : AOp) (r : List AOper) (w : List (Option (Nat × Nat))) (k : Nat) (f : Fr) (d : Option Nat) (l : List Nat) (p : AV × Option Heap) : Option Fr :=
  if chkD tb cl hs (eval tb f) o p.1 l then opsD tb cl hs r w k (put f d p.1) else none
noncomputable def kDs (tb : Tab) (cl : Nat → List AV → Heap → Out) (hs : List Heap) (o : AOp) (r : List AOper) (w : List (Option (Nat × Nat))) (k : Nat) (f : Fr) (d : Option Nat) (l : List Nat) (h : Heap) : Option Fr :=
  (aop tb cl (eval tb f) h o).bind (kDs2 tb cl hs o r w k f d l)
def gsel (d : Option Nat) (o : AOp) (w : Bool) : AV → AOper
  | .b x => ⟨d, none, if x == w then o else .mv (.k (.tup []))⟩
  | .tup [] => ⟨d, none, .mv (.k (.tup []))⟩
  | _ => ⟨d, none, .die⟩
noncomputable def kgD (tb : Tab) (cl : Nat → List AV → Heap → Out) (hs : List Heap) (d : Option Nat) (o : AOp) (r : List AOper) (l : List (Option (Nat × Nat))) (k : Nat) (f : Fr) (w : Bool) : AV → Option Fr
  | .b x => if x == w then opsD tb cl hs (⟨d, none, o⟩ :: r) l k f else opsD tb cl hs r l.tail k (put f d (.tup []))
  | .tup [] => opsD tb cl hs r l.tail k (put f d (.tup []))
  | _ => none
noncomputable def kcond (tb : Tab) (cl : Nat → List AV → Heap → Out) (x y : AC) (f : Fr) (h : Heap) : AV → Option (Ex × Fr × Heap)
  | .b t => if t then exec tb cl x f h else exec tb cl y f h
  | _ => none
@[go_sem] theorem get_nil {t : Nat} : get [] t = .junk := rfl
@[go_sem] theorem get_cons {u t : Nat} {v : AV} : get ((u, v) :: f) t = if u = t then v else get f t := rfl
@[go_sem] theorem put_some {t : Nat} {v : AV} : put f (some t) v = (t, v) :: f := rfl
@[go_sem] theorem put_none {v : AV} : put f none v = f := rfl
@[go_sem] theorem eval_t {n : Nat} : eval tb f (.t n) = get f n := rfl
@[go_sem] theorem eval_k {v : AV} : eval tb f (.k v) = v := rfl
@[go_sem] theorem eval_f {n : Nat} : eval tb f (.f n) = .fn (.func n) [] [] := rfl
@[go_sem] theorem ops_nil : ops tb cl [] f h = some (f, h) := rfl
@[go_sem] theorem ops_cons {d : Option Nat} {o : AOp} {r : List AOper} : ops tb cl (⟨d, none, o⟩ :: r) f h = (aop tb cl (eval tb f) h o).bind (kops tb cl r f d h) := rfl
@[go_sem] theorem kops_none {d : Option Nat} {r : List AOper} {v : AV} : kops tb cl r f d h (v, none) = ops tb cl r (put f d v) h := rfl
@[go_sem] theorem kops_some {d : Option Nat} {r : List AOper} {v : AV} {h' : Heap} : kops tb cl r f d h (v, some h') = ops tb cl r (put f d v) h' := rfl
@[go_sem] theorem opsQ_nil : opsQ tb cl h [] f = some f := rfl
@[go_sem] theorem opsQ_cons {d : Option Nat} {o : AOp} {r : List AOper} : opsQ tb cl h (⟨d, none, o⟩ :: r) f = (aop tb cl (eval tb f) h o).bind (kopsQ tb cl r f d h) := by
  simp only [opsQ, wanted, Option.bind_some, if_true]
  rfl
@[go_sem] theorem kopsQ_none {d : Option Nat} {r : List AOper} {v : AV} : kopsQ tb cl r f d h (v, none) = opsQ tb cl h r (put f d v) := by simp [kopsQ]
@[go_sem] theorem kopsQ_same {d : Option Nat} {r : List AOper} {v : AV} : kopsQ tb cl r f d h (v, some h) = opsQ tb cl h r (put f d v) := by simp [kopsQ]
@[go_sem] theorem exec_skip : exec tb cl .skip f h = some (.normal, f, h) := rfl
@[go_sem] theorem exec_reg {l : List AOper} : exec tb cl (.reg l) f h = (ops tb cl l f h).map (Prod.mk .normal) := rfl
@[go_sem] theorem exec_regq {l : List AOper} : exec tb cl (.regq l) f h = (opsQ tb cl h l f).map fun f => (.normal, f, h) := rfl
@[go_sem] theorem exec_regd {l : List AOper} {w : List (Option (Nat × Nat))} : exec tb cl (.regd l w) f h = (heaps tb cl l w f h).bind (kregd tb cl l w f h) := rfl
@[go_sem] theorem kregd_eq {l : List AOper} {w : List (Option (Nat × Nat))} {x : Heap} {hs : List Heap} : kregd tb cl l w f h (x :: hs) = (opsD tb cl (h :: hs) l w 0 f).bind (klast (h :: hs)) := rfl
@[go_sem] theorem klast_eq {hs : List Heap} : klast hs f = hs.getLast?.map fun h => (.normal, f, h) := rfl
@[go_sem] theorem heaps_nil {w : List (Option (Nat × Nat))} : heaps tb cl [] w f h = some [h] := rfl
@[go_sem] theorem heaps_none {d : Option Nat} {o : AOp} {r : List AOper} {w : List (Option (Nat × Nat))} :
    heaps tb cl (⟨d, none, o⟩ :: r) (none :: w) f h = ((aop tb cl (eval tb f) h o).bind (kheaps tb cl r w f d h)).map (List.cons h) := by
  simp only [heaps, wanted, Option.bind_some, if_true, List.tail_cons, List.head?_cons]
  cases aop tb cl (eval tb f) h o <;> rfl
@[go_sem] theorem heaps_some {d : Option Nat} {o : AOp} {r : List AOper} {w : List (Option (Nat × Nat))} {lh : Nat × Nat} :
    heaps tb cl (⟨d, none, o⟩ :: r) (some lh :: w) f h = (aop tb cl (eval tb f) h o).bind (kheaps tb cl r w f d h) := by
  simp only [heaps, wanted, Option.bind_some, if_true, List.tail_cons, List.head?_cons]
  cases aop tb cl (eval tb f) h o
  · rfl
  · simp only [Option.bind_some, kheaps, Option.map_id']
@[go_sem] theorem kheaps_none {d : Option Nat} {r : List AOper} {w : List (Option (Nat × Nat))} {v : AV} : kheaps tb cl r w f d h (v, none) = heaps tb cl r w (put f d v) h := rfl
@[go_sem] theorem kheaps_some {d : Option Nat} {r : List AOper} {w : List (Option (Nat × Nat))} {v : AV} {h' : Heap} : kheaps tb cl r w f d h (v, some h') = heaps tb cl r w (put f d v) h' := rfl
open Classical in
@[go_sem] theorem opsD_nil {hs : List Heap} {w : List (Option (Nat × Nat))} {k : Nat} : opsD tb cl hs [] w k f = if k + 1 = hs.length then some f else none := rfl
@[go_sem] theorem opsD_none {hs : List Heap} {d : Option Nat} {o : AOp} {r : List AOper} {w : List (Option (Nat × Nat))} {k : Nat} :
    opsD tb cl hs (⟨d, none, o⟩ :: r) (none :: w) k f = (hs[k]?).bind (kDn tb cl hs o r w k f d) := by
  simp only [opsD, wanted, Option.bind_some, if_true]
  rfl
@[go_sem] theorem opsD_some {hs : List Heap} {d : Option Nat} {o : AOp} {r : List AOper} {w : List (Option (Nat × Nat))} {k lo hi : Nat} :
    opsD tb cl hs (⟨d, none, o⟩ :: r) (some (lo, hi) :: w) k f = (hs[k]?).bind (kDs tb cl hs o r w k f d (List.range' lo (hi + 1 - lo))) := by
  simp only [opsD, wanted, Option.bind_some, if_true]
  congr; funext h
  simp only [kDs]
  congr; funext p
  simp only [kDs2]
  by_cases hc : chkD tb cl hs (eval tb f) o p.1 (List.range' lo (hi + 1 - lo))
  · rw [if_pos hc, if_pos (cast chkD_iff.symm hc)]
  · rw [if_neg hc, if_neg (fun x => hc (cast chkD_iff x))]
@[go_sem] theorem kDn_eq {hs : List Heap} {d : Option Nat} {o : AOp} {r : List AOper} {w : List (Option (Nat × Nat))} {k : Nat} : kDn tb cl hs o r w k f d h = (aop tb cl (eval tb f) h o).bind (kDn2 tb cl hs r w k f d h) := rfl
open Classical in
@[go_sem] theorem kDn2_none {hs : List Heap} {d : Option Nat} {r : List AOper} {w : List (Option (Nat × Nat))} {k : Nat} {v : AV} : kDn2 tb cl hs r w k f d h (v, none) = if some h = hs[k + 1]? then opsD tb cl hs r w (k + 1) (put f d v) else none := rfl
open Classical in
@[go_sem] theorem kDn2_some {hs : List Heap} {d : Option Nat} {r : List AOper} {w : List (Option (Nat × Nat))} {k : Nat} {v : AV} {h' : Heap} : kDn2 tb cl hs r w k f d h (v, some h') = if some h' = hs[k + 1]? then opsD tb cl hs r w (k + 1) (put f d v) else none := rfl
@[go_sem] theorem kDs_eq {hs : List Heap} {d : Option Nat} {o : AOp} {r : List AOper} {w : List (Option (Nat × Nat))} {k : Nat} {l : List Nat} : kDs tb cl hs o r w k f d l h = (aop tb cl (eval tb f) h o).bind (kDs2 tb cl hs o r w k f d l) := rfl
open Classical in
@[go_sem] theorem kDs2_eq {hs : List Heap} {d : Option Nat} {o : AOp} {r : List AOper} {w : List (Option (Nat × Nat))} {k : Nat} {l : List Nat} {v : AV} {u : Option Heap} : kDs2 tb cl hs o r w k f d l (v, u) = if chkD tb cl hs (eval tb f) o v l then opsD tb cl hs r w k (put f d v) else none := rfl
@[go_sem] theorem chkD_nil {hs : List Heap} {rho : AO → AV} {o : AOp} {v : AV} : chkD tb cl hs rho o v [] = True := rfl
@[go_sem] theorem chkD_cons {hs : List Heap} {rho : AO → AV} {o : AOp} {v : AV} {j : Nat} {r : List Nat} : chkD tb cl hs rho o v (j :: r) = (chk1 tb cl rho o v hs[j]? ∧ chkD tb cl hs rho o v r) := rfl
@[go_sem] theorem chk1_some {rho : AO → AV} {o : AOp} {v : AV} : chk1 tb cl rho o v (some h) = chk2 v h (aop tb cl rho h o) := by simp [chk1, chk2]
@[go_sem] theorem chk2_none {v : AV} : chk2 v h (some (v, none)) = True := by simp [chk2]
@[go_sem] theorem chk2_same {v : AV} : chk2 v h (some (v, some h)) = True := by simp [chk2]
/-! What waits for a test: the test picks the operation, the code. -/
@[go_sem] theorem gsel_tt {d : Option Nat} {o : AOp} : gsel d o true (.b true) = ⟨d, none, o⟩ := rfl
@[go_sem] theorem gsel_tf {d : Option Nat} {o : AOp} : gsel d o true (.b false) = ⟨d, none, .mv (.k (.tup []))⟩ := rfl
@[go_sem] theorem gsel_ft {d : Option Nat} {o : AOp} : gsel d o false (.b true) = ⟨d, none, .mv (.k (.tup []))⟩ := rfl
@[go_sem] theorem gsel_ff {d : Option Nat} {o : AOp} : gsel d o false (.b false) = ⟨d, none, o⟩ := rfl
@[go_sem] theorem gsel_u {d : Option Nat} {o : AOp} {w : Bool} : gsel d o w (.tup []) = ⟨d, none, .mv (.k (.tup []))⟩ := rfl
@[go_sem] theorem gsel_td {d : Option Nat} {o : AOp} {p : Prop} [Decidable p] : gsel d o true (.b (decide p)) = if p then ⟨d, none, o⟩ else ⟨d, none, .mv (.k (.tup []))⟩ := by by_cases h : p <;> simp [gsel, h]
@[go_sem] theorem gsel_fd {d : Option Nat} {o : AOp} {p : Prop} [Decidable p] : gsel d o false (.b (decide p)) = if p then ⟨d, none, .mv (.k (.tup []))⟩ else ⟨d, none, o⟩ := by by_cases h : p <;> simp [gsel, h]
@[go_sem] theorem gsel_tn {d : Option Nat} {o : AOp} {p : Prop} [Decidable p] : gsel d o true (.b (!decide p)) = if p then ⟨d, none, .mv (.k (.tup []))⟩ else ⟨d, none, o⟩ := by by_cases h : p <;> simp [gsel, h]
@[go_sem] theorem gsel_fn {d : Option Nat} {o : AOp} {p : Prop} [Decidable p] : gsel d o false (.b (!decide p)) = if p then ⟨d, none, o⟩ else ⟨d, none, .mv (.k (.tup []))⟩ := by by_cases h : p <;> simp [gsel, h]
theorem wanted_gsel {d : Option Nat} {o : AOp} {t : Nat} {w : Bool} {v : AV} (hv : get f t = v) : (∃ x : Bool, wanted f (some (t, w)) = some x ∧ gsel d o w v = ⟨d, none, if x then o else .mv (.k (.tup []))⟩) ∨ (wanted f (some (t, w)) = none ∧ gsel d o w v = ⟨d, none, .die⟩) := by
  simp only [wanted, hv]
  cases v <;> first
    | exact .inl ⟨_, rfl, rfl⟩
    | exact .inr ⟨rfl, rfl⟩
    | (rename_i cs
       cases cs <;> first
         | exact .inl ⟨_, rfl, rfl⟩
         | exact .inr ⟨rfl, rfl⟩)
@[go_sem] theorem ops_guard {d : Option Nat} {o : AOp} {r : List AOper} {t : Nat} {w : Bool} : ops tb cl (⟨d, some (t, w), o⟩ :: r) f h = ops tb cl (gsel d o w (get f t) :: r) f h := by
  rcases wanted_gsel (f := f) (d := d) (o := o) (t := t) (w := w) rfl with ⟨x, h1, h2⟩ | ⟨h1, h2⟩
  · rw [h2]; simp only [ops, h1, Option.bind_some]
    cases x <;> rfl
  · rw [h2]; simp only [ops, h1]; rfl
@[go_sem] theorem opsQ_guard {d : Option Nat} {o : AOp} {r : List AOper} {t : Nat} {w : Bool} : opsQ tb cl h (⟨d, some (t, w), o⟩ :: r) f = opsQ tb cl h (gsel d o w (get f t) :: r) f := by
  rcases wanted_gsel (f := f) (d := d) (o := o) (t := t) (w := w) rfl with ⟨x, h1, h2⟩ | ⟨h1, h2⟩
  · rw [h2]; simp only [opsQ, h1, Option.bind_some]
    cases x <;> simp [aop, eval, wanted]
  · rw [h2]; simp only [opsQ, h1]; rfl
@[go_sem] theorem heaps_guard {d : Option Nat} {o : AOp} {r : List AOper} {l : List (Option (Nat × Nat))} {t : Nat} {w : Bool} : heaps tb cl (⟨d, some (t, w), o⟩ :: r) l f h = heaps tb cl (gsel d o w (get f t) :: r) l f h := by
  rcases wanted_gsel (f := f) (d := d) (o := o) (t := t) (w := w) rfl with ⟨x, h1, h2⟩ | ⟨h1, h2⟩
  · rw [h2]; simp only [heaps, h1, Option.bind_some]
    cases x <;> simp [aop, eval, wanted]
  · rw [h2]; simp only [heaps, h1]; rfl
@[go_sem] theorem opsD_guardD {hs : List Heap} {d : Option Nat} {o : AOp} {r : List AOper} {l : List (Option (Nat × Nat))} {k t lo hi : Nat} {w : Bool} :
    opsD tb cl hs (⟨d, some (t, w), o⟩ :: r) (some (lo, hi) :: l) k f = kgD tb cl hs d o r (some (lo, hi) :: l) k f w (get f t) := by
  simp only [opsD, wanted]
  generalize get f t = v
  cases v <;> first
    | rfl
    | (rename_i x
       simp only [kgD, opsD, wanted, Option.bind_some]
       cases x == w <;> rfl)
    | (rename_i cs
       cases cs <;> rfl)
@[go_sem] theorem kgD_tt {hs : List Heap} {d : Option Nat} {o : AOp} {r : List AOper} {l : List (Option (Nat × Nat))} {k : Nat} : kgD tb cl hs d o r l k f true (.b true) = opsD tb cl hs (⟨d, none, o⟩ :: r) l k f := rfl
@[go_sem] theorem kgD_tf {hs : List Heap} {d : Option Nat} {o : AOp} {r : List AOper} {l : List (Option (Nat × Nat))} {k lo hi : Nat} : kgD tb cl hs d o r (some (lo, hi) :: l) k f true (.b false) = opsD tb cl hs r l k (put f d (.tup [])) := rfl
@[go_sem] theorem kgD_ft {hs : List Heap} {d : Option Nat} {o : AOp} {r : List AOper} {l : List (Option (Nat × Nat))} {k lo hi : Nat} : kgD tb cl hs d o r (some (lo, hi) :: l) k f false (.b true) = opsD tb cl hs r l k (put f d (.tup [])) := rfl
@[go_sem] theorem kgD_u {hs : List Heap} {d : Option Nat} {o : AOp} {r : List AOper} {l : List (Option (Nat × Nat))} {k lo hi : Nat} {w : Bool} : kgD tb cl hs d o r (some (lo, hi) :: l) k f w (.tup []) = opsD tb cl hs r l k (put f d (.tup [])) := rfl
@[go_sem] theorem kgD_ff {hs : List Heap} {d : Option Nat} {o : AOp} {r : List AOper} {l : List (Option (Nat × Nat))} {k : Nat} : kgD tb cl hs d o r l k f false (.b false) = opsD tb cl hs (⟨d, none, o⟩ :: r) l k f := rfl
@[go_sem] theorem exec_cond {c : AO} {x y : AC} : exec tb cl (.cond c x y) f h = kcond tb cl x y f h (eval tb f c) := rfl
@[go_sem] theorem kcond_t {x y : AC} : kcond tb cl x y f h (.b true) = exec tb cl x f h := rfl
@[go_sem] theorem kcond_f {x y : AC} : kcond tb cl x y f h (.b false) = exec tb cl y f h := rfl
@[go_sem] theorem kcond_d {x y : AC} {p : Prop} [Decidable p] : kcond tb cl x y f h (.b (decide p)) = exec tb cl (if p then x else y) f h := by by_cases h : p <;> simp [kcond, h]
@[go_sem] theorem kcond_n {x y : AC} {p : Prop} [Decidable p] : kcond tb cl x y f h (.b (!decide p)) = exec tb cl (if p then y else x) f h := by by_cases h : p <;> simp [kcond, h]
@[go_sem] theorem exec_seq {x y : AC} : exec tb cl (.seq x y) f h = (exec tb cl x f h).bind (kseq tb cl y) := by
  simp only [exec]; congr
@[go_sem] theorem kseq_normal {y : AC} : kseq tb cl y (.normal, f, h) = exec tb cl y f h := rfl
@[go_sem] theorem kseq_exit {y : AC} {id : Nat} : kseq tb cl y (.exit id, f, h) = some (.exit id, f, h) := rfl
@[go_sem] theorem kseq_ret {y : AC} : kseq tb cl y (.ret, f, h) = some (.ret, f, h) := rfl
@[go_sem] theorem exec_blk {id : Nat} {x : AC} : exec tb cl (.blk id x) f h = (exec tb cl x f h).map (kblk id) := by
  simp only [exec]; congr
@[go_sem] theorem kblk_normal {id : Nat} : kblk id (.normal, f, h) = (.normal, f, h) := rfl
@[go_sem] theorem kblk_ret {id : Nat} : kblk id (.ret, f, h) = (.ret, f, h) := rfl
@[go_sem] theorem kblk_exit {id id' : Nat} : kblk id (.exit id', f, h) = if id' = id then (.normal, f, h) else (.exit id', f, h) := rfl
@[go_sem] theorem exec_exit {id : Nat} : exec tb cl (.exit id) f h = some (.exit id, f, h) := rfl
@[go_sem] theorem exec_ret : exec tb cl .ret f h = some (.ret, f, h) := rfl
@[go_sem] theorem exec_keep {live : List Nat} {x : AC} : exec tb cl (.keep live x) f h = (exec tb cl x f h).map (kkeep live) := by
  simp only [exec]; congr
@[go_sem] theorem kkeep_normal {live : List Nat} : kkeep live (.normal, f, h) = (.normal, keepL live f, h) := rfl
@[go_sem] theorem kkeep_ret {live : List Nat} : kkeep live (.ret, f, h) = (.ret, f, h) := rfl
@[go_sem] theorem kkeep_exit {live : List Nat} {id : Nat} : kkeep live (.exit id, f, h) = (.exit id, f, h) := rfl
@[go_sem] theorem round_eq {live : List Nat} {F : Fr → Heap → Option (Ex × Fr × Heap)} : round live F f h = (F (keepL live f) h).map (kround live h.length) := by
  simp only [round]; congr
@[go_sem] theorem kround_normal {live : List Nat} {n : Nat} : kround live n (.normal, f, h) = (.normal, settle n (keepL live f) h) := rfl
@[go_sem] theorem kround_ret {live : List Nat} {n : Nat} : kround live n (.ret, f, h) = (.ret, f, h) := rfl
@[go_sem] theorem kround_exit {live : List Nat} {n id : Nat} : kround live n (.exit id, f, h) = (.exit id, f, h) := rfl
@[go_sem] theorem keepL_nil : keepL [] f = [] := rfl
@[go_sem] theorem keepL_cons {t : Nat} {l : List Nat} : keepL (t :: l) f = (t, get f t) :: keepL l f := rfl
@[go_sem] theorem wanted_none : wanted f none = some true := rfl
@[go_sem] theorem body_eq {fn : AFn} {a : List AV} : body tb cl fn a h = if a.length = fn.np then
    (exec tb cl fn.body (a.zipIdx.map fun p => (p.2, p.1)) h).bind (kbody fn h.length)
  else none := by
  simp only [body]; congr
@[go_sem] theorem kbody_normal {fn : AFn} {n : Nat} : kbody fn n (.normal, f, h) = (results f h fn.res).map (leave n h) := rfl
@[go_sem] theorem kbody_ret {fn : AFn} {n : Nat} : kbody fn n (.ret, f, h) = (results f h fn.res).map (leave n h) := rfl
@[go_sem] theorem results_nil : results f h [] = some [] := rfl
@[go_sem] theorem results_tmp {t : Nat} {r : List ARes} : results f h (.tmp t :: r) = (results f h r).map (get f t :: ·) := rfl
@[go_sem] theorem results_cell {agg : Bool} {n t : Nat} {r : List ARes} : results f h (.cell agg n t :: r) = (load h agg n (get f t)).bind fun v => (results f h r).map (v :: ·) := rfl
@[go_sem] theorem kloop_normal {L : Fr → Heap → Option (Ex × Fr × Heap)} : kloop L (some (.normal, f, h)) = L f h := rfl
@[go_sem] theorem kloop_exit {L : Fr → Heap → Option (Ex × Fr × Heap)} {id : Nat} : kloop L (some (.exit id, f, h)) = some (.exit id, f, h) := rfl
@[go_sem] theorem kloop_ret {L : Fr → Heap → Option (Ex × Fr × Heap)} : kloop L (some (.ret, f, h)) = some (.ret, f, h) := rfl
@[go_sem] theorem kloop_ite {L : Fr → Heap → Option (Ex × Fr × Heap)} {c : Prop} [Decidable c] {a b : Option (Ex × Fr × Heap)} : kloop L (if c then a else b) = if c then kloop L a else kloop L b := by split <;> rfl
theorem lp_k (F : Fr → Heap → Option (Ex × Fr × Heap)) (f : Fr) (h : Heap) : lp F f h = kloop (lp F) (F f h) := by rw [lp_eq]; rfl
end
/-! Operations. -/
section
variable {tb : Tab} {cl : Nat → List AV → Heap → Out} {h : Heap} {rho : AO → AV}
@[go_sem] theorem aop_mv {x : AO} : aop tb cl rho h (.mv x) = some (rho x, none) := rfl
@[go_sem] theorem aop_pick {c a b : AO} : aop tb cl rho h (.pick c a b) = match rho c with
    | .b t => some (if t then rho a else rho b, none)
    | _ => none := rfl
@[go_sem] theorem aop_alloc {z : List AV} : aop tb cl rho h (.alloc z) = some (.ptr h.length 0, some (h ++ [AObj.cells z])) := rfl
@[go_sem] theorem aop_box {n : Nat} {x : AO} : aop tb cl rho h (.box n x) = if (cellsOf (rho x)).length = n then some (.ptr h.length 0, some (h ++ [AObj.cells (cellsOf (rho x))])) else none := rfl
@[go_sem] theorem aop_bld {z : List AV} {ps : List (Nat × Nat × AO)} : aop tb cl rho h (.bld z ps) = val ((fillL z rho ps).map .agg) := rfl
@[go_sem] theorem aop_bls {sz : Nat} {z : List (List AV)} {ps : List (Nat × AO)} : aop tb cl rho h (.bls sz z ps) =
    (fillE z sz rho ps).map fun els => (.orow h.length els.length 0 els.length, some (h ++ [AObj.row false sz els])) := rfl
@[go_sem] theorem aop_bll {sz : Nat} {z : List (List AV)} {ps : List (Nat × AO)} : aop tb cl rho h (.bll sz z ps) = val ((fillE z sz rho ps).map (.sl sz)) := rfl
@[go_sem] theorem aop_ld {agg : Bool} {n : Nat} {a : AO} : aop tb cl rho h (.ld agg n a) = val (load h agg n (rho a)) := rfl
@[go_sem] theorem aop_st {n : Nat} {a x : AO} : aop tb cl rho h (.st n a x) = (store h n (rho a) (rho x)).map fun h => (.junk, some h) := rfl
@[go_sem] theorem aop_nilc {x : AO} : aop tb cl rho h (.nilc x) = match rho x with
  | .ptr a b => some (.ptr a b, none)
  | .pe a b c d => some (.pe a b c d, none)
  | .ip a b => some (.ip a b, none)
  | .fn (.func f) a b => some (.fn (.func f) a b, none)
  | _ => none := rfl
@[go_sem] theorem aop_bin {op : BinOp} {x y : AO} : aop tb cl rho h (.bin op x y) = val (bin op (rho x) (rho y)) := rfl
@[go_sem] theorem aop_eq {ek : EK} {x y : AO} : aop tb cl rho h (.eq false ek x y) = val ((eqK ek (rho x) (rho y)).map .b) := by simp only [aop]; rfl
@[go_sem] theorem aop_ne {ek : EK} {x y : AO} : aop tb cl rho h (.eq true ek x y) = val ((eqK ek (rho x) (rho y)).map fun e => .b !e) := by simp only [aop]; rfl
@[go_sem] theorem aop_un {op : UnOp} {x : AO} : aop tb cl rho h (.un op x) = val (un op (rho x)) := rfl
@[go_sem] theorem aop_cvi {k : IntKind} {x : AO} : aop tb cl rho h (.cvi k x) = (int? (rho x)).map fun n => (.i k (k.wrap n), none) := by
  simp only [aop, int?]
  split <;> simp_all
@[go_sem] theorem aop_cvid {x : AO} : aop tb cl rho h (.cvid x) = match rho x with
    | .s l => some (.s l, none)
    | _ => none := rfl
@[go_sem] theorem aop_cvb {x : AO} : aop tb cl rho h (.cvb x) = match rho x with
    | .s l => some (.orow h.length l.length 0 l.length, some (h ++ [AObj.row false 1 (byteEls l)]))
    | _ => none := rfl
@[go_sem] theorem aop_cvs {x : AO} : aop tb cl rho h (.cvs x) = val (((els? h 1 (rho x)).bind bytes?).map .s) := rfl
@[go_sem] theorem aop_cvc {x : AO} : aop tb cl rho h (.cvc x) = (int? (rho x)).map fun n => (.s (Utf8.encode n).data.toList, none) := by
  simp only [aop, int?]
  split <;> simp_all
@[go_sem] theorem aop_mkf {fn : Fn} {a b : List AO} : aop tb cl rho h (.mkf fn a b) = some (.fn fn (a.map rho) (b.map rho), none) := rfl
@[go_sem] theorem aop_mkm : aop tb cl rho h .mkm = some (.mp h.length, some (h ++ [AObj.map []])) := rfl
@[go_sem] theorem aop_mks {sz bytes : Nat} {z : List AV} {len cap : AO} : aop tb cl rho h (.mks sz bytes z len cap) =
    (int? (rho len)).bind fun l => (int? (rho cap)).bind fun c =>
      if 0 ≤ l ∧ l ≤ c ∧ c * bytes ≤ most then
        some (.orow h.length l.toNat 0 l.toNat, some (h ++ [AObj.row false sz (List.replicate l.toNat z)]))
      else none := rfl
@[go_sem] theorem aop_sls {x : AO} {lo hi : Option AO} : aop tb cl rho h (.sls x lo hi) = match rho x with
    | .s l => (bounds rho l.length lo hi).map fun p => (.s ((l.take p.2).drop p.1), none)
    | _ => none := rfl
@[go_sem] theorem aop_sll {sz : Nat} {x : AO} {lo hi : Option AO} : aop tb cl rho h (.sll sz x lo hi) =
    (len? (rho x)).bind fun len => (bounds rho len lo hi).bind fun p => val (resl h sz (rho x) p.1 p.2) := rfl
@[go_sem] theorem aop_sla {n sz : Nat} {x : AO} {lo hi : Option AO} : aop tb cl rho h (.sla n sz x lo hi) = (bounds rho n lo hi).bind fun p => val (arrsl h n sz (rho x) p.1 p.2) := rfl
@[go_sem] theorem aop_fa {off : Nat} {x : AO} : aop tb cl rho h (.fa off x) = val (shift off (rho x)) := rfl
@[go_sem] theorem aop_fld {agg : Bool} {off n : Nat} {x : AO} : aop tb cl rho h (.fld agg off n x) = match rho x with
    | .agg cs => if off + n ≤ cs.length then val (asVal agg (sub cs off n)) else none
    | _ => none := rfl
@[go_sem] theorem aop_ias {sz : Nat} {x i : AO} : aop tb cl rho h (.ias sz x i) = (int? (rho i)).bind fun n => if 0 ≤ n then val (iaddr h sz (rho x) n.toNat) else none := rfl
@[go_sem] theorem aop_iaa {len sz : Nat} {x i : AO} : aop tb cl rho h (.iaa len sz x i) = (int? (rho i)).bind fun n => if 0 ≤ n ∧ n < len then val (shift (n.toNat * sz) (rho x)) else none := rfl
@[go_sem] theorem aop_ixa {len sz : Nat} {agg : Bool} {x i : AO} : aop tb cl rho h (.ixa len sz agg x i) = (int? (rho i)).bind fun n => match rho x with
      | .agg cs => if 0 ≤ n ∧ n < len ∧ len * sz ≤ cs.length then val (asVal agg (sub cs (n.toNat * sz) sz)) else none
      | _ => none := rfl
@[go_sem] theorem aop_ixs {x i : AO} : aop tb cl rho h (.ixs x i) = (int? (rho i)).bind fun n => match rho x with
      | .s l => if 0 ≤ n then (l[n.toNat]?).map fun c => (.i .u8 c.toNat, none) else none
      | _ => none := rfl
@[go_sem] theorem aop_lkp {ek : EK} {z : AV} {ok : Bool} {m k : AO} : aop tb cl rho h (.lkp ek z ok m k) =
    (entries h (rho m)).bind fun es => (find ek (rho k) es 0).map fun r => match r with
        | some (_, v) => (if ok then .tup [v, .b true] else v, none)
        | none => (if ok then .tup [z, .b false] else z, none) := rfl
@[go_sem] theorem aop_mup {ek : EK} {m k v : AO} : aop tb cl rho h (.mup ek m k v) = match rho m with
    | .mp id => (mapAt h id).bind fun es => (find ek (rho k) es 0).map fun r => match r with
        | some (i, _) => (.junk, some (h.set id (AObj.map (es.set i (rho k, rho v)))))
        | none => (.junk, some (h.set id (AObj.map (es ++ [(rho k, rho v)]))))
    | _ => none := rfl
@[go_sem] theorem aop_rng {x : AO} : aop tb cl rho h (.rng x) = match rho x with
    | .s l => some (.ptr h.length 0, some (h ++ [AObj.iter l 0]))
    | _ => none := rfl
@[go_sem] theorem aop_nxt {x : AO} : aop tb cl rho h (.nxt x) = match rho x with
    | .ptr id off => (iterAt h id).bind fun it =>
      if off = 0 then
        if it.2 < it.1.length then
          some (.tup [.b true, .i .i64 it.2, .i .i32 (Utf8.decode ⟨it.1.toArray⟩ it.2).1], some (h.set id (AObj.iter it.1 (it.2 + (Utf8.decode ⟨it.1.toArray⟩ it.2).2))))
        else some (.tup [.b false], none)
      else none
    | _ => none := rfl
@[go_sem] theorem aop_ext {x : AO} {i : Nat} : aop tb cl rho h (.ext x i) = match rho x with
    | .tup vs => val (vs[i]?)
    | _ => none := rfl
@[go_sem] theorem aop_s2a {n sz : Nat} {x : AO} : aop tb cl rho h (.s2a n sz x) = val (arrOf n sz (rho x)) := rfl
@[go_sem] theorem aop_mkif {t : Nat} {x : AO} : aop tb cl rho h (.mkif t x) = some (.ifc t (rho x), none) := rfl
@[go_sem] theorem aop_call {f : Nat} {xs : List AO} : aop tb cl rho h (.call f xs) = calling tb cl h f (xs.map rho) := rfl
@[go_sem] theorem aop_callv {x : AO} {xs : List AO} : aop tb cl rho h (.callv x xs) = match rho x with
    | .fn (.func f) first captured => calling tb cl h f (first ++ xs.map rho ++ captured)
    | _ => none := rfl
@[go_sem] theorem aop_lens {x : AO} : aop tb cl rho h (.lens x) = match rho x with
    | .s l => some (.i .i64 (l.length : Nat), none)
    | _ => none := rfl
@[go_sem] theorem aop_len {x : AO} : aop tb cl rho h (.len x) = (len? (rho x)).map fun (n : Nat) => (.i .i64 (n : Int), none) := rfl
@[go_sem] theorem aop_app {sz bytes : Nat} {s x : AO} : aop tb cl rho h (.app sz bytes s x) = (news h sz (rho x)).bind (appd h sz bytes (rho s)) := rfl
@[go_sem] theorem aop_cpy {sz : Nat} {d s : AO} : aop tb cl rho h (.cpy sz d s) = (news h sz (rho s)).bind (copyTo h sz (rho d)) := rfl
@[go_sem] theorem aop_mnx {max : Bool} {x y : AO} : aop tb cl rho h (.mnx max x y) = match rho x, rho y with
    | .i k a, .i k' b => if k = k' then some (.i k (if max then (if b > a then b else a) else (if b < a then b else a)), none) else none
    | _, _ => none := rfl
@[go_sem] theorem aop_clr {z : List AV} {x : AO} : aop tb cl rho h (.clr z x) = match rho x with
    | .nils => some (.tup [], none)
    | .orow id n lo len => (rowAt h id).bind fun r =>
      if r.1 = false ∧ n = r.2.2.length ∧ lo + len ≤ n ∧ z.length = r.2.1 then
        some (.tup [], some (h.set id (AObj.row false r.2.1 (r.2.2.take lo ++ List.replicate len z ++ r.2.2.drop (lo + len)))))
      else none
    | .mp id => (mapAt h id).map fun _ => (.tup [], some (h.set id (AObj.map [])))
    | _ => none := rfl
@[go_sem] theorem aop_del {ek : EK} {m k : AO} : aop tb cl rho h (.del ek m k) = match rho m with
    | .nilm => some (.tup [], none)
    | .mp id => (mapAt h id).bind fun es => (find ek (rho k) es 0).map fun r => match r with
        | some (i, _) => (.tup [], some (h.set id (AObj.map (es.eraseIdx i))))
        | none => (.tup [], none)
    | _ => none := rfl
@[go_sem] theorem aop_lenm {m : AO} : aop tb cl rho h (.lenm m) = (entries h (rho m)).map fun es => (.i .i64 es.length, none) := rfl
end

/-! Their parts. -/
section
variable {h : Heap} {k : IntKind} {a b : Int}
@[go_sem] theorem int?_i {n : Int} : int? (.i k n) = some n := rfl
@[go_sem] theorem bin_add : bin .add (.i k a) (.i k b) = some (.i k (k.wrap (a + b))) := by simp [bin]
@[go_sem] theorem bin_sub : bin .sub (.i k a) (.i k b) = some (.i k (k.wrap (a - b))) := by simp [bin]
@[go_sem] theorem bin_mul : bin .mul (.i k a) (.i k b) = some (.i k (k.wrap (a * b))) := by simp [bin]
@[go_sem] theorem bin_quo : bin .quo (.i k a) (.i k b) = if b = 0 then none else some (.i k (k.wrap (a.tdiv b))) := by simp [bin]
@[go_sem] theorem bin_rem : bin .rem (.i k a) (.i k b) = if b = 0 then none else some (.i k (a.tmod b)) := by simp [bin]
@[go_sem] theorem bin_eql : bin .eql (.i k a) (.i k b) = some (.b (decide (a = b))) := by simp [bin]; rfl
@[go_sem] theorem bin_neq : bin .neq (.i k a) (.i k b) = some (.b (!decide (a = b))) := by simp [bin]; rfl
@[go_sem] theorem bin_lss : bin .lss (.i k a) (.i k b) = some (.b (decide (a < b))) := by simp [bin]
@[go_sem] theorem bin_leq : bin .leq (.i k a) (.i k b) = some (.b (decide (a ≤ b))) := by simp [bin]
@[go_sem] theorem bin_gtr : bin .gtr (.i k a) (.i k b) = some (.b (decide (b < a))) := by simp [bin]
@[go_sem] theorem bin_geq : bin .geq (.i k a) (.i k b) = some (.b (decide (b ≤ a))) := by simp [bin]
@[go_sem] theorem bin_and : bin .and (.i k a) (.i k b) = some (.i k (bitsI .and k a b)) := by simp [bin]
@[go_sem] theorem bin_or : bin .or (.i k a) (.i k b) = some (.i k (bitsI .or k a b)) := by simp [bin]
@[go_sem] theorem bin_xor : bin .xor (.i k a) (.i k b) = some (.i k (bitsI .xor k a b)) := by simp [bin]
@[go_sem] theorem bin_andNot : bin .andNot (.i k a) (.i k b) = some (.i k (bitsI .andNot k a b)) := by simp [bin]
@[go_sem] theorem bin_shl {k' : IntKind} : bin .shl (.i k a) (.i k' b) = if b < 0 then none else some (.i k (k.wrap (a * 2 ^ (min b.toNat k.bits)))) := by simp [bin]
@[go_sem] theorem bin_shr {k' : IntKind} : bin .shr (.i k a) (.i k' b) = if b < 0 then none else some (.i k (a.fdiv (2 ^ (min b.toNat k.bits)))) := by simp [bin]
section
variable {x y : List UInt8}
@[go_sem] theorem bin_sadd : bin .add (.s x) (.s y) = if x.length + y.length ≤ 2 * most then some (.s (x ++ y)) else none := by simp [bin]
@[go_sem] theorem bin_seql : bin .eql (.s x) (.s y) = some (.b (decide (x = y))) := by simp only [bin]; congr 2; rw [Bool.eq_iff_iff]; simp
@[go_sem] theorem bin_sneq : bin .neq (.s x) (.s y) = some (.b (!decide (x = y))) := by simp only [bin]; congr 3; rw [Bool.eq_iff_iff]; simp
@[go_sem] theorem news_s : news h 1 (.s x) = some (byteEls x) := rfl
end
@[go_sem] theorem un_not {x : Bool} : un .not (.b x) = some (.b !x) := rfl
@[go_sem] theorem un_neg : un .neg (.i k a) = some (.i k (k.wrap (0 - a))) := rfl
@[go_sem] theorem un_xor : un .xor (.i k a) = some (.i k (bitsI .xor k (if k.signed then -1 else k.max) a)) := rfl
@[go_sem] theorem asVal_true {cs : List AV} : asVal true cs = some (.agg cs) := by simp [asVal]
@[go_sem] theorem asVal_false {v : AV} : asVal false [v] = some v := rfl
@[go_sem] theorem cellsOf_agg {cs : List AV} : cellsOf (.agg cs) = cs := rfl
@[go_sem] theorem cellsOf_b {x : Bool} : cellsOf (.b x) = [.b x] := rfl
@[go_sem] theorem cellsOf_i : cellsOf (.i k a) = [.i k a] := rfl
@[go_sem] theorem cellsOf_s {l : List UInt8} : cellsOf (.s l) = [.s l] := rfl
@[go_sem] theorem cellsOf_nilp : cellsOf .nilp = [.nilp] := rfl
@[go_sem] theorem cellsOf_nils : cellsOf .nils = [.nils] := rfl
@[go_sem] theorem cellsOf_nilm : cellsOf .nilm = [.nilm] := rfl
@[go_sem] theorem cellsOf_nilf : cellsOf .nilf = [.nilf] := rfl
@[go_sem] theorem cellsOf_nili : cellsOf .nili = [.nili] := rfl
@[go_sem] theorem cellsOf_ptr {id off : Nat} : cellsOf (.ptr id off) = [.ptr id off] := rfl
@[go_sem] theorem cellsOf_pe {id n i off : Nat} : cellsOf (.pe id n i off) = [.pe id n i off] := rfl
@[go_sem] theorem cellsOf_sl {sz : Nat} {els : List (List AV)} : cellsOf (.sl sz els) = [.sl sz els] := rfl
@[go_sem] theorem cellsOf_orow {id n lo len : Nat} : cellsOf (.orow id n lo len) = [.orow id n lo len] := rfl
@[go_sem] theorem cellsOf_ocel {sz id off len : Nat} : cellsOf (.ocel sz id off len) = [.ocel sz id off len] := rfl
@[go_sem] theorem cellsOf_mp {id : Nat} : cellsOf (.mp id) = [.mp id] := rfl
@[go_sem] theorem cellsOf_fn {f : Fn} {x y : List AV} : cellsOf (.fn f x y) = [.fn f x y] := rfl
@[go_sem] theorem cellsOf_ifc {t : Nat} {v : AV} : cellsOf (.ifc t v) = [.ifc t v] := rfl
section
variable {agg : Bool} {n id off : Nat} {cs : List AV}
@[go_sem] theorem load_ip : load h agg n (.ip cs off) = if off + n ≤ cs.length then asVal agg (sub cs off n) else none := rfl
@[go_sem] theorem load_ptr : load h agg n (.ptr id off) = (cellsAt h id).bind fun cs => if off + n ≤ cs.length then asVal agg (sub cs off n) else none := by
  simp only [load, place]; cases cellsAt h id <;> rfl
@[go_sem] theorem load_pe {m i : Nat} : load h agg n (.pe id m i off) = (rowAt h id).bind fun r => if m = r.2.2.length then (r.2.2[i]?).bind fun cs => if off + n ≤ cs.length then asVal agg (sub cs off n) else none else none := by
  simp only [load, place]
  cases rowAt h id with
  | none => rfl
  | some r =>
    simp only [Option.bind_some]
    split
    · cases r.2.2[i]? <;> rfl
    · rfl
@[go_sem] theorem store_ptr {x : AV} : store h n (.ptr id off) x = (cellsAt h id).bind fun cs =>
    if (cellsOf x).length = n ∧ off + n ≤ cs.length then some (h.set id (AObj.cells (splice cs off (cellsOf x)))) else none := rfl
@[go_sem] theorem store_pe {m i : Nat} {x : AV} : store h n (.pe id m i off) x = (rowAt h id).bind fun r =>
    if r.1 = false ∧ m = r.2.2.length ∧ (cellsOf x).length = n then
      (r.2.2[i]?).bind fun cs => if off + n ≤ cs.length then some (h.set id (AObj.row false r.2.1 (r.2.2.set i (splice cs off (cellsOf x))))) else none
    else none := rfl
@[go_sem] theorem shift_ptr {m : Nat} : shift m (.ptr id off) = some (.ptr id (off + m)) := rfl
@[go_sem] theorem shift_pe {m i q : Nat} : shift m (.pe id q i off) = some (.pe id q i (off + m)) := rfl
@[go_sem] theorem shift_ip {m : Nat} : shift m (.ip cs off) = some (.ip cs (off + m)) := rfl
theorem zz_nil : zz [] = [] := rfl
theorem zz_cons {n : Nat} {v : AV} {r : List (Nat × AV)} : zz ((n, v) :: r) = List.replicate n v ++ zz r := rfl
theorem kk_nil : kk [] = [] := rfl
theorem kk_cons {n : Nat} {c : CK} {r : List (Nat × CK)} : kk ((n, c) :: r) = List.replicate n c ++ kk r := rfl
@[go_sem] theorem len?_nils : len? .nils = some 0 := rfl
@[go_sem] theorem len?_sl {sz : Nat} {els : List (List AV)} : len? (.sl sz els) = some els.length := rfl
@[go_sem] theorem len?_orow {m lo len : Nat} : len? (.orow id m lo len) = some len := rfl
@[go_sem] theorem len?_ocel {sz len : Nat} : len? (.ocel sz id off len) = some len := rfl
@[go_sem] theorem els?_nils {sz : Nat} : els? h sz .nils = some [] := rfl
@[go_sem] theorem els?_sl {sz sz' : Nat} {els : List (List AV)} : els? h sz (.sl sz' els) = if sz' = sz then some els else none := rfl
@[go_sem] theorem els?_orow {sz m lo len : Nat} : els? h sz (.orow id m lo len) = (rowAt h id).bind fun r => if m = r.2.2.length ∧ r.2.1 = sz ∧ lo + len ≤ m then some ((r.2.2.drop lo).take len) else none := rfl
@[go_sem] theorem els?_ocel {sz sz' len : Nat} : els? h sz (.ocel sz' id off len) = (cellsAt h id).bind fun cs => if sz' = sz ∧ off + len * sz ≤ cs.length then some (chunks sz len (cs.drop off)) else none := rfl
@[go_sem] theorem news_nils {sz : Nat} : news h sz .nils = some [] := rfl
@[go_sem] theorem news_sl {sz sz' : Nat} {els : List (List AV)} : news h sz (.sl sz' els) = if sz' = sz then some els else none := rfl
@[go_sem] theorem news_orow {sz m lo len : Nat} : news h sz (.orow id m lo len) = (rowAt h id).bind fun r => if m = r.2.2.length ∧ r.2.1 = sz ∧ lo + len ≤ m then some ((r.2.2.drop lo).take len) else none := rfl
@[go_sem] theorem news_ocel {sz sz' len : Nat} : news h sz (.ocel sz' id off len) = (cellsAt h id).bind fun cs => if sz' = sz ∧ off + len * sz ≤ cs.length then some (chunks sz len (cs.drop off)) else none := rfl
@[go_sem] theorem appd_nils {sz bytes : Nat} {new : List (List AV)} : appd h sz bytes .nils new = if new.length = 0 then some (.nils, none)
    else if new.length * bytes ≤ most then some (.orow h.length new.length 0 new.length, some (h ++ [AObj.row false sz new])) else none := rfl
@[go_sem] theorem appd_orow {sz bytes m lo len : Nat} {new : List (List AV)} : appd h sz bytes (.orow id m lo len) new = (rowAt h id).bind fun r =>
    if lo = 0 ∧ m = r.2.2.length ∧ len = m ∧ r.2.1 = sz ∧ (m + new.length) * bytes ≤ most then
      if new.length = 0 then some (.orow id m 0 m, none)
      else some (.orow id (m + new.length) 0 (m + new.length), some (h.set id (AObj.row r.1 sz (r.2.2 ++ new))))
    else none := rfl
@[go_sem] theorem arrsl_ptr {m sz a b : Nat} : arrsl h m sz (.ptr id off) a b = (cellsAt h id).bind fun cs => if off + m * sz ≤ cs.length then some (.ocel sz id (off + a * sz) (b - a)) else none := rfl
@[go_sem] theorem arrsl_ip {m sz a b : Nat} : arrsl h m sz (.ip cs off) a b = if off + m * sz ≤ cs.length then some (.sl sz (((chunks sz m (cs.drop off)).take b).drop a)) else none := rfl
@[go_sem] theorem resl_nils {sz a b : Nat} : resl h sz .nils a b = some .nils := rfl
@[go_sem] theorem resl_sl {sz sz' a b : Nat} {els : List (List AV)} : resl h sz (.sl sz' els) a b = if sz' = sz then some (.sl sz ((els.take b).drop a)) else none := rfl
@[go_sem] theorem resl_orow {sz m lo len a b : Nat} : resl h sz (.orow id m lo len) a b = (rowAt h id).bind fun r => if m = r.2.2.length ∧ r.2.1 = sz ∧ lo + len ≤ m then some (.orow id m (lo + a) (b - a)) else none := rfl
@[go_sem] theorem resl_ocel {sz sz' len a b : Nat} : resl h sz (.ocel sz' id off len) a b = if sz' = sz then some (.ocel sz id (off + a * sz) (b - a)) else none := rfl
@[go_sem] theorem bounds_eq {rho : AO → AV} {len : Nat} {lo hi : Option AO} : bounds rho len lo hi = (match hi with
    | none => some len
    | some x => bound? (rho x) len).bind fun h =>
  (match lo with
    | none => some 0
    | some x => bound? (rho x) h).bind fun l => some (l, h) := rfl
@[go_sem] theorem bound?_i {m : Nat} : bound? (.i k a) m = if 0 ≤ a ∧ a ≤ m then some a.toNat else none := rfl
@[go_sem] theorem fillL_nil {rho : AO → AV} : fillL cs rho [] = some cs := rfl
@[go_sem] theorem fillL_cons {rho : AO → AV} {x : AO} {r : List (Nat × Nat × AO)} : fillL cs rho ((off, n, x) :: r) =
    if (cellsOf (rho x)).length = n ∧ off + n ≤ cs.length then fillL (splice cs off (cellsOf (rho x))) rho r else none := rfl
@[go_sem] theorem fillE_nil {rho : AO → AV} {els : List (List AV)} {sz : Nat} : fillE els sz rho [] = some els := rfl
@[go_sem] theorem fillE_cons {rho : AO → AV} {els : List (List AV)} {sz i : Nat} {x : AO} {r : List (Nat × AO)} : fillE els sz rho ((i, x) :: r) =
    if (cellsOf (rho x)).length = sz ∧ i < els.length then fillE (els.set i (cellsOf (rho x))) sz rho r else none := rfl
end
section
variable {id off n i lo len sz t : Nat} {cs a b : List AV} {els : List (List AV)} {fn : Fn} {v : AV}
@[go_sem] theorem eqK_p0 : eqK .p .nilp .nilp = some true := rfl
@[go_sem] theorem eqK_m1 : eqK .m .nilm .nilm = some true := rfl
@[go_sem] theorem eqK_f2 : eqK .f .nilf .nilf = some true := rfl
@[go_sem] theorem eqK_sl3 : eqK .sl .nils .nils = some true := rfl
@[go_sem] theorem eqK_p4 : eqK .p .nilp (.ptr id off) = some false := rfl
@[go_sem] theorem eqK_p5 : eqK .p (.ptr id off) .nilp = some false := rfl
@[go_sem] theorem eqK_p6 : eqK .p .nilp (.pe id n i off) = some false := rfl
@[go_sem] theorem eqK_p7 : eqK .p (.pe id n i off) .nilp = some false := rfl
@[go_sem] theorem eqK_p8 : eqK .p .nilp (.ip cs off) = some false := rfl
@[go_sem] theorem eqK_p9 : eqK .p (.ip cs off) .nilp = some false := rfl
@[go_sem] theorem eqK_m10 : eqK .m .nilm (.mp id) = some false := rfl
@[go_sem] theorem eqK_m11 : eqK .m (.mp id) .nilm = some false := rfl
@[go_sem] theorem eqK_f12 : eqK .f .nilf (.fn fn a b) = some false := rfl
@[go_sem] theorem eqK_f13 : eqK .f (.fn fn a b) .nilf = some false := rfl
@[go_sem] theorem eqK_sl14 : eqK .sl .nils (.sl sz els) = some false := rfl
@[go_sem] theorem eqK_sl15 : eqK .sl (.sl sz els) .nils = some false := rfl
@[go_sem] theorem eqK_sl16 : eqK .sl .nils (.orow id n lo len) = some false := rfl
@[go_sem] theorem eqK_sl17 : eqK .sl (.orow id n lo len) .nils = some false := rfl
@[go_sem] theorem eqK_sl18 : eqK .sl .nils (.ocel sz id off len) = some false := rfl
@[go_sem] theorem eqK_sl19 : eqK .sl (.ocel sz id off len) .nils = some false := rfl
@[go_sem] theorem eqK_n20 : eqK .n .nili (.ifc t v) = some false := rfl
@[go_sem] theorem eqK_n21 : eqK .n (.ifc t v) .nili = some false := rfl
@[go_sem] theorem eqK_b {x y : Bool} : eqK (.one .b) (.b x) (.b y) = some (decide (x = y)) := by cases x <;> cases y <;> rfl
@[go_sem] theorem eqK_i {k : IntKind} {x y : Int} : eqK (.one (.i k)) (.i k x) (.i k y) = some (decide (x = y)) := by simp [eqK, eq1]; rfl
@[go_sem] theorem eqK_str {x y : List UInt8} : eqK (.one .s) (.s x) (.s y) = some (decide (x = y)) := by simp only [eqK, eq1, Option.some.injEq]; rw [Bool.eq_iff_iff]; simp
end
/-! Memory. -/
section
variable {g : Heap} {o : AObj} {n id : Nat}
theorem at_app (m : Nat) (e : h.length = m) : (h ++ g)[m + n]? = g[n]? := by rw [List.getElem?_append_right (by omega)]; congr 1; omega
@[go_sem] theorem cellsAt_app : cellsAt (h ++ g) (h.length + n) = cellsAt g n := by simp only [cellsAt, at_app _ rfl]
@[go_sem] theorem cellsAt_app0 : cellsAt (h ++ g) h.length = cellsAt g 0 := by have := @cellsAt_app h g 0; simpa using this
theorem cellsAt_old (hi : id < h.length) : cellsAt (h ++ g) id = cellsAt h id := by simp only [cellsAt, List.getElem?_append_left hi]
@[go_sem] theorem cellsAt_zero {cs : List AV} : cellsAt (.cells cs :: g) 0 = some cs := rfl
@[go_sem] theorem cellsAt_succ : cellsAt (o :: g) (n + 1) = cellsAt g n := by simp [cellsAt]
@[go_sem] theorem rowAt_app : rowAt (h ++ g) (h.length + n) = rowAt g n := by simp only [rowAt, at_app _ rfl]
@[go_sem] theorem rowAt_app0 : rowAt (h ++ g) h.length = rowAt g 0 := by have := @rowAt_app h g 0; simpa using this
theorem rowAt_old (hi : id < h.length) : rowAt (h ++ g) id = rowAt h id := by simp only [rowAt, List.getElem?_append_left hi]
@[go_sem] theorem rowAt_zero {fz : Bool} {sz : Nat} {els : List (List AV)} : rowAt (.row fz sz els :: g) 0 = some (fz, sz, els) := rfl
@[go_sem] theorem rowAt_succ : rowAt (o :: g) (n + 1) = rowAt g n := by simp [rowAt]
@[go_sem] theorem mapAt_app : mapAt (h ++ g) (h.length + n) = mapAt g n := by simp only [mapAt, at_app _ rfl]
@[go_sem] theorem mapAt_app0 : mapAt (h ++ g) h.length = mapAt g 0 := by have := @mapAt_app h g 0; simpa using this
theorem mapAt_old (hi : id < h.length) : mapAt (h ++ g) id = mapAt h id := by simp only [mapAt, List.getElem?_append_left hi]
@[go_sem] theorem mapAt_zero {es : List (AV × AV)} : mapAt (.map es :: g) 0 = some es := rfl
@[go_sem] theorem mapAt_succ : mapAt (o :: g) (n + 1) = mapAt g n := by simp [mapAt]
@[go_sem] theorem iterAt_app : iterAt (h ++ g) (h.length + n) = iterAt g n := by simp only [iterAt, at_app _ rfl]
@[go_sem] theorem iterAt_app0 : iterAt (h ++ g) h.length = iterAt g 0 := by have := @iterAt_app h g 0; simpa using this
@[go_sem] theorem iterAt_zero {l : List UInt8} {p : Nat} : iterAt (.iter l p :: g) 0 = some (l, p) := rfl
@[go_sem] theorem iterAt_succ : iterAt (o :: g) (n + 1) = iterAt g n := by simp [iterAt]
@[go_sem] theorem set_app : (h ++ g).set (h.length + n) o = h ++ g.set n o := by
  rw [List.set_append, if_neg (by omega)]; congr 2; omega
@[go_sem] theorem set_app0 : (h ++ g).set h.length o = h ++ g.set 0 o := @set_app h g o 0
theorem set_old (hi : id < h.length) : (h ++ g).set id o = h.set id o ++ g := by rw [List.set_append, if_pos hi]
@[go_sem] theorem take_app : (h ++ g).take h.length = h := List.take_left
@[go_sem] theorem take_add {k : Nat} : (h ++ g).take (h.length + k) = h ++ g.take k := by rw [List.take_append, List.take_of_length_le (by omega)]; congr 2; omega
@[go_sem] theorem at_add {k : Nat} : (h ++ g)[h.length + k]? = g[k]? := at_app _ rfl
@[go_sem] theorem at_add0 : (h ++ g)[h.length]? = g[0]? := by have := @at_add h g 0; simpa using this
/-! Who moves up. -/
section
variable {f : Fr} {L : Nat}
@[go_sem] theorem settle_eq : settle n f h = settle2 n f h (Nat.ble (max (mentF f) (mentH (h.take n))) n) := rfl
@[go_sem] theorem settle2_true : settle2 n f h true = (f, h.take n) := rfl
@[go_sem] theorem settle2_false : settle2 n f h false = settle3 n f h (max (mentF f) (mentH (h.take n)) - 1) := rfl
@[go_sem] theorem settle3_eq : settle3 n f h L = settle4 n f h h[L]? (mvF n L f) (mvH n L (h.take n)) := rfl
@[go_sem] theorem settle4_eq {f' : Fr} {h1 : Heap} : settle4 n f h (some o) (some f') (some h1) = if mentO o ≤ n then (f', h1 ++ [o]) else (f, h) := rfl
@[go_sem] theorem ble_true {a b : Nat} (e : a ≤ b) : Nat.ble a b = true := Nat.ble_eq.symm ▸ e
@[go_sem] theorem ble_false {a b : Nat} (e : b < a) : Nat.ble a b = false := by
  cases h : Nat.ble a b
  · rfl
  · rw [Nat.ble_eq] at h; omega
@[go_sem] theorem add_one_sub {a : Nat} : a + 1 - 1 = a := rfl
section
variable {off k lo len i : Nat}
@[go_sem] theorem mv_ptr : mv n L (.ptr id off) = if id < n then some (.ptr id off) else if id = L then some (.ptr n off) else none := by simp only [mv]
@[go_sem] theorem mv_pe : mv n L (.pe id k i off) = if id < n then some (.pe id k i off) else if id = L then some (.pe n k i off) else none := by simp only [mv]
@[go_sem] theorem mv_orow : mv n L (.orow id k lo len) = if id < n then some (.orow id k lo len) else if id = L then some (.orow n k lo len) else none := by simp only [mv]
@[go_sem] theorem mv_ocel {sz : Nat} : mv n L (.ocel sz id off len) = if id < n then some (.ocel sz id off len) else if id = L then some (.ocel sz n off len) else none := by simp only [mv]
@[go_sem] theorem mv_mp : mv n L (.mp id) = if id < n then some (.mp id) else if id = L then some (.mp n) else none := by simp only [mv]
@[go_sem] theorem mv_agg {cs : List AV} : mv n L (.agg cs) = (mvL n L cs).map .agg := by simp only [mv]
@[go_sem] theorem mv_tup {cs : List AV} : mv n L (.tup cs) = (mvL n L cs).map .tup := by simp only [mv]
@[go_sem] theorem mv_fn {fn : Fn} {a b : List AV} : mv n L (.fn fn a b) = (mvL n L a).bind fun a => (mvL n L b).map fun b => .fn fn a b := by simp only [mv]
@[go_sem] theorem mv_b {x : Bool} : mv n L (.b x) = some (.b x) := by simp [mv, ment]
@[go_sem] theorem mv_i {x : Int} {k : IntKind} : mv n L (.i k x) = some (.i k x) := by simp [mv, ment]
@[go_sem] theorem mv_s {x : List UInt8} : mv n L (.s x) = some (.s x) := by simp [mv, ment]
@[go_sem] theorem mv_nilp : mv n L .nilp = some .nilp := by simp [mv, ment]
@[go_sem] theorem mv_nils : mv n L .nils = some .nils := by simp [mv, ment]
@[go_sem] theorem mv_nilm : mv n L .nilm = some .nilm := by simp [mv, ment]
@[go_sem] theorem mv_nilf : mv n L .nilf = some .nilf := by simp [mv, ment]
@[go_sem] theorem mv_nili : mv n L .nili = some .nili := by simp [mv, ment]
@[go_sem] theorem mv_junk : mv n L .junk = some .junk := by simp [mv, ment]
@[go_sem] theorem mv_sl {sz : Nat} {els : List (List AV)} : mv n L (.sl sz els) = if mentLL els ≤ n then some (.sl sz els) else none := by simp only [mv, ment]; congr
@[go_sem] theorem mv_ip {cs : List AV} : mv n L (.ip cs off) = if mentL cs ≤ n then some (.ip cs off) else none := by simp only [mv, ment]; congr
@[go_sem] theorem mv_ifc {t : Nat} {v : AV} : mv n L (.ifc t v) = if ment v ≤ n then some (.ifc t v) else none := by simp only [mv, ment]; congr
end
@[go_sem] theorem mvL_nil : mvL n L [] = some [] := rfl
@[go_sem] theorem mvL_cons {v : AV} {r : List AV} : mvL n L (v :: r) = (mv n L v).bind fun v => (mvL n L r).map (v :: ·) := by simp only [mvL]
@[go_sem] theorem mvO_cells {cs : List AV} : mvO n L (.cells cs) = (mvL n L cs).map .cells := rfl
@[go_sem] theorem mvO_row {fz : Bool} {sz : Nat} {els : List (List AV)} : mvO n L (.row fz sz els) = if mentLL els ≤ n then some (.row fz sz els) else none := rfl
@[go_sem] theorem mvO_map {es : List (AV × AV)} : mvO n L (.map es) = if mentO (.map es) ≤ n then some (.map es) else none := rfl
@[go_sem] theorem mvO_iter {l : List UInt8} {p : Nat} : mvO n L (.iter l p) = some (.iter l p) := rfl
@[go_sem] theorem mvH_nil : mvH n L [] = some [] := rfl
@[go_sem] theorem mvH_cons {r : Heap} : mvH n L (o :: r) = (mvO n L o).bind fun o => (mvH n L r).map (o :: ·) := rfl
@[go_sem] theorem mvF_nil : mvF n L [] = some [] := rfl
@[go_sem] theorem mvF_cons {t : Nat} {v : AV} {r : Fr} : mvF n L ((t, v) :: r) = (mv n L v).bind fun v => (mvF n L r).map ((t, v) :: ·) := rfl
@[go_sem] theorem mentL_app : ∀ {a b : List AV}, mentL (a ++ b) = max (mentL a) (mentL b)
  | [], b => by simp [mentL]
  | x :: a, b => by simp only [List.cons_append, mentL, mentL_app, Nat.max_assoc]
@[go_sem] theorem mentLL_app : ∀ {a b : List (List AV)}, mentLL (a ++ b) = max (mentLL a) (mentLL b)
  | [], b => by simp [mentLL]
  | x :: a, b => by simp only [List.cons_append, mentLL, mentLL_app, Nat.max_assoc]
@[go_sem] theorem mentH_app : ∀ {a b : Heap}, mentH (a ++ b) = max (mentH a) (mentH b)
  | [], b => by simp [mentH]
  | x :: a, b => by simp only [List.cons_append, mentH, mentH_app, Nat.max_assoc]
@[go_sem] theorem mvL_app : ∀ {a b : List AV}, mvL n L (a ++ b) = (mvL n L a).bind fun a => (mvL n L b).map (a ++ ·)
  | [], b => by simp [mvL]
  | x :: a, b => by
    simp only [List.cons_append, mvL_cons, mvL_app]
    cases mv n L x <;> simp
    cases mvL n L a <;> simp
    cases mvL n L b <;> simp
@[go_sem] theorem mvH_app : ∀ {a b : Heap}, mvH n L (a ++ b) = (mvH n L a).bind fun a => (mvH n L b).map (a ++ ·)
  | [], b => by simp [mvH]
  | x :: a, b => by
    simp only [List.cons_append, mvH_cons, mvH_app]
    cases mvO n L x <;> simp
    cases mvH n L a <;> simp
    cases mvH n L b <;> simp
mutual
theorem mv_of : ∀ {v : AV}, ment v ≤ n → mv n L v = some v
  | .b _, e => by simp only [mv]; rw [if_pos e]
  | .i _ _, e => by simp only [mv]; rw [if_pos e]
  | .s _, e => by simp only [mv]; rw [if_pos e]
  | .agg cs, e => by simp only [mv, ment] at *; rw [mvL_of e]; rfl
  | .tup cs, e => by simp only [mv, ment] at *; rw [mvL_of e]; rfl
  | .nilp, e => by simp only [mv]; rw [if_pos e]
  | .ptr _ _, e => by simp only [mv, ment] at *; rw [if_pos (by omega)]
  | .pe _ _ _ _, e => by simp only [mv, ment] at *; rw [if_pos (by omega)]
  | .ip _ _, e => by simp only [mv]; rw [if_pos e]
  | .nils, e => by simp only [mv]; rw [if_pos e]
  | .sl _ _, e => by simp only [mv]; rw [if_pos e]
  | .orow _ _ _ _, e => by simp only [mv, ment] at *; rw [if_pos (by omega)]
  | .ocel _ _ _ _, e => by simp only [mv, ment] at *; rw [if_pos (by omega)]
  | .nilm, e => by simp only [mv]; rw [if_pos e]
  | .mp _, e => by simp only [mv, ment] at *; rw [if_pos (by omega)]
  | .nilf, e => by simp only [mv]; rw [if_pos e]
  | .fn _ a b, e => by simp only [mv, ment] at *; rw [mvL_of (by omega), mvL_of (by omega)]; rfl
  | .nili, e => by simp only [mv]; rw [if_pos e]
  | .ifc _ _, e => by simp only [mv]; rw [if_pos e]
  | .junk, e => by simp only [mv]; rw [if_pos e]
theorem mvL_of : ∀ {l : List AV}, mentL l ≤ n → mvL n L l = some l
  | [], _ => rfl
  | v :: r, e => by
    simp only [mentL] at e
    simp only [mvL]
    rw [mv_of (by omega), mvL_of (by omega)]
    rfl
end
@[go_sem] theorem mvH_of : ∀ {h : Heap}, mentH h ≤ n → mvH n L h = some h
  | [], _ => rfl
  | o :: r, e => by
    simp only [mentH] at e
    have ho : mvO n L o = some o := by
      cases o with
      | cells cs => simp only [mvO, mentO] at *; rw [mvL_of (by omega)]; rfl
      | row fz sz els => simp only [mvO, mentO] at *; rw [if_pos (by omega)]
      | map es => simp only [mvO] at *; rw [if_pos (by omega)]
      | iter l p => rfl
    simp only [mvH]
    rw [ho, mvH_of (h := r) (by omega)]
    rfl
@[go_sem] theorem frzL_nil : frzL h n [] = some [] := rfl
@[go_sem] theorem frzL_cons {v : AV} {r : List AV} : frzL h n (v :: r) = (frz h n v).bind fun v => (frzL h n r).map (v :: ·) := by simp only [frzL]
@[go_sem] theorem frzL_app : ∀ {a b : List AV}, frzL h n (a ++ b) = (frzL h n a).bind fun a => (frzL h n b).map (a ++ ·)
  | [], b => by simp [frzL]
  | x :: a, b => by
    simp only [List.cons_append, frzL_cons, frzL_app]
    cases frz h n x <;> simp
    cases frzL h n a <;> simp
    cases frzL h n b <;> simp
@[go_sem] theorem frz_b {x : Bool} : frz h n (.b x) = some (.b x) := by simp [frz, ment]
@[go_sem] theorem frz_i {x : Int} {k : IntKind} : frz h n (.i k x) = some (.i k x) := by simp [frz, ment]
@[go_sem] theorem frz_s {x : List UInt8} : frz h n (.s x) = some (.s x) := by simp [frz, ment]
@[go_sem] theorem frz_nils : frz h n .nils = some .nils := by simp [frz, ment]
@[go_sem] theorem frz_agg {cs : List AV} : frz h n (.agg cs) = (frzL h n cs).map .agg := by simp only [frz]
@[go_sem] theorem frz_tup {cs : List AV} : frz h n (.tup cs) = (frzL h n cs).map .tup := by simp only [frz]
@[go_sem] theorem frz_orow {id k lo len : Nat} : frz h n (.orow id k lo len) = if id < n then some (.orow id k lo len) else (rowAt h id).bind fun r =>
    if k = r.2.2.length ∧ lo + len ≤ k ∧ mentLL r.2.2 ≤ n then some (.sl r.2.1 ((r.2.2.drop lo).take len)) else none := by simp only [frz]
theorem take_self {m : Nat} (e : h.length = m) : h.take m = h := List.take_of_length_le (by omega)
theorem settle_cut {p : Heap} (hp : p.length = n) (hf : mentF f ≤ n) (hm : mentH p ≤ n) : settle n f (p ++ g) = (f, p) := by
  have ht : (p ++ g).take n = p := by rw [← hp]; exact List.take_left
  simp only [settle, ht]
  rw [ble_true (by omega)]
  simp only [settle2, ht]
end
end
attribute [go_sem] List.set_cons_zero List.set_cons_succ List.append_assoc List.cons_append List.nil_append List.append_nil List.take_of_length_le mentF ment mentL mentLL mentH mentO Nat.max_self Nat.zero_max Nat.max_zero List.replicate_zero List.replicate_one List.length_map List.length_append List.take_length List.range'_zero List.range'_succ List.getLast?_singleton List.getLast?_cons_cons Int.natCast_add Int.cast_ofNat_Int
mutual
theorem frz_ok {h : Heap} {n : Nat} : ∀ {v : AV}, ment v ≤ n → frz h n v = some v
  | .b _, e => by simp only [frz]; rw [if_pos e]
  | .i _ _, e => by simp only [frz]; rw [if_pos e]
  | .s _, e => by simp only [frz]; rw [if_pos e]
  | .agg cs, e => by simp only [frz, ment] at *; rw [frzL_ok e]; rfl
  | .tup cs, e => by simp only [frz, ment] at *; rw [frzL_ok e]; rfl
  | .nilp, e => by simp only [frz]; rw [if_pos e]
  | .ptr _ _, e => by simp only [frz]; rw [if_pos e]
  | .pe _ _ _ _, e => by simp only [frz]; rw [if_pos e]
  | .ip _ _, e => by simp only [frz]; rw [if_pos e]
  | .nils, e => by simp only [frz]; rw [if_pos e]
  | .sl _ _, e => by simp only [frz]; rw [if_pos e]
  | .orow _ _ _ _, e => by simp only [frz, ment] at *; rw [if_pos (by omega)]
  | .ocel _ _ _ _, e => by simp only [frz, ment] at *; rw [if_pos (by omega)]
  | .nilm, e => by simp only [frz]; rw [if_pos e]
  | .mp _, e => by simp only [frz]; rw [if_pos e]
  | .nilf, e => by simp only [frz]; rw [if_pos e]
  | .fn _ _ _, e => by simp only [frz]; rw [if_pos e]
  | .nili, e => by simp only [frz]; rw [if_pos e]
  | .ifc _ _, e => by simp only [frz]; rw [if_pos e]
  | .junk, e => by simp only [frz]; rw [if_pos e]
theorem frzL_ok {h : Heap} {n : Nat} : ∀ {l : List AV}, mentL l ≤ n → frzL h n l = some l
  | [], _ => rfl
  | v :: r, e => by
    simp only [mentL] at e
    simp only [frzL]
    rw [frz_ok (by omega), frzL_ok (by omega)]
    rfl
end
theorem frz_of_ment {h : Heap} {n : Nat} {v : AV} (e : ment v ≤ n) : frz h n v = some v := frz_ok e
end
attribute [go_sem] decide_eq_true_eq beq_iff_eq bne_iff_ne ne_eq Bool.not_eq_true' decide_eq_false_iff_not Option.bind_some Option.bind_none Option.map_some Option.map_none Option.getD_some Option.getD_none List.length_cons List.length_nil List.map_cons List.map_nil
  List.zipIdx_cons List.zipIdx_nil
@[go_sem] theorem bind_ite {α β : Type} {c : Prop} [Decidable c] {a b : Option α} {k : α → Option β} : (if c then a else b).bind k = if c then a.bind k else b.bind k := by split <;> rfl
@[go_sem] theorem map_ite {α β : Type} {c : Prop} [Decidable c] {a b : Option α} {k : α → β} : (if c then a else b).map k = if c then a.map k else b.map k := by split <;> rfl
@[go_sem] theorem val_some {v : AV} : val (some v) = some (v, none) := rfl
@[go_sem] theorem val_none : val none = none := rfl

theorem get_keepL {f : Fr} : ∀ {l : List Nat} {t : Nat}, t ∈ l → get (keepL l f) t = get f t
  | [], t, h => by cases h
  | u :: l, t, h => by
    simp only [keepL_cons, get_cons]
    by_cases e : u = t
    · rw [if_pos e, e]
    · rw [if_neg e]
      exact get_keepL ((List.mem_cons.1 h).resolve_left fun x => e x.symm)
theorem keepL_keepL {f : Fr} {l : List Nat} : keepL l (keepL l f) = keepL l f := by
  have : ∀ m : List Nat, (∀ t ∈ m, t ∈ l) → keepL m (keepL l f) = keepL m f := by
    intro m
    induction m with
    | nil => intro _; rfl
    | cons t m ih =>
      intro hm
      simp only [keepL_cons]
      rw [get_keepL (hm t List.mem_cons_self), ih fun u hu => hm u (List.mem_cons_of_mem _ hu)]
  exact this l fun _ h => h
/-- a loop sees of a frame what it needs -/
theorem lp_keep {live : List Nat} {F : Fr → Heap → Option (Ex × Fr × Heap)} {f : Fr} {h : Heap} : lp (round live F) f h = lp (round live F) (keepL live f) h := by
  rw [lp_eq, lp_eq]
  simp only [round_eq, keepL_keepL]
@[go_sem] theorem exec_loop {tb : Tab} {cl : Nat → List AV → Heap → Out} {f : Fr} {h : Heap} {live : List Nat} {x : AC} : exec tb cl (.loop live x) f h = lp (round live (exec tb cl x)) (keepL live f) h := lp_keep
/-- one round -/
theorem lp_go {F : Fr → Heap → Option (Ex × Fr × Heap)} {f f' : Fr} {h h' : Heap} {r : Option (Ex × Fr × Heap)} (e : F f h = some (.normal, f', h')) (g : lp F f' h' = r) : lp F f h = r := by
  rw [lp_eq, e]
  exact g

/-- rounds, one behind the other -/
theorem lp_range {F : Fr → Heap → Option (Ex × Fr × Heap)} (S : Nat → Fr × Heap) (n : Nat) (hs : ∀ i, i < n → F (S i).1 (S i).2 = some (.normal, S (i + 1))) : ∀ d i, i + d = n → lp F (S i).1 (S i).2 = lp F (S n).1 (S n).2
  | 0, i, h => by rw [show i = n by omega]
  | d + 1, i, h => by
    rw [lp_go (hs i (by omega)) (lp_range S n hs d (i + 1) (by omega))]
theorem lp_for {F : Fr → Heap → Option (Ex × Fr × Heap)} (S : Nat → Fr × Heap) (n : Nat) (hs : ∀ i, i < n → F (S i).1 (S i).2 = some (.normal, S (i + 1))) : lp F (S 0).1 (S 0).2 = kloop (lp F) (F (S n).1 (S n).2) := by
  rw [lp_range S n hs n 0 (by omega), lp_k]

theorem lp_end {F : Fr → Heap → Option (Ex × Fr × Heap)} {f : Fr} {h : Heap} {r : Ex × Fr × Heap} (e : F f h = some r) (hn : r.1 ≠ .normal) : lp F f h = some r := by
  rw [lp_eq, e]
  obtain ⟨x, f', h'⟩ := r
  cases x with
  | normal => exact absurd rfl hn
  | exit id => rfl
  | ret => rfl
/-- rounds, till one ends it or none is left -/
theorem lp_scan {F : Fr → Heap → Option (Ex × Fr × Heap)} (S : Nat → Fr × Heap) (n : Nat) (p : Nat → Bool) (Q : Nat → Ex × Fr × Heap → Prop) (hs : ∀ i, i < n → p i = true → F (S i).1 (S i).2 = some (.normal, S (i + 1)))
    (hb : ∀ i, i < n → p i = false → ∃ r, F (S i).1 (S i).2 = some r ∧ r.1 ≠ .normal ∧ Q i r) :
    ((∀ i, i < n → p i = true) ∧ lp F (S 0).1 (S 0).2 = kloop (lp F) (F (S n).1 (S n).2)) ∨ (∃ i, i < n ∧ p i = false ∧ (∀ j, j < i → p j = true) ∧ ∃ r, lp F (S 0).1 (S 0).2 = some r ∧ r.1 ≠ .normal ∧ Q i r) := by
  have key : ∀ d k, k + d = n → ((∀ j, k ≤ j → j < n → p j = true) ∧ lp F (S k).1 (S k).2 = kloop (lp F) (F (S n).1 (S n).2)) ∨ (∃ i, k ≤ i ∧ i < n ∧ p i = false ∧ (∀ j, k ≤ j → j < i → p j = true) ∧ ∃ r, lp F (S k).1 (S k).2 = some r ∧ r.1 ≠ .normal ∧ Q i r) := by
    intro d
    induction d with
    | zero =>
      intro k hk
      have : k = n := by omega
      subst this
      exact .inl ⟨fun j h1 h2 => absurd h1 (by omega), lp_k F _ _⟩
    | succ d ih =>
      intro k hk
      cases hp : p k with
      | true =>
        have e := hs k (by omega) hp
        have more : ∀ i, (∀ j, k + 1 ≤ j → j < i → p j = true) → ∀ j, k ≤ j → j < i → p j = true := by
          intro i h j hj hi
          by_cases hjk : j = k
          · rw [hjk]; exact hp
          · exact h j (by omega) hi
        rcases ih (k + 1) (by omega) with ⟨h1, h2⟩ | ⟨i, h0, h1, h2, h3, r, h4, h5⟩
        · exact .inl ⟨more n h1, lp_go e h2⟩
        · exact .inr ⟨i, by omega, h1, h2, more i h3, r, lp_go e h4, h5⟩
      | false =>
        obtain ⟨r, h1, h2, h3⟩ := hb k (by omega) hp
        exact .inr ⟨k, Nat.le_refl _, by omega, hp, fun j h h' => absurd h (by omega), r, lp_end h1 h2, h2, h3⟩
  rcases key n 0 (by omega) with ⟨h1, h2⟩ | ⟨i, _, h1, h2, h3, h4⟩
  · exact .inl ⟨fun i hi => h1 i (by omega) hi, h2⟩
  · exact .inr ⟨i, h1, h2, fun j hj => h3 j (by omega) hj, h4⟩

/-- a slice that nobody writes: nil, or its elements -/
inductive Sl (sz : Nat) : AV → List (List AV) → Prop where
  | nil : Sl sz .nils []
  | mk (els : List (List AV)) : Sl sz (.sl sz els) els
theorem Sl.len {sz : Nat} {v : AV} {els : List (List AV)} (x : Sl sz v els) : len? v = some els.length := by cases x <;> rfl
theorem Sl.els {sz : Nat} {v : AV} {els : List (List AV)} (x : Sl sz v els) {h : Heap} : els? h sz v = some els := by cases x <;> simp [els?]
theorem Sl.news {sz : Nat} {v : AV} {els : List (List AV)} (x : Sl sz v els) {h : Heap} : news h sz v = some els := by cases x <;> simp [Am.news, els?]
theorem Sl.ia {sz : Nat} {v : AV} {els : List (List AV)} (x : Sl sz v els) {h : Heap} {n : Nat} (hn : n < els.length) : iaddr h sz v n = some (.ip els[n] 0) := by
  cases x
  · simp at hn
  · simp [iaddr, els?, hn]
theorem Sl.ment {sz : Nat} {v : AV} {els : List (List AV)} (x : Sl sz v els) : ment v = mentLL els := by cases x <;> simp [Am.ment, mentLL]

theorem wrap64 {n : Int} (h0 : -9223372036854775808 ≤ n) (h1 : n < 9223372036854775808) : IntKind.i64.wrap n = n := by
  unfold IntKind.wrap
  simp [IntKind.bits, IntKind.signed]
  omega

attribute [go_sem] wrap64 if_pos if_neg Int.toNat_natCast Bool.false_eq_true Nat.add_zero Nat.zero_add List.getElem?_cons_zero List.getElem?_cons_succ List.getElem_cons_zero List.take_succ_cons List.take_zero List.drop_zero List.drop_succ_cons true_and and_true Int.toNat_zero most List.append_nil List.nil_append Nat.max_eq_left Nat.max_eq_right decide_true decide_false Bool.not_true Bool.not_false beq_self_eq_true beq_true beq_false Bool.true_and Bool.and_true Bool.false_and Bool.and_false Bool.true_or Bool.or_true Bool.false_or Bool.or_false Nat.add_sub_cancel_left Nat.add_sub_cancel Nat.mul_one Nat.one_mul not_true_eq_false not_false_eq_true
@[go_sem] theorem toNat_succ {k : Nat} : ((k : Int) + 1).toNat = k + 1 := by omega
@[go_sem] theorem wrap_1 : IntKind.i64.wrap 1 = 1 := rfl
@[go_sem] theorem wrap_0 : IntKind.i64.wrap 0 = 0 := rfl

end Go.Proofs.Ytggdinpopddhnaa.Am
