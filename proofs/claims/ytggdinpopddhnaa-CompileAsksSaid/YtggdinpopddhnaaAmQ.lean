/-
  Structures as cells: printed by gen.py.
-/
import Derived.Test.YtggdinpopddhnaaAmP
set_option linter.unusedSimpArgs false
set_option linter.unusedVariables false
set_option linter.unusedSectionVars false
namespace Go.Proofs.Ytggdinpopddhnaa.Am

structure TAddr where
  V : Int
  B : Bs 16
  deriving DecidableEq
namespace TAddr
def cs (V : Int) (B : Bs 16) : List AV := [.i .i64 V] ++ (Bs.c B)
def c (x : TAddr) : List AV := cs x.V x.B
variable {V : Int} {B : Bs 16} {x : TAddr}
@[simp, go_sem] theorem cs_len : (cs V B).length = 17 := by simp [cs]
@[simp, go_sem] theorem c_len : (c x).length = 17 := cs_len
@[go_sem] theorem sub_cs : sub (cs V B) 0 17 = cs V B := sub_all cs_len
@[go_sem] theorem sub_c : sub (c x) 0 17 = c x := sub_all c_len
@[go_sem] theorem fold : cs V B = c ⟨V, B⟩ := rfl
def z : TAddr := ⟨0, (Bs.z 16)⟩
@[go_sem] theorem z_V : z.V = 0 := rfl
@[go_sem] theorem z_B : z.B = (Bs.z 16) := rfl
@[go_sem] theorem sub_V : sub (cs V B) 0 1 = [.i .i64 V] := by exact sub_first (by simp)
@[go_sem] theorem sub_V' : sub (c x) 0 1 = [.i .i64 x.V] := sub_V
@[go_sem] theorem sub_B : sub (cs V B) 1 16 = Bs.c B := by exact (sub_r (k := 1) (o := 0) (by simp) rfl).trans <| sub_all (by simp)
@[go_sem] theorem sub_B' : sub (c x) 1 16 = Bs.c x.B := sub_B
@[go_sem] theorem sub_B_at {i : Nat} (h1 : 1 ≤ i) (h2 : i < 17) : sub (cs V B) i 1 = [.i .u8 (B.g (i - 1)).toNat] := by
  have h := sub_sub (a := cs V B) (off := 1) (n := 16) (m := i - 1) (k := 1) (by omega)
  rw [sub_B, show 1 + (i - 1) = i by omega] at h; rw [← h]; exact Bs.sub_1 (by omega)
@[go_sem] theorem sub_B_at' {i : Nat} (h1 : 1 ≤ i) (h2 : i < 17) : sub (c x) i 1 = [.i .u8 (x.B.g (i - 1)).toNat] := by
  have h := sub_sub (a := c x) (off := 1) (n := 16) (m := i - 1) (k := 1) (by omega)
  rw [sub_B', show 1 + (i - 1) = i by omega] at h; rw [← h]; exact Bs.sub_1 (by omega)
@[go_sem] theorem sub_B_n {i m : Nat} (h0 : 2 ≤ m) (h1 : 1 ≤ i) (h2 : i + m ≤ 17) (h3 : m < 16) : sub (cs V B) i m = Bs.c (B.sub (i - 1) m) := by
  have h := sub_sub (a := cs V B) (off := 1) (n := 16) (m := i - 1) (k := m) (by omega)
  rw [sub_B, show 1 + (i - 1) = i by omega] at h; rw [← h]; exact Bs.sub_m (by omega)
@[go_sem] theorem sub_B_n' {i m : Nat} (h0 : 2 ≤ m) (h1 : 1 ≤ i) (h2 : i + m ≤ 17) (h3 : m < 16) : sub (c x) i m = Bs.c (x.B.sub (i - 1) m) := by
  have h := sub_sub (a := c x) (off := 1) (n := 16) (m := i - 1) (k := m) (by omega)
  rw [sub_B', show 1 + (i - 1) = i by omega] at h; rw [← h]; exact Bs.sub_m (by omega)
@[go_sem] theorem put_V {V' : Int} : splice (cs V B) 0 ([.i .i64 V']) = cs V' B := by unfold cs; rw [splice_first (by simp)]
@[go_sem] theorem put_V' {V' : Int} : splice (c x) 0 ([.i .i64 V']) = c { x with V := V' } := put_V
@[go_sem] theorem put_B {B' : Bs 16} : splice (cs V B) 1 (Bs.c B') = cs V B' := by unfold cs; rw [splice_r (k := 1) (o := 0) (by simp) (by omega), splice_all (by simp)]
@[go_sem] theorem put_B' {B' : Bs 16} : splice (c x) 1 (Bs.c B') = c { x with B := B' } := put_B
@[go_sem] theorem put_B_at {i : Nat} {v : UInt8} (h1 : 1 ≤ i) (h2 : i < 17) : splice (cs V B) i [.i .u8 v.toNat] = cs V (B.put (i - 1) v) := by
  unfold cs; rw [splice_r (k := 1) (o := i - 1) (by simp) (by omega), Bs.splice_1 (by omega)]
@[go_sem] theorem put_B_l {i : Nat} {l : List UInt8} (h1 : 1 ≤ i) (h2 : i + l.length ≤ 17) : splice (cs V B) i (Bs.bc l) = cs V (B.putL (i - 1) l) := by
  unfold cs; rw [splice_r (k := 1) (o := i - 1) (by simp) (by omega), Bs.splice_l (by omega)]
@[go_sem] theorem put_B_at' {i : Nat} {v : UInt8} (h1 : 1 ≤ i) (h2 : i < 17) : splice (c x) i [.i .u8 v.toNat] = c { x with B := x.B.put (i - 1) v } := by
  exact put_B_at h1 h2
@[go_sem] theorem put_B_l' {i : Nat} {l : List UInt8} (h1 : 1 ≤ i) (h2 : i + l.length ≤ 17) : splice (c x) i (Bs.bc l) = c { x with B := x.B.putL (i - 1) l } := by
  exact put_B_l h1 h2
@[go_sem] theorem put_cc {y : TAddr} : splice (c x) 0 (c y) = c y := splice_all (by rw [c_len, c_len])
@[go_sem] theorem put_cscs {V2 : Int} {B2 : Bs 16} : splice (cs V B) 0 (cs V2 B2) = cs V2 B2 := splice_all (by rw [cs_len, cs_len])
@[go_sem] theorem mentL_cs : mentL (cs V B) = 0 := by simp [cs, mentL_app, mentL, ment, Bs.mentL_c]
@[go_sem] theorem mentL_c : mentL (c x) = 0 := by simp [c, mentL_cs]
@[go_sem] theorem mvL_c {n L : Nat} : mvL n L (c x) = some (c x) := mvL_of (by rw [mentL_c]; omega)
@[go_sem] theorem mentLL_c {l : List TAddr} : mentLL (l.map c) = 0 := mentLL_map (fun _ => mentL_c) l
@[go_sem] theorem slv_ment {sz : Nat} {g : GS TAddr} : ment (slv sz c g) = 0 := Am.slv_ment fun _ => mentL_c
@[go_sem] theorem slv_mv {sz n L : Nat} {g : GS TAddr} : mv n L (slv sz c g) = some (slv sz c g) := Am.slv_mv fun _ => mentL_c
@[go_sem] theorem slv_frz {sz n : Nat} {h : Heap} {g : GS TAddr} : frz h n (slv sz c g) = some (slv sz c g) := Am.slv_frz fun _ => mentL_c
@[go_sem] theorem frzL_c {h : Heap} {n : Nat} : frzL h n (c x) = some (c x) := frzL_ok (by rw [mentL_c]; omega)
theorem eqC : EqC (kk [(1, .i .i64), (16, .i .u8)]) c := by
  intro x y
  have h := (eqS_app (eqC_i (k := .i64) x.V y.V) (Bs.eqC x.B y.B))
  refine (show eqS (kk [(1, .i .i64), (16, .i .u8)]) (c x) (c y) = _ from h).trans ?_
  congr 1
  cases x; cases y
  simp only [mk.injEq, Bool.decide_and]
@[go_sem] theorem eqK_c {y : TAddr} : eqK (.agg (kk [(1, .i .i64), (16, .i .u8)])) (.agg (c x)) (.agg (c y)) = some (decide (x = y)) := eqC x y
end TAddr

structure TPrefix where
  A : TAddr
  Bits : Int
  deriving DecidableEq
namespace TPrefix
def cs (A : TAddr) (Bits : Int) : List AV := TAddr.c A ++ ([.i .i64 Bits])
def c (x : TPrefix) : List AV := cs x.A x.Bits
variable {A : TAddr} {Bits : Int} {x : TPrefix}
@[simp, go_sem] theorem cs_len : (cs A Bits).length = 18 := by simp [cs]
@[simp, go_sem] theorem c_len : (c x).length = 18 := cs_len
@[go_sem] theorem sub_cs : sub (cs A Bits) 0 18 = cs A Bits := sub_all cs_len
@[go_sem] theorem sub_c : sub (c x) 0 18 = c x := sub_all c_len
@[go_sem] theorem fold : cs A Bits = c ⟨A, Bits⟩ := rfl
def z : TPrefix := ⟨TAddr.z, 0⟩
@[go_sem] theorem z_A : z.A = TAddr.z := rfl
@[go_sem] theorem z_Bits : z.Bits = 0 := rfl
@[go_sem] theorem sub_A : sub (cs A Bits) 0 17 = TAddr.c A := by exact sub_first (by simp)
@[go_sem] theorem sub_A' : sub (c x) 0 17 = TAddr.c x.A := sub_A
@[go_sem] theorem sub_Bits : sub (cs A Bits) 17 1 = [.i .i64 Bits] := by exact (sub_r (k := 17) (o := 0) (by simp) rfl).trans <| sub_all (by simp)
@[go_sem] theorem sub_Bits' : sub (c x) 17 1 = [.i .i64 x.Bits] := sub_Bits
@[go_sem] theorem sub_A_V : sub (cs A Bits) 0 1 = [.i .i64 A.V] := by
  have h := sub_sub (a := cs A Bits) (off := 0) (n := 17) (m := 0) (k := 1) (by omega)
  rw [sub_A] at h; rw [← h]; exact TAddr.sub_V'
@[go_sem] theorem sub_A_V' : sub (c x) 0 1 = [.i .i64 x.A.V] := by
  have h := sub_sub (a := c x) (off := 0) (n := 17) (m := 0) (k := 1) (by omega)
  rw [sub_A'] at h; rw [← h]; exact TAddr.sub_V'
@[go_sem] theorem sub_A_B : sub (cs A Bits) 1 16 = Bs.c A.B := by
  have h := sub_sub (a := cs A Bits) (off := 0) (n := 17) (m := 1) (k := 16) (by omega)
  rw [sub_A] at h; rw [← h]; exact TAddr.sub_B'
@[go_sem] theorem sub_A_B' : sub (c x) 1 16 = Bs.c x.A.B := by
  have h := sub_sub (a := c x) (off := 0) (n := 17) (m := 1) (k := 16) (by omega)
  rw [sub_A'] at h; rw [← h]; exact TAddr.sub_B'
@[go_sem] theorem put_A {A' : TAddr} : splice (cs A Bits) 0 (TAddr.c A') = cs A' Bits := by unfold cs; rw [splice_first (by simp)]
@[go_sem] theorem put_A' {A' : TAddr} : splice (c x) 0 (TAddr.c A') = c { x with A := A' } := put_A
@[go_sem] theorem put_Bits {Bits' : Int} : splice (cs A Bits) 17 ([.i .i64 Bits']) = cs A Bits' := by unfold cs; rw [splice_r (k := 17) (o := 0) (by simp) (by omega), splice_all (by simp)]
@[go_sem] theorem put_Bits' {Bits' : Int} : splice (c x) 17 ([.i .i64 Bits']) = c { x with Bits := Bits' } := put_Bits
@[go_sem] theorem put_cc {y : TPrefix} : splice (c x) 0 (c y) = c y := splice_all (by rw [c_len, c_len])
@[go_sem] theorem put_cscs {A2 : TAddr} {Bits2 : Int} : splice (cs A Bits) 0 (cs A2 Bits2) = cs A2 Bits2 := splice_all (by rw [cs_len, cs_len])
@[go_sem] theorem put_A_V {V' : Int} : splice (cs A Bits) 0 ([.i .i64 V']) = cs { A with V := V' } Bits := by
  unfold cs; rw [splice_left (by simp), TAddr.put_V']
@[go_sem] theorem put_A_V' {V' : Int} : splice (c x) 0 ([.i .i64 V']) = c { x with A := { x.A with V := V' } } := by
  exact put_A_V
@[go_sem] theorem put_A_B {B' : Bs 16} : splice (cs A Bits) 1 (Bs.c B') = cs { A with B := B' } Bits := by
  unfold cs; rw [splice_left (by simp), TAddr.put_B']
@[go_sem] theorem put_A_B' {B' : Bs 16} : splice (c x) 1 (Bs.c B') = c { x with A := { x.A with B := B' } } := by
  exact put_A_B
@[go_sem] theorem mentL_cs : mentL (cs A Bits) = 0 := by simp [cs, mentL_app, mentL, ment, Bs.mentL_c, TAddr.mentL_c]
@[go_sem] theorem mentL_c : mentL (c x) = 0 := by simp [c, mentL_cs]
@[go_sem] theorem mvL_c {n L : Nat} : mvL n L (c x) = some (c x) := mvL_of (by rw [mentL_c]; omega)
@[go_sem] theorem mentLL_c {l : List TPrefix} : mentLL (l.map c) = 0 := mentLL_map (fun _ => mentL_c) l
@[go_sem] theorem slv_ment {sz : Nat} {g : GS TPrefix} : ment (slv sz c g) = 0 := Am.slv_ment fun _ => mentL_c
@[go_sem] theorem slv_mv {sz n L : Nat} {g : GS TPrefix} : mv n L (slv sz c g) = some (slv sz c g) := Am.slv_mv fun _ => mentL_c
@[go_sem] theorem slv_frz {sz n : Nat} {h : Heap} {g : GS TPrefix} : frz h n (slv sz c g) = some (slv sz c g) := Am.slv_frz fun _ => mentL_c
@[go_sem] theorem frzL_c {h : Heap} {n : Nat} : frzL h n (c x) = some (c x) := frzL_ok (by rw [mentL_c]; omega)
theorem eqC : EqC (kk [(1, .i .i64), (16, .i .u8), (1, .i .i64)]) c := by
  intro x y
  have h := (eqS_app (TAddr.eqC x.A y.A) (eqC_i (k := .i64) x.Bits y.Bits))
  refine (show eqS (kk [(1, .i .i64), (16, .i .u8), (1, .i .i64)]) (c x) (c y) = _ from h).trans ?_
  congr 1
  cases x; cases y
  simp only [mk.injEq, Bool.decide_and]
@[go_sem] theorem eqK_c {y : TPrefix} : eqK (.agg (kk [(1, .i .i64), (16, .i .u8), (1, .i .i64)])) (.agg (c x)) (.agg (c y)) = some (decide (x = y)) := eqC x y
end TPrefix

structure TEndpoint where
  A : TAddr
  Port : Int
  deriving DecidableEq
namespace TEndpoint
def cs (A : TAddr) (Port : Int) : List AV := TAddr.c A ++ ([.i .i64 Port])
def c (x : TEndpoint) : List AV := cs x.A x.Port
variable {A : TAddr} {Port : Int} {x : TEndpoint}
@[simp, go_sem] theorem cs_len : (cs A Port).length = 18 := by simp [cs]
@[simp, go_sem] theorem c_len : (c x).length = 18 := cs_len
@[go_sem] theorem sub_cs : sub (cs A Port) 0 18 = cs A Port := sub_all cs_len
@[go_sem] theorem sub_c : sub (c x) 0 18 = c x := sub_all c_len
@[go_sem] theorem fold : cs A Port = c ⟨A, Port⟩ := rfl
def z : TEndpoint := ⟨TAddr.z, 0⟩
@[go_sem] theorem z_A : z.A = TAddr.z := rfl
@[go_sem] theorem z_Port : z.Port = 0 := rfl
@[go_sem] theorem sub_A : sub (cs A Port) 0 17 = TAddr.c A := by exact sub_first (by simp)
@[go_sem] theorem sub_A' : sub (c x) 0 17 = TAddr.c x.A := sub_A
@[go_sem] theorem sub_Port : sub (cs A Port) 17 1 = [.i .i64 Port] := by exact (sub_r (k := 17) (o := 0) (by simp) rfl).trans <| sub_all (by simp)
@[go_sem] theorem sub_Port' : sub (c x) 17 1 = [.i .i64 x.Port] := sub_Port
@[go_sem] theorem sub_A_V : sub (cs A Port) 0 1 = [.i .i64 A.V] := by
  have h := sub_sub (a := cs A Port) (off := 0) (n := 17) (m := 0) (k := 1) (by omega)
  rw [sub_A] at h; rw [← h]; exact TAddr.sub_V'
@[go_sem] theorem sub_A_V' : sub (c x) 0 1 = [.i .i64 x.A.V] := by
  have h := sub_sub (a := c x) (off := 0) (n := 17) (m := 0) (k := 1) (by omega)
  rw [sub_A'] at h; rw [← h]; exact TAddr.sub_V'
@[go_sem] theorem sub_A_B : sub (cs A Port) 1 16 = Bs.c A.B := by
  have h := sub_sub (a := cs A Port) (off := 0) (n := 17) (m := 1) (k := 16) (by omega)
  rw [sub_A] at h; rw [← h]; exact TAddr.sub_B'
@[go_sem] theorem sub_A_B' : sub (c x) 1 16 = Bs.c x.A.B := by
  have h := sub_sub (a := c x) (off := 0) (n := 17) (m := 1) (k := 16) (by omega)
  rw [sub_A'] at h; rw [← h]; exact TAddr.sub_B'
@[go_sem] theorem put_A {A' : TAddr} : splice (cs A Port) 0 (TAddr.c A') = cs A' Port := by unfold cs; rw [splice_first (by simp)]
@[go_sem] theorem put_A' {A' : TAddr} : splice (c x) 0 (TAddr.c A') = c { x with A := A' } := put_A
@[go_sem] theorem put_Port {Port' : Int} : splice (cs A Port) 17 ([.i .i64 Port']) = cs A Port' := by unfold cs; rw [splice_r (k := 17) (o := 0) (by simp) (by omega), splice_all (by simp)]
@[go_sem] theorem put_Port' {Port' : Int} : splice (c x) 17 ([.i .i64 Port']) = c { x with Port := Port' } := put_Port
@[go_sem] theorem put_cc {y : TEndpoint} : splice (c x) 0 (c y) = c y := splice_all (by rw [c_len, c_len])
@[go_sem] theorem put_cscs {A2 : TAddr} {Port2 : Int} : splice (cs A Port) 0 (cs A2 Port2) = cs A2 Port2 := splice_all (by rw [cs_len, cs_len])
@[go_sem] theorem put_A_V {V' : Int} : splice (cs A Port) 0 ([.i .i64 V']) = cs { A with V := V' } Port := by
  unfold cs; rw [splice_left (by simp), TAddr.put_V']
@[go_sem] theorem put_A_V' {V' : Int} : splice (c x) 0 ([.i .i64 V']) = c { x with A := { x.A with V := V' } } := by
  exact put_A_V
@[go_sem] theorem put_A_B {B' : Bs 16} : splice (cs A Port) 1 (Bs.c B') = cs { A with B := B' } Port := by
  unfold cs; rw [splice_left (by simp), TAddr.put_B']
@[go_sem] theorem put_A_B' {B' : Bs 16} : splice (c x) 1 (Bs.c B') = c { x with A := { x.A with B := B' } } := by
  exact put_A_B
@[go_sem] theorem mentL_cs : mentL (cs A Port) = 0 := by simp [cs, mentL_app, mentL, ment, Bs.mentL_c, TAddr.mentL_c]
@[go_sem] theorem mentL_c : mentL (c x) = 0 := by simp [c, mentL_cs]
@[go_sem] theorem mvL_c {n L : Nat} : mvL n L (c x) = some (c x) := mvL_of (by rw [mentL_c]; omega)
@[go_sem] theorem mentLL_c {l : List TEndpoint} : mentLL (l.map c) = 0 := mentLL_map (fun _ => mentL_c) l
@[go_sem] theorem slv_ment {sz : Nat} {g : GS TEndpoint} : ment (slv sz c g) = 0 := Am.slv_ment fun _ => mentL_c
@[go_sem] theorem slv_mv {sz n L : Nat} {g : GS TEndpoint} : mv n L (slv sz c g) = some (slv sz c g) := Am.slv_mv fun _ => mentL_c
@[go_sem] theorem slv_frz {sz n : Nat} {h : Heap} {g : GS TEndpoint} : frz h n (slv sz c g) = some (slv sz c g) := Am.slv_frz fun _ => mentL_c
@[go_sem] theorem frzL_c {h : Heap} {n : Nat} : frzL h n (c x) = some (c x) := frzL_ok (by rw [mentL_c]; omega)
theorem eqC : EqC (kk [(1, .i .i64), (16, .i .u8), (1, .i .i64)]) c := by
  intro x y
  have h := (eqS_app (TAddr.eqC x.A y.A) (eqC_i (k := .i64) x.Port y.Port))
  refine (show eqS (kk [(1, .i .i64), (16, .i .u8), (1, .i .i64)]) (c x) (c y) = _ from h).trans ?_
  congr 1
  cases x; cases y
  simp only [mk.injEq, Bool.decide_and]
@[go_sem] theorem eqK_c {y : TEndpoint} : eqK (.agg (kk [(1, .i .i64), (16, .i .u8), (1, .i .i64)])) (.agg (c x)) (.agg (c y)) = some (decide (x = y)) := eqC x y
end TEndpoint

structure TPeer where
  Key : Bs 32
  Psk : Bs 32
  End : TEndpoint
  Keep : Int
  Sent : Int
  Got : Int
  Allowed : GS (TPrefix)
  deriving DecidableEq
namespace TPeer
def cs (Key : Bs 32) (Psk : Bs 32) (End : TEndpoint) (Keep : Int) (Sent : Int) (Got : Int) (Allowed : AV) : List AV := Bs.c Key ++ (Bs.c Psk ++ (TEndpoint.c End ++ ([.i .i64 Keep] ++ ([.i .u64 Sent] ++ ([.i .u64 Got] ++ ([Allowed]))))))
def c (x : TPeer) : List AV := cs x.Key x.Psk x.End x.Keep x.Sent x.Got (slv 18 TPrefix.c x.Allowed)
variable {Key : Bs 32} {Psk : Bs 32} {End : TEndpoint} {Keep : Int} {Sent : Int} {Got : Int} {Allowed : AV} {x : TPeer}
@[simp, go_sem] theorem cs_len : (cs Key Psk End Keep Sent Got Allowed).length = 86 := by simp [cs]
@[simp, go_sem] theorem c_len : (c x).length = 86 := cs_len
@[go_sem] theorem sub_cs : sub (cs Key Psk End Keep Sent Got Allowed) 0 86 = cs Key Psk End Keep Sent Got Allowed := sub_all cs_len
@[go_sem] theorem sub_c : sub (c x) 0 86 = c x := sub_all c_len
@[go_sem] theorem fold {Allowed' : GS (TPrefix)} : cs Key Psk End Keep Sent Got (slv 18 TPrefix.c Allowed') = c ⟨Key, Psk, End, Keep, Sent, Got, Allowed'⟩ := rfl
@[go_sem] theorem fold_nil : cs Key Psk End Keep Sent Got .nils = c ⟨Key, Psk, End, Keep, Sent, Got, .nil⟩ := rfl
def z : TPeer := ⟨(Bs.z 32), (Bs.z 32), TEndpoint.z, 0, 0, 0, .nil⟩
@[go_sem] theorem z_Key : z.Key = (Bs.z 32) := rfl
@[go_sem] theorem z_Psk : z.Psk = (Bs.z 32) := rfl
@[go_sem] theorem z_End : z.End = TEndpoint.z := rfl
@[go_sem] theorem z_Keep : z.Keep = 0 := rfl
@[go_sem] theorem z_Sent : z.Sent = 0 := rfl
@[go_sem] theorem z_Got : z.Got = 0 := rfl
@[go_sem] theorem z_Allowed : z.Allowed = .nil := rfl
@[go_sem] theorem sub_Key : sub (cs Key Psk End Keep Sent Got Allowed) 0 32 = Bs.c Key := by exact sub_first (by simp)
@[go_sem] theorem sub_Key' : sub (c x) 0 32 = Bs.c x.Key := sub_Key
@[go_sem] theorem sub_Psk : sub (cs Key Psk End Keep Sent Got Allowed) 32 32 = Bs.c Psk := by exact (sub_r (k := 32) (o := 0) (by simp) rfl).trans <| sub_first (by simp)
@[go_sem] theorem sub_Psk' : sub (c x) 32 32 = Bs.c x.Psk := sub_Psk
@[go_sem] theorem sub_End : sub (cs Key Psk End Keep Sent Got Allowed) 64 18 = TEndpoint.c End := by exact (sub_r (k := 32) (o := 32) (by simp) rfl).trans <| (sub_r (k := 32) (o := 0) (by simp) rfl).trans <| sub_first (by simp)
@[go_sem] theorem sub_End' : sub (c x) 64 18 = TEndpoint.c x.End := sub_End
@[go_sem] theorem sub_Keep : sub (cs Key Psk End Keep Sent Got Allowed) 82 1 = [.i .i64 Keep] := by exact (sub_r (k := 32) (o := 50) (by simp) rfl).trans <| (sub_r (k := 32) (o := 18) (by simp) rfl).trans <| (sub_r (k := 18) (o := 0) (by simp) rfl).trans <| sub_first (by simp)
@[go_sem] theorem sub_Keep' : sub (c x) 82 1 = [.i .i64 x.Keep] := sub_Keep
@[go_sem] theorem sub_Sent : sub (cs Key Psk End Keep Sent Got Allowed) 83 1 = [.i .u64 Sent] := by exact (sub_r (k := 32) (o := 51) (by simp) rfl).trans <| (sub_r (k := 32) (o := 19) (by simp) rfl).trans <| (sub_r (k := 18) (o := 1) (by simp) rfl).trans <| (sub_r (k := 1) (o := 0) (by simp) rfl).trans <| sub_first (by simp)
@[go_sem] theorem sub_Sent' : sub (c x) 83 1 = [.i .u64 x.Sent] := sub_Sent
@[go_sem] theorem sub_Got : sub (cs Key Psk End Keep Sent Got Allowed) 84 1 = [.i .u64 Got] := by exact (sub_r (k := 32) (o := 52) (by simp) rfl).trans <| (sub_r (k := 32) (o := 20) (by simp) rfl).trans <| (sub_r (k := 18) (o := 2) (by simp) rfl).trans <| (sub_r (k := 1) (o := 1) (by simp) rfl).trans <| (sub_r (k := 1) (o := 0) (by simp) rfl).trans <| sub_first (by simp)
@[go_sem] theorem sub_Got' : sub (c x) 84 1 = [.i .u64 x.Got] := sub_Got
@[go_sem] theorem sub_Allowed : sub (cs Key Psk End Keep Sent Got Allowed) 85 1 = [Allowed] := by exact (sub_r (k := 32) (o := 53) (by simp) rfl).trans <| (sub_r (k := 32) (o := 21) (by simp) rfl).trans <| (sub_r (k := 18) (o := 3) (by simp) rfl).trans <| (sub_r (k := 1) (o := 2) (by simp) rfl).trans <| (sub_r (k := 1) (o := 1) (by simp) rfl).trans <| (sub_r (k := 1) (o := 0) (by simp) rfl).trans <| sub_all (by simp)
@[go_sem] theorem sub_Allowed' : sub (c x) 85 1 = [slv 18 TPrefix.c x.Allowed] := sub_Allowed
@[go_sem] theorem sub_Key_at {i : Nat} (h1 : 0 ≤ i) (h2 : i < 32) : sub (cs Key Psk End Keep Sent Got Allowed) i 1 = [.i .u8 (Key.g (i - 0)).toNat] := by
  have h := sub_sub (a := cs Key Psk End Keep Sent Got Allowed) (off := 0) (n := 32) (m := i - 0) (k := 1) (by omega)
  rw [sub_Key, show 0 + (i - 0) = i by omega] at h; rw [← h]; exact Bs.sub_1 (by omega)
@[go_sem] theorem sub_Key_at' {i : Nat} (h1 : 0 ≤ i) (h2 : i < 32) : sub (c x) i 1 = [.i .u8 (x.Key.g (i - 0)).toNat] := by
  have h := sub_sub (a := c x) (off := 0) (n := 32) (m := i - 0) (k := 1) (by omega)
  rw [sub_Key', show 0 + (i - 0) = i by omega] at h; rw [← h]; exact Bs.sub_1 (by omega)
@[go_sem] theorem sub_Psk_at {i : Nat} (h1 : 32 ≤ i) (h2 : i < 64) : sub (cs Key Psk End Keep Sent Got Allowed) i 1 = [.i .u8 (Psk.g (i - 32)).toNat] := by
  have h := sub_sub (a := cs Key Psk End Keep Sent Got Allowed) (off := 32) (n := 32) (m := i - 32) (k := 1) (by omega)
  rw [sub_Psk, show 32 + (i - 32) = i by omega] at h; rw [← h]; exact Bs.sub_1 (by omega)
@[go_sem] theorem sub_Psk_at' {i : Nat} (h1 : 32 ≤ i) (h2 : i < 64) : sub (c x) i 1 = [.i .u8 (x.Psk.g (i - 32)).toNat] := by
  have h := sub_sub (a := c x) (off := 32) (n := 32) (m := i - 32) (k := 1) (by omega)
  rw [sub_Psk', show 32 + (i - 32) = i by omega] at h; rw [← h]; exact Bs.sub_1 (by omega)
@[go_sem] theorem sub_End_A : sub (cs Key Psk End Keep Sent Got Allowed) 64 17 = TAddr.c End.A := by
  have h := sub_sub (a := cs Key Psk End Keep Sent Got Allowed) (off := 64) (n := 18) (m := 0) (k := 17) (by omega)
  rw [sub_End] at h; rw [← h]; exact TEndpoint.sub_A'
@[go_sem] theorem sub_End_A' : sub (c x) 64 17 = TAddr.c x.End.A := by
  have h := sub_sub (a := c x) (off := 64) (n := 18) (m := 0) (k := 17) (by omega)
  rw [sub_End'] at h; rw [← h]; exact TEndpoint.sub_A'
@[go_sem] theorem sub_End_A_V : sub (cs Key Psk End Keep Sent Got Allowed) 64 1 = [.i .i64 End.A.V] := by
  have h := sub_sub (a := cs Key Psk End Keep Sent Got Allowed) (off := 64) (n := 18) (m := 0) (k := 1) (by omega)
  rw [sub_End] at h; rw [← h]; exact TEndpoint.sub_A_V'
@[go_sem] theorem sub_End_A_V' : sub (c x) 64 1 = [.i .i64 x.End.A.V] := by
  have h := sub_sub (a := c x) (off := 64) (n := 18) (m := 0) (k := 1) (by omega)
  rw [sub_End'] at h; rw [← h]; exact TEndpoint.sub_A_V'
@[go_sem] theorem sub_End_A_B : sub (cs Key Psk End Keep Sent Got Allowed) 65 16 = Bs.c End.A.B := by
  have h := sub_sub (a := cs Key Psk End Keep Sent Got Allowed) (off := 64) (n := 18) (m := 1) (k := 16) (by omega)
  rw [sub_End] at h; rw [← h]; exact TEndpoint.sub_A_B'
@[go_sem] theorem sub_End_A_B' : sub (c x) 65 16 = Bs.c x.End.A.B := by
  have h := sub_sub (a := c x) (off := 64) (n := 18) (m := 1) (k := 16) (by omega)
  rw [sub_End'] at h; rw [← h]; exact TEndpoint.sub_A_B'
@[go_sem] theorem sub_End_Port : sub (cs Key Psk End Keep Sent Got Allowed) 81 1 = [.i .i64 End.Port] := by
  have h := sub_sub (a := cs Key Psk End Keep Sent Got Allowed) (off := 64) (n := 18) (m := 17) (k := 1) (by omega)
  rw [sub_End] at h; rw [← h]; exact TEndpoint.sub_Port'
@[go_sem] theorem sub_End_Port' : sub (c x) 81 1 = [.i .i64 x.End.Port] := by
  have h := sub_sub (a := c x) (off := 64) (n := 18) (m := 17) (k := 1) (by omega)
  rw [sub_End'] at h; rw [← h]; exact TEndpoint.sub_Port'
@[go_sem] theorem sub_Key_n {i m : Nat} (h0 : 2 ≤ m) (h1 : 0 ≤ i) (h2 : i + m ≤ 32) (h3 : m < 32) : sub (cs Key Psk End Keep Sent Got Allowed) i m = Bs.c (Key.sub (i - 0) m) := by
  have h := sub_sub (a := cs Key Psk End Keep Sent Got Allowed) (off := 0) (n := 32) (m := i - 0) (k := m) (by omega)
  rw [sub_Key, show 0 + (i - 0) = i by omega] at h; rw [← h]; exact Bs.sub_m (by omega)
@[go_sem] theorem sub_Key_n' {i m : Nat} (h0 : 2 ≤ m) (h1 : 0 ≤ i) (h2 : i + m ≤ 32) (h3 : m < 32) : sub (c x) i m = Bs.c (x.Key.sub (i - 0) m) := by
  have h := sub_sub (a := c x) (off := 0) (n := 32) (m := i - 0) (k := m) (by omega)
  rw [sub_Key', show 0 + (i - 0) = i by omega] at h; rw [← h]; exact Bs.sub_m (by omega)
@[go_sem] theorem sub_Psk_n {i m : Nat} (h0 : 2 ≤ m) (h1 : 32 ≤ i) (h2 : i + m ≤ 64) (h3 : m < 32) : sub (cs Key Psk End Keep Sent Got Allowed) i m = Bs.c (Psk.sub (i - 32) m) := by
  have h := sub_sub (a := cs Key Psk End Keep Sent Got Allowed) (off := 32) (n := 32) (m := i - 32) (k := m) (by omega)
  rw [sub_Psk, show 32 + (i - 32) = i by omega] at h; rw [← h]; exact Bs.sub_m (by omega)
@[go_sem] theorem sub_Psk_n' {i m : Nat} (h0 : 2 ≤ m) (h1 : 32 ≤ i) (h2 : i + m ≤ 64) (h3 : m < 32) : sub (c x) i m = Bs.c (x.Psk.sub (i - 32) m) := by
  have h := sub_sub (a := c x) (off := 32) (n := 32) (m := i - 32) (k := m) (by omega)
  rw [sub_Psk', show 32 + (i - 32) = i by omega] at h; rw [← h]; exact Bs.sub_m (by omega)
@[go_sem] theorem put_Key {Key' : Bs 32} : splice (cs Key Psk End Keep Sent Got Allowed) 0 (Bs.c Key') = cs Key' Psk End Keep Sent Got Allowed := by unfold cs; rw [splice_first (by simp)]
@[go_sem] theorem put_Key' {Key' : Bs 32} : splice (c x) 0 (Bs.c Key') = c { x with Key := Key' } := put_Key
@[go_sem] theorem put_Key_at {i : Nat} {v : UInt8} (h1 : 0 ≤ i) (h2 : i < 32) : splice (cs Key Psk End Keep Sent Got Allowed) i [.i .u8 v.toNat] = cs (Key.put (i - 0) v) Psk End Keep Sent Got Allowed := by
  unfold cs; rw [splice_left (by simp; omega), Bs.splice_1 (by omega)]
  try simp only [Nat.sub_zero]
@[go_sem] theorem put_Key_l {i : Nat} {l : List UInt8} (h1 : 0 ≤ i) (h2 : i + l.length ≤ 32) : splice (cs Key Psk End Keep Sent Got Allowed) i (Bs.bc l) = cs (Key.putL (i - 0) l) Psk End Keep Sent Got Allowed := by
  unfold cs; rw [splice_left (by simp [Bs.bc_len]; omega), Bs.splice_l (by omega)]
  try simp only [Nat.sub_zero]
@[go_sem] theorem put_Key_at' {i : Nat} {v : UInt8} (h1 : 0 ≤ i) (h2 : i < 32) : splice (c x) i [.i .u8 v.toNat] = c { x with Key := x.Key.put (i - 0) v } := by
  exact put_Key_at h1 h2
@[go_sem] theorem put_Key_l' {i : Nat} {l : List UInt8} (h1 : 0 ≤ i) (h2 : i + l.length ≤ 32) : splice (c x) i (Bs.bc l) = c { x with Key := x.Key.putL (i - 0) l } := by
  exact put_Key_l h1 h2
@[go_sem] theorem put_Psk {Psk' : Bs 32} : splice (cs Key Psk End Keep Sent Got Allowed) 32 (Bs.c Psk') = cs Key Psk' End Keep Sent Got Allowed := by unfold cs; rw [splice_r (k := 32) (o := 0) (by simp) (by omega), splice_first (by simp)]
@[go_sem] theorem put_Psk' {Psk' : Bs 32} : splice (c x) 32 (Bs.c Psk') = c { x with Psk := Psk' } := put_Psk
@[go_sem] theorem put_Psk_at {i : Nat} {v : UInt8} (h1 : 32 ≤ i) (h2 : i < 64) : splice (cs Key Psk End Keep Sent Got Allowed) i [.i .u8 v.toNat] = cs Key (Psk.put (i - 32) v) End Keep Sent Got Allowed := by
  unfold cs; rw [splice_r (k := 32) (o := i - 32) (by simp) (by omega), splice_left (by simp; omega), Bs.splice_1 (by omega)]
@[go_sem] theorem put_Psk_l {i : Nat} {l : List UInt8} (h1 : 32 ≤ i) (h2 : i + l.length ≤ 64) : splice (cs Key Psk End Keep Sent Got Allowed) i (Bs.bc l) = cs Key (Psk.putL (i - 32) l) End Keep Sent Got Allowed := by
  unfold cs; rw [splice_r (k := 32) (o := i - 32) (by simp) (by omega), splice_left (by simp [Bs.bc_len]; omega), Bs.splice_l (by omega)]
@[go_sem] theorem put_Psk_at' {i : Nat} {v : UInt8} (h1 : 32 ≤ i) (h2 : i < 64) : splice (c x) i [.i .u8 v.toNat] = c { x with Psk := x.Psk.put (i - 32) v } := by
  exact put_Psk_at h1 h2
@[go_sem] theorem put_Psk_l' {i : Nat} {l : List UInt8} (h1 : 32 ≤ i) (h2 : i + l.length ≤ 64) : splice (c x) i (Bs.bc l) = c { x with Psk := x.Psk.putL (i - 32) l } := by
  exact put_Psk_l h1 h2
@[go_sem] theorem put_End {End' : TEndpoint} : splice (cs Key Psk End Keep Sent Got Allowed) 64 (TEndpoint.c End') = cs Key Psk End' Keep Sent Got Allowed := by unfold cs; rw [splice_r (k := 32) (o := 32) (by simp) (by omega), splice_r (k := 32) (o := 0) (by simp) (by omega), splice_first (by simp)]
@[go_sem] theorem put_End' {End' : TEndpoint} : splice (c x) 64 (TEndpoint.c End') = c { x with End := End' } := put_End
@[go_sem] theorem put_Keep {Keep' : Int} : splice (cs Key Psk End Keep Sent Got Allowed) 82 ([.i .i64 Keep']) = cs Key Psk End Keep' Sent Got Allowed := by unfold cs; rw [splice_r (k := 32) (o := 50) (by simp) (by omega), splice_r (k := 32) (o := 18) (by simp) (by omega), splice_r (k := 18) (o := 0) (by simp) (by omega), splice_first (by simp)]
@[go_sem] theorem put_Keep' {Keep' : Int} : splice (c x) 82 ([.i .i64 Keep']) = c { x with Keep := Keep' } := put_Keep
@[go_sem] theorem put_Sent {Sent' : Int} : splice (cs Key Psk End Keep Sent Got Allowed) 83 ([.i .u64 Sent']) = cs Key Psk End Keep Sent' Got Allowed := by unfold cs; rw [splice_r (k := 32) (o := 51) (by simp) (by omega), splice_r (k := 32) (o := 19) (by simp) (by omega), splice_r (k := 18) (o := 1) (by simp) (by omega), splice_r (k := 1) (o := 0) (by simp) (by omega), splice_first (by simp)]
@[go_sem] theorem put_Sent' {Sent' : Int} : splice (c x) 83 ([.i .u64 Sent']) = c { x with Sent := Sent' } := put_Sent
@[go_sem] theorem put_Got {Got' : Int} : splice (cs Key Psk End Keep Sent Got Allowed) 84 ([.i .u64 Got']) = cs Key Psk End Keep Sent Got' Allowed := by unfold cs; rw [splice_r (k := 32) (o := 52) (by simp) (by omega), splice_r (k := 32) (o := 20) (by simp) (by omega), splice_r (k := 18) (o := 2) (by simp) (by omega), splice_r (k := 1) (o := 1) (by simp) (by omega), splice_r (k := 1) (o := 0) (by simp) (by omega), splice_first (by simp)]
@[go_sem] theorem put_Got' {Got' : Int} : splice (c x) 84 ([.i .u64 Got']) = c { x with Got := Got' } := put_Got
@[go_sem] theorem put_Allowed {Allowed' : AV} : splice (cs Key Psk End Keep Sent Got Allowed) 85 ([Allowed']) = cs Key Psk End Keep Sent Got Allowed' := by unfold cs; rw [splice_r (k := 32) (o := 53) (by simp) (by omega), splice_r (k := 32) (o := 21) (by simp) (by omega), splice_r (k := 18) (o := 3) (by simp) (by omega), splice_r (k := 1) (o := 2) (by simp) (by omega), splice_r (k := 1) (o := 1) (by simp) (by omega), splice_r (k := 1) (o := 0) (by simp) (by omega), splice_all (by simp)]
@[go_sem] theorem put_Allowed' {Allowed' : AV} : splice (c x) 85 [Allowed'] = cs x.Key x.Psk x.End x.Keep x.Sent x.Got Allowed' := put_Allowed
@[go_sem] theorem put_cc {y : TPeer} : splice (c x) 0 (c y) = c y := splice_all (by rw [c_len, c_len])
@[go_sem] theorem put_ccs : splice (c x) 0 (cs Key Psk End Keep Sent Got Allowed) = cs Key Psk End Keep Sent Got Allowed := splice_all (by rw [c_len, cs_len])
@[go_sem] theorem put_csc : splice (cs Key Psk End Keep Sent Got Allowed) 0 (c x) = c x := splice_all (by rw [c_len, cs_len])
@[go_sem] theorem put_cscs {Key2 : Bs 32} {Psk2 : Bs 32} {End2 : TEndpoint} {Keep2 : Int} {Sent2 : Int} {Got2 : Int} {Allowed2 : AV} : splice (cs Key Psk End Keep Sent Got Allowed) 0 (cs Key2 Psk2 End2 Keep2 Sent2 Got2 Allowed2) = cs Key2 Psk2 End2 Keep2 Sent2 Got2 Allowed2 := splice_all (by rw [cs_len, cs_len])
@[go_sem] theorem put_End_A {A' : TAddr} : splice (cs Key Psk End Keep Sent Got Allowed) 64 (TAddr.c A') = cs Key Psk { End with A := A' } Keep Sent Got Allowed := by
  unfold cs; rw [splice_r (k := 32) (o := 32) (by simp) (by omega), splice_r (k := 32) (o := 0) (by simp) (by omega), splice_left (by simp), TEndpoint.put_A']
@[go_sem] theorem put_End_A' {A' : TAddr} : splice (c x) 64 (TAddr.c A') = c { x with End := { x.End with A := A' } } := by
  exact put_End_A
@[go_sem] theorem put_End_A_V {V' : Int} : splice (cs Key Psk End Keep Sent Got Allowed) 64 ([.i .i64 V']) = cs Key Psk { End with A := { End.A with V := V' } } Keep Sent Got Allowed := by
  unfold cs; rw [splice_r (k := 32) (o := 32) (by simp) (by omega), splice_r (k := 32) (o := 0) (by simp) (by omega), splice_left (by simp), TEndpoint.put_A_V']
@[go_sem] theorem put_End_A_V' {V' : Int} : splice (c x) 64 ([.i .i64 V']) = c { x with End := { x.End with A := { x.End.A with V := V' } } } := by
  exact put_End_A_V
@[go_sem] theorem put_End_A_B {B' : Bs 16} : splice (cs Key Psk End Keep Sent Got Allowed) 65 (Bs.c B') = cs Key Psk { End with A := { End.A with B := B' } } Keep Sent Got Allowed := by
  unfold cs; rw [splice_r (k := 32) (o := 33) (by simp) (by omega), splice_r (k := 32) (o := 1) (by simp) (by omega), splice_left (by simp), TEndpoint.put_A_B']
@[go_sem] theorem put_End_A_B' {B' : Bs 16} : splice (c x) 65 (Bs.c B') = c { x with End := { x.End with A := { x.End.A with B := B' } } } := by
  exact put_End_A_B
@[go_sem] theorem put_End_Port {Port' : Int} : splice (cs Key Psk End Keep Sent Got Allowed) 81 ([.i .i64 Port']) = cs Key Psk { End with Port := Port' } Keep Sent Got Allowed := by
  unfold cs; rw [splice_r (k := 32) (o := 49) (by simp) (by omega), splice_r (k := 32) (o := 17) (by simp) (by omega), splice_left (by simp), TEndpoint.put_Port']
@[go_sem] theorem put_End_Port' {Port' : Int} : splice (c x) 81 ([.i .i64 Port']) = c { x with End := { x.End with Port := Port' } } := by
  exact put_End_Port
@[go_sem] theorem mentL_cs : mentL (cs Key Psk End Keep Sent Got Allowed) = ment Allowed := by simp [cs, mentL_app, mentL, ment, Bs.mentL_c, TEndpoint.mentL_c]
@[go_sem] theorem mentL_c : mentL (c x) = 0 := by simp [c, mentL_cs, slv_ment (fun _ => TPrefix.mentL_c)]
@[go_sem] theorem mvL_c {n L : Nat} : mvL n L (c x) = some (c x) := mvL_of (by rw [mentL_c]; omega)
@[go_sem] theorem mentLL_c {l : List TPeer} : mentLL (l.map c) = 0 := mentLL_map (fun _ => mentL_c) l
@[go_sem] theorem slv_ment {sz : Nat} {g : GS TPeer} : ment (slv sz c g) = 0 := Am.slv_ment fun _ => mentL_c
@[go_sem] theorem slv_mv {sz n L : Nat} {g : GS TPeer} : mv n L (slv sz c g) = some (slv sz c g) := Am.slv_mv fun _ => mentL_c
@[go_sem] theorem slv_frz {sz n : Nat} {h : Heap} {g : GS TPeer} : frz h n (slv sz c g) = some (slv sz c g) := Am.slv_frz fun _ => mentL_c
@[go_sem] theorem frzL_c {h : Heap} {n : Nat} : frzL h n (c x) = some (c x) := frzL_ok (by rw [mentL_c]; omega)
@[go_sem] theorem mvL_cs {n L : Nat} : mvL n L (cs Key Psk End Keep Sent Got Allowed) = (mv n L Allowed).map fun Allowed => cs Key Psk End Keep Sent Got Allowed := by
  simp only [cs, mvL_app, mvL_cons, mvL_nil, mv_b, mv_i, mv_s, Bs.mvL_c, TEndpoint.mvL_c, Option.bind_some, Option.map_some]
  cases mv n L Allowed <;> simp
@[go_sem] theorem frzL_cs {h : Heap} {n : Nat} : frzL h n (cs Key Psk End Keep Sent Got Allowed) = (frz h n Allowed).map fun Allowed => cs Key Psk End Keep Sent Got Allowed := by
  simp only [cs, frzL_app, frzL_cons, frzL_nil, frz_b, frz_i, frz_s, Bs.frzL_c, TEndpoint.frzL_c, Option.bind_some, Option.map_some]
  cases frz h n Allowed <;> simp
end TPeer

structure TIniPeer where
  Key : Bs 32
  Psk : Bs 32
  End : TEndpoint
  Keep : Int
  Allowed : GS (TPrefix)
  deriving DecidableEq
namespace TIniPeer
def cs (Key : Bs 32) (Psk : Bs 32) (End : TEndpoint) (Keep : Int) (Allowed : AV) : List AV := Bs.c Key ++ (Bs.c Psk ++ (TEndpoint.c End ++ ([.i .i64 Keep] ++ ([Allowed]))))
def c (x : TIniPeer) : List AV := cs x.Key x.Psk x.End x.Keep (slv 18 TPrefix.c x.Allowed)
variable {Key : Bs 32} {Psk : Bs 32} {End : TEndpoint} {Keep : Int} {Allowed : AV} {x : TIniPeer}
@[simp, go_sem] theorem cs_len : (cs Key Psk End Keep Allowed).length = 84 := by simp [cs]
@[simp, go_sem] theorem c_len : (c x).length = 84 := cs_len
@[go_sem] theorem sub_cs : sub (cs Key Psk End Keep Allowed) 0 84 = cs Key Psk End Keep Allowed := sub_all cs_len
@[go_sem] theorem sub_c : sub (c x) 0 84 = c x := sub_all c_len
@[go_sem] theorem fold {Allowed' : GS (TPrefix)} : cs Key Psk End Keep (slv 18 TPrefix.c Allowed') = c ⟨Key, Psk, End, Keep, Allowed'⟩ := rfl
@[go_sem] theorem fold_nil : cs Key Psk End Keep .nils = c ⟨Key, Psk, End, Keep, .nil⟩ := rfl
def z : TIniPeer := ⟨(Bs.z 32), (Bs.z 32), TEndpoint.z, 0, .nil⟩
@[go_sem] theorem z_Key : z.Key = (Bs.z 32) := rfl
@[go_sem] theorem z_Psk : z.Psk = (Bs.z 32) := rfl
@[go_sem] theorem z_End : z.End = TEndpoint.z := rfl
@[go_sem] theorem z_Keep : z.Keep = 0 := rfl
@[go_sem] theorem z_Allowed : z.Allowed = .nil := rfl
@[go_sem] theorem sub_Key : sub (cs Key Psk End Keep Allowed) 0 32 = Bs.c Key := by exact sub_first (by simp)
@[go_sem] theorem sub_Key' : sub (c x) 0 32 = Bs.c x.Key := sub_Key
@[go_sem] theorem sub_Psk : sub (cs Key Psk End Keep Allowed) 32 32 = Bs.c Psk := by exact (sub_r (k := 32) (o := 0) (by simp) rfl).trans <| sub_first (by simp)
@[go_sem] theorem sub_Psk' : sub (c x) 32 32 = Bs.c x.Psk := sub_Psk
@[go_sem] theorem sub_End : sub (cs Key Psk End Keep Allowed) 64 18 = TEndpoint.c End := by exact (sub_r (k := 32) (o := 32) (by simp) rfl).trans <| (sub_r (k := 32) (o := 0) (by simp) rfl).trans <| sub_first (by simp)
@[go_sem] theorem sub_End' : sub (c x) 64 18 = TEndpoint.c x.End := sub_End
@[go_sem] theorem sub_Keep : sub (cs Key Psk End Keep Allowed) 82 1 = [.i .i64 Keep] := by exact (sub_r (k := 32) (o := 50) (by simp) rfl).trans <| (sub_r (k := 32) (o := 18) (by simp) rfl).trans <| (sub_r (k := 18) (o := 0) (by simp) rfl).trans <| sub_first (by simp)
@[go_sem] theorem sub_Keep' : sub (c x) 82 1 = [.i .i64 x.Keep] := sub_Keep
@[go_sem] theorem sub_Allowed : sub (cs Key Psk End Keep Allowed) 83 1 = [Allowed] := by exact (sub_r (k := 32) (o := 51) (by simp) rfl).trans <| (sub_r (k := 32) (o := 19) (by simp) rfl).trans <| (sub_r (k := 18) (o := 1) (by simp) rfl).trans <| (sub_r (k := 1) (o := 0) (by simp) rfl).trans <| sub_all (by simp)
@[go_sem] theorem sub_Allowed' : sub (c x) 83 1 = [slv 18 TPrefix.c x.Allowed] := sub_Allowed
@[go_sem] theorem sub_Key_at {i : Nat} (h1 : 0 ≤ i) (h2 : i < 32) : sub (cs Key Psk End Keep Allowed) i 1 = [.i .u8 (Key.g (i - 0)).toNat] := by
  have h := sub_sub (a := cs Key Psk End Keep Allowed) (off := 0) (n := 32) (m := i - 0) (k := 1) (by omega)
  rw [sub_Key, show 0 + (i - 0) = i by omega] at h; rw [← h]; exact Bs.sub_1 (by omega)
@[go_sem] theorem sub_Key_at' {i : Nat} (h1 : 0 ≤ i) (h2 : i < 32) : sub (c x) i 1 = [.i .u8 (x.Key.g (i - 0)).toNat] := by
  have h := sub_sub (a := c x) (off := 0) (n := 32) (m := i - 0) (k := 1) (by omega)
  rw [sub_Key', show 0 + (i - 0) = i by omega] at h; rw [← h]; exact Bs.sub_1 (by omega)
@[go_sem] theorem sub_Psk_at {i : Nat} (h1 : 32 ≤ i) (h2 : i < 64) : sub (cs Key Psk End Keep Allowed) i 1 = [.i .u8 (Psk.g (i - 32)).toNat] := by
  have h := sub_sub (a := cs Key Psk End Keep Allowed) (off := 32) (n := 32) (m := i - 32) (k := 1) (by omega)
  rw [sub_Psk, show 32 + (i - 32) = i by omega] at h; rw [← h]; exact Bs.sub_1 (by omega)
@[go_sem] theorem sub_Psk_at' {i : Nat} (h1 : 32 ≤ i) (h2 : i < 64) : sub (c x) i 1 = [.i .u8 (x.Psk.g (i - 32)).toNat] := by
  have h := sub_sub (a := c x) (off := 32) (n := 32) (m := i - 32) (k := 1) (by omega)
  rw [sub_Psk', show 32 + (i - 32) = i by omega] at h; rw [← h]; exact Bs.sub_1 (by omega)
@[go_sem] theorem sub_End_A : sub (cs Key Psk End Keep Allowed) 64 17 = TAddr.c End.A := by
  have h := sub_sub (a := cs Key Psk End Keep Allowed) (off := 64) (n := 18) (m := 0) (k := 17) (by omega)
  rw [sub_End] at h; rw [← h]; exact TEndpoint.sub_A'
@[go_sem] theorem sub_End_A' : sub (c x) 64 17 = TAddr.c x.End.A := by
  have h := sub_sub (a := c x) (off := 64) (n := 18) (m := 0) (k := 17) (by omega)
  rw [sub_End'] at h; rw [← h]; exact TEndpoint.sub_A'
@[go_sem] theorem sub_End_A_V : sub (cs Key Psk End Keep Allowed) 64 1 = [.i .i64 End.A.V] := by
  have h := sub_sub (a := cs Key Psk End Keep Allowed) (off := 64) (n := 18) (m := 0) (k := 1) (by omega)
  rw [sub_End] at h; rw [← h]; exact TEndpoint.sub_A_V'
@[go_sem] theorem sub_End_A_V' : sub (c x) 64 1 = [.i .i64 x.End.A.V] := by
  have h := sub_sub (a := c x) (off := 64) (n := 18) (m := 0) (k := 1) (by omega)
  rw [sub_End'] at h; rw [← h]; exact TEndpoint.sub_A_V'
@[go_sem] theorem sub_End_A_B : sub (cs Key Psk End Keep Allowed) 65 16 = Bs.c End.A.B := by
  have h := sub_sub (a := cs Key Psk End Keep Allowed) (off := 64) (n := 18) (m := 1) (k := 16) (by omega)
  rw [sub_End] at h; rw [← h]; exact TEndpoint.sub_A_B'
@[go_sem] theorem sub_End_A_B' : sub (c x) 65 16 = Bs.c x.End.A.B := by
  have h := sub_sub (a := c x) (off := 64) (n := 18) (m := 1) (k := 16) (by omega)
  rw [sub_End'] at h; rw [← h]; exact TEndpoint.sub_A_B'
@[go_sem] theorem sub_End_Port : sub (cs Key Psk End Keep Allowed) 81 1 = [.i .i64 End.Port] := by
  have h := sub_sub (a := cs Key Psk End Keep Allowed) (off := 64) (n := 18) (m := 17) (k := 1) (by omega)
  rw [sub_End] at h; rw [← h]; exact TEndpoint.sub_Port'
@[go_sem] theorem sub_End_Port' : sub (c x) 81 1 = [.i .i64 x.End.Port] := by
  have h := sub_sub (a := c x) (off := 64) (n := 18) (m := 17) (k := 1) (by omega)
  rw [sub_End'] at h; rw [← h]; exact TEndpoint.sub_Port'
@[go_sem] theorem sub_Key_n {i m : Nat} (h0 : 2 ≤ m) (h1 : 0 ≤ i) (h2 : i + m ≤ 32) (h3 : m < 32) : sub (cs Key Psk End Keep Allowed) i m = Bs.c (Key.sub (i - 0) m) := by
  have h := sub_sub (a := cs Key Psk End Keep Allowed) (off := 0) (n := 32) (m := i - 0) (k := m) (by omega)
  rw [sub_Key, show 0 + (i - 0) = i by omega] at h; rw [← h]; exact Bs.sub_m (by omega)
@[go_sem] theorem sub_Key_n' {i m : Nat} (h0 : 2 ≤ m) (h1 : 0 ≤ i) (h2 : i + m ≤ 32) (h3 : m < 32) : sub (c x) i m = Bs.c (x.Key.sub (i - 0) m) := by
  have h := sub_sub (a := c x) (off := 0) (n := 32) (m := i - 0) (k := m) (by omega)
  rw [sub_Key', show 0 + (i - 0) = i by omega] at h; rw [← h]; exact Bs.sub_m (by omega)
@[go_sem] theorem sub_Psk_n {i m : Nat} (h0 : 2 ≤ m) (h1 : 32 ≤ i) (h2 : i + m ≤ 64) (h3 : m < 32) : sub (cs Key Psk End Keep Allowed) i m = Bs.c (Psk.sub (i - 32) m) := by
  have h := sub_sub (a := cs Key Psk End Keep Allowed) (off := 32) (n := 32) (m := i - 32) (k := m) (by omega)
  rw [sub_Psk, show 32 + (i - 32) = i by omega] at h; rw [← h]; exact Bs.sub_m (by omega)
@[go_sem] theorem sub_Psk_n' {i m : Nat} (h0 : 2 ≤ m) (h1 : 32 ≤ i) (h2 : i + m ≤ 64) (h3 : m < 32) : sub (c x) i m = Bs.c (x.Psk.sub (i - 32) m) := by
  have h := sub_sub (a := c x) (off := 32) (n := 32) (m := i - 32) (k := m) (by omega)
  rw [sub_Psk', show 32 + (i - 32) = i by omega] at h; rw [← h]; exact Bs.sub_m (by omega)
@[go_sem] theorem put_Key {Key' : Bs 32} : splice (cs Key Psk End Keep Allowed) 0 (Bs.c Key') = cs Key' Psk End Keep Allowed := by unfold cs; rw [splice_first (by simp)]
@[go_sem] theorem put_Key' {Key' : Bs 32} : splice (c x) 0 (Bs.c Key') = c { x with Key := Key' } := put_Key
@[go_sem] theorem put_Key_at {i : Nat} {v : UInt8} (h1 : 0 ≤ i) (h2 : i < 32) : splice (cs Key Psk End Keep Allowed) i [.i .u8 v.toNat] = cs (Key.put (i - 0) v) Psk End Keep Allowed := by
  unfold cs; rw [splice_left (by simp; omega), Bs.splice_1 (by omega)]
  try simp only [Nat.sub_zero]
@[go_sem] theorem put_Key_l {i : Nat} {l : List UInt8} (h1 : 0 ≤ i) (h2 : i + l.length ≤ 32) : splice (cs Key Psk End Keep Allowed) i (Bs.bc l) = cs (Key.putL (i - 0) l) Psk End Keep Allowed := by
  unfold cs; rw [splice_left (by simp [Bs.bc_len]; omega), Bs.splice_l (by omega)]
  try simp only [Nat.sub_zero]
@[go_sem] theorem put_Key_at' {i : Nat} {v : UInt8} (h1 : 0 ≤ i) (h2 : i < 32) : splice (c x) i [.i .u8 v.toNat] = c { x with Key := x.Key.put (i - 0) v } := by
  exact put_Key_at h1 h2
@[go_sem] theorem put_Key_l' {i : Nat} {l : List UInt8} (h1 : 0 ≤ i) (h2 : i + l.length ≤ 32) : splice (c x) i (Bs.bc l) = c { x with Key := x.Key.putL (i - 0) l } := by
  exact put_Key_l h1 h2
@[go_sem] theorem put_Psk {Psk' : Bs 32} : splice (cs Key Psk End Keep Allowed) 32 (Bs.c Psk') = cs Key Psk' End Keep Allowed := by unfold cs; rw [splice_r (k := 32) (o := 0) (by simp) (by omega), splice_first (by simp)]
@[go_sem] theorem put_Psk' {Psk' : Bs 32} : splice (c x) 32 (Bs.c Psk') = c { x with Psk := Psk' } := put_Psk
@[go_sem] theorem put_Psk_at {i : Nat} {v : UInt8} (h1 : 32 ≤ i) (h2 : i < 64) : splice (cs Key Psk End Keep Allowed) i [.i .u8 v.toNat] = cs Key (Psk.put (i - 32) v) End Keep Allowed := by
  unfold cs; rw [splice_r (k := 32) (o := i - 32) (by simp) (by omega), splice_left (by simp; omega), Bs.splice_1 (by omega)]
@[go_sem] theorem put_Psk_l {i : Nat} {l : List UInt8} (h1 : 32 ≤ i) (h2 : i + l.length ≤ 64) : splice (cs Key Psk End Keep Allowed) i (Bs.bc l) = cs Key (Psk.putL (i - 32) l) End Keep Allowed := by
  unfold cs; rw [splice_r (k := 32) (o := i - 32) (by simp) (by omega), splice_left (by simp [Bs.bc_len]; omega), Bs.splice_l (by omega)]
@[go_sem] theorem put_Psk_at' {i : Nat} {v : UInt8} (h1 : 32 ≤ i) (h2 : i < 64) : splice (c x) i [.i .u8 v.toNat] = c { x with Psk := x.Psk.put (i - 32) v } := by
  exact put_Psk_at h1 h2
@[go_sem] theorem put_Psk_l' {i : Nat} {l : List UInt8} (h1 : 32 ≤ i) (h2 : i + l.length ≤ 64) : splice (c x) i (Bs.bc l) = c { x with Psk := x.Psk.putL (i - 32) l } := by
  exact put_Psk_l h1 h2
@[go_sem] theorem put_End {End' : TEndpoint} : splice (cs Key Psk End Keep Allowed) 64 (TEndpoint.c End') = cs Key Psk End' Keep Allowed := by unfold cs; rw [splice_r (k := 32) (o := 32) (by simp) (by omega), splice_r (k := 32) (o := 0) (by simp) (by omega), splice_first (by simp)]
@[go_sem] theorem put_End' {End' : TEndpoint} : splice (c x) 64 (TEndpoint.c End') = c { x with End := End' } := put_End
@[go_sem] theorem put_Keep {Keep' : Int} : splice (cs Key Psk End Keep Allowed) 82 ([.i .i64 Keep']) = cs Key Psk End Keep' Allowed := by unfold cs; rw [splice_r (k := 32) (o := 50) (by simp) (by omega), splice_r (k := 32) (o := 18) (by simp) (by omega), splice_r (k := 18) (o := 0) (by simp) (by omega), splice_first (by simp)]
@[go_sem] theorem put_Keep' {Keep' : Int} : splice (c x) 82 ([.i .i64 Keep']) = c { x with Keep := Keep' } := put_Keep
@[go_sem] theorem put_Allowed {Allowed' : AV} : splice (cs Key Psk End Keep Allowed) 83 ([Allowed']) = cs Key Psk End Keep Allowed' := by unfold cs; rw [splice_r (k := 32) (o := 51) (by simp) (by omega), splice_r (k := 32) (o := 19) (by simp) (by omega), splice_r (k := 18) (o := 1) (by simp) (by omega), splice_r (k := 1) (o := 0) (by simp) (by omega), splice_all (by simp)]
@[go_sem] theorem put_Allowed' {Allowed' : AV} : splice (c x) 83 [Allowed'] = cs x.Key x.Psk x.End x.Keep Allowed' := put_Allowed
@[go_sem] theorem put_cc {y : TIniPeer} : splice (c x) 0 (c y) = c y := splice_all (by rw [c_len, c_len])
@[go_sem] theorem put_ccs : splice (c x) 0 (cs Key Psk End Keep Allowed) = cs Key Psk End Keep Allowed := splice_all (by rw [c_len, cs_len])
@[go_sem] theorem put_csc : splice (cs Key Psk End Keep Allowed) 0 (c x) = c x := splice_all (by rw [c_len, cs_len])
@[go_sem] theorem put_cscs {Key2 : Bs 32} {Psk2 : Bs 32} {End2 : TEndpoint} {Keep2 : Int} {Allowed2 : AV} : splice (cs Key Psk End Keep Allowed) 0 (cs Key2 Psk2 End2 Keep2 Allowed2) = cs Key2 Psk2 End2 Keep2 Allowed2 := splice_all (by rw [cs_len, cs_len])
@[go_sem] theorem put_End_A {A' : TAddr} : splice (cs Key Psk End Keep Allowed) 64 (TAddr.c A') = cs Key Psk { End with A := A' } Keep Allowed := by
  unfold cs; rw [splice_r (k := 32) (o := 32) (by simp) (by omega), splice_r (k := 32) (o := 0) (by simp) (by omega), splice_left (by simp), TEndpoint.put_A']
@[go_sem] theorem put_End_A' {A' : TAddr} : splice (c x) 64 (TAddr.c A') = c { x with End := { x.End with A := A' } } := by
  exact put_End_A
@[go_sem] theorem put_End_A_V {V' : Int} : splice (cs Key Psk End Keep Allowed) 64 ([.i .i64 V']) = cs Key Psk { End with A := { End.A with V := V' } } Keep Allowed := by
  unfold cs; rw [splice_r (k := 32) (o := 32) (by simp) (by omega), splice_r (k := 32) (o := 0) (by simp) (by omega), splice_left (by simp), TEndpoint.put_A_V']
@[go_sem] theorem put_End_A_V' {V' : Int} : splice (c x) 64 ([.i .i64 V']) = c { x with End := { x.End with A := { x.End.A with V := V' } } } := by
  exact put_End_A_V
@[go_sem] theorem put_End_A_B {B' : Bs 16} : splice (cs Key Psk End Keep Allowed) 65 (Bs.c B') = cs Key Psk { End with A := { End.A with B := B' } } Keep Allowed := by
  unfold cs; rw [splice_r (k := 32) (o := 33) (by simp) (by omega), splice_r (k := 32) (o := 1) (by simp) (by omega), splice_left (by simp), TEndpoint.put_A_B']
@[go_sem] theorem put_End_A_B' {B' : Bs 16} : splice (c x) 65 (Bs.c B') = c { x with End := { x.End with A := { x.End.A with B := B' } } } := by
  exact put_End_A_B
@[go_sem] theorem put_End_Port {Port' : Int} : splice (cs Key Psk End Keep Allowed) 81 ([.i .i64 Port']) = cs Key Psk { End with Port := Port' } Keep Allowed := by
  unfold cs; rw [splice_r (k := 32) (o := 49) (by simp) (by omega), splice_r (k := 32) (o := 17) (by simp) (by omega), splice_left (by simp), TEndpoint.put_Port']
@[go_sem] theorem put_End_Port' {Port' : Int} : splice (c x) 81 ([.i .i64 Port']) = c { x with End := { x.End with Port := Port' } } := by
  exact put_End_Port
@[go_sem] theorem mentL_cs : mentL (cs Key Psk End Keep Allowed) = ment Allowed := by simp [cs, mentL_app, mentL, ment, Bs.mentL_c, TEndpoint.mentL_c]
@[go_sem] theorem mentL_c : mentL (c x) = 0 := by simp [c, mentL_cs, slv_ment (fun _ => TPrefix.mentL_c)]
@[go_sem] theorem mvL_c {n L : Nat} : mvL n L (c x) = some (c x) := mvL_of (by rw [mentL_c]; omega)
@[go_sem] theorem mentLL_c {l : List TIniPeer} : mentLL (l.map c) = 0 := mentLL_map (fun _ => mentL_c) l
@[go_sem] theorem slv_ment {sz : Nat} {g : GS TIniPeer} : ment (slv sz c g) = 0 := Am.slv_ment fun _ => mentL_c
@[go_sem] theorem slv_mv {sz n L : Nat} {g : GS TIniPeer} : mv n L (slv sz c g) = some (slv sz c g) := Am.slv_mv fun _ => mentL_c
@[go_sem] theorem slv_frz {sz n : Nat} {h : Heap} {g : GS TIniPeer} : frz h n (slv sz c g) = some (slv sz c g) := Am.slv_frz fun _ => mentL_c
@[go_sem] theorem frzL_c {h : Heap} {n : Nat} : frzL h n (c x) = some (c x) := frzL_ok (by rw [mentL_c]; omega)
@[go_sem] theorem mvL_cs {n L : Nat} : mvL n L (cs Key Psk End Keep Allowed) = (mv n L Allowed).map fun Allowed => cs Key Psk End Keep Allowed := by
  simp only [cs, mvL_app, mvL_cons, mvL_nil, mv_b, mv_i, mv_s, Bs.mvL_c, TEndpoint.mvL_c, Option.bind_some, Option.map_some]
  cases mv n L Allowed <;> simp
@[go_sem] theorem frzL_cs {h : Heap} {n : Nat} : frzL h n (cs Key Psk End Keep Allowed) = (frz h n Allowed).map fun Allowed => cs Key Psk End Keep Allowed := by
  simp only [cs, frzL_app, frzL_cons, frzL_nil, frz_b, frz_i, frz_s, Bs.frzL_c, TEndpoint.frzL_c, Option.bind_some, Option.map_some]
  cases frz h n Allowed <;> simp
end TIniPeer

structure TPeerChange where
  Key : Bs 32
  Remove : Bool
  Update : Bool
  HasPsk : Bool
  Psk : Bs 32
  HasEnd : Bool
  End : TEndpoint
  HasKeep : Bool
  Keep : Int
  Replace : Bool
  Allowed : GS (TPrefix)
  deriving DecidableEq
namespace TPeerChange
def cs (Key : Bs 32) (Remove : Bool) (Update : Bool) (HasPsk : Bool) (Psk : Bs 32) (HasEnd : Bool) (End : TEndpoint) (HasKeep : Bool) (Keep : Int) (Replace : Bool) (Allowed : AV) : List AV := Bs.c Key ++ ([.b Remove] ++ ([.b Update] ++ ([.b HasPsk] ++ (Bs.c Psk ++ ([.b HasEnd] ++ (TEndpoint.c End ++ ([.b HasKeep] ++ ([.i .i64 Keep] ++ ([.b Replace] ++ ([Allowed]))))))))))
def c (x : TPeerChange) : List AV := cs x.Key x.Remove x.Update x.HasPsk x.Psk x.HasEnd x.End x.HasKeep x.Keep x.Replace (slv 18 TPrefix.c x.Allowed)
variable {Key : Bs 32} {Remove : Bool} {Update : Bool} {HasPsk : Bool} {Psk : Bs 32} {HasEnd : Bool} {End : TEndpoint} {HasKeep : Bool} {Keep : Int} {Replace : Bool} {Allowed : AV} {x : TPeerChange}
@[simp, go_sem] theorem cs_len : (cs Key Remove Update HasPsk Psk HasEnd End HasKeep Keep Replace Allowed).length = 90 := by simp [cs]
@[simp, go_sem] theorem c_len : (c x).length = 90 := cs_len
@[go_sem] theorem sub_cs : sub (cs Key Remove Update HasPsk Psk HasEnd End HasKeep Keep Replace Allowed) 0 90 = cs Key Remove Update HasPsk Psk HasEnd End HasKeep Keep Replace Allowed := sub_all cs_len
@[go_sem] theorem sub_c : sub (c x) 0 90 = c x := sub_all c_len
@[go_sem] theorem fold {Allowed' : GS (TPrefix)} : cs Key Remove Update HasPsk Psk HasEnd End HasKeep Keep Replace (slv 18 TPrefix.c Allowed') = c ⟨Key, Remove, Update, HasPsk, Psk, HasEnd, End, HasKeep, Keep, Replace, Allowed'⟩ := rfl
@[go_sem] theorem fold_nil : cs Key Remove Update HasPsk Psk HasEnd End HasKeep Keep Replace .nils = c ⟨Key, Remove, Update, HasPsk, Psk, HasEnd, End, HasKeep, Keep, Replace, .nil⟩ := rfl
def z : TPeerChange := ⟨(Bs.z 32), false, false, false, (Bs.z 32), false, TEndpoint.z, false, 0, false, .nil⟩
@[go_sem] theorem z_Key : z.Key = (Bs.z 32) := rfl
@[go_sem] theorem z_Remove : z.Remove = false := rfl
@[go_sem] theorem z_Update : z.Update = false := rfl
@[go_sem] theorem z_HasPsk : z.HasPsk = false := rfl
@[go_sem] theorem z_Psk : z.Psk = (Bs.z 32) := rfl
@[go_sem] theorem z_HasEnd : z.HasEnd = false := rfl
@[go_sem] theorem z_End : z.End = TEndpoint.z := rfl
@[go_sem] theorem z_HasKeep : z.HasKeep = false := rfl
@[go_sem] theorem z_Keep : z.Keep = 0 := rfl
@[go_sem] theorem z_Replace : z.Replace = false := rfl
@[go_sem] theorem z_Allowed : z.Allowed = .nil := rfl
@[go_sem] theorem sub_Key : sub (cs Key Remove Update HasPsk Psk HasEnd End HasKeep Keep Replace Allowed) 0 32 = Bs.c Key := by exact sub_first (by simp)
@[go_sem] theorem sub_Key' : sub (c x) 0 32 = Bs.c x.Key := sub_Key
@[go_sem] theorem sub_Remove : sub (cs Key Remove Update HasPsk Psk HasEnd End HasKeep Keep Replace Allowed) 32 1 = [.b Remove] := by exact (sub_r (k := 32) (o := 0) (by simp) rfl).trans <| sub_first (by simp)
@[go_sem] theorem sub_Remove' : sub (c x) 32 1 = [.b x.Remove] := sub_Remove
@[go_sem] theorem sub_Update : sub (cs Key Remove Update HasPsk Psk HasEnd End HasKeep Keep Replace Allowed) 33 1 = [.b Update] := by exact (sub_r (k := 32) (o := 1) (by simp) rfl).trans <| (sub_r (k := 1) (o := 0) (by simp) rfl).trans <| sub_first (by simp)
@[go_sem] theorem sub_Update' : sub (c x) 33 1 = [.b x.Update] := sub_Update
@[go_sem] theorem sub_HasPsk : sub (cs Key Remove Update HasPsk Psk HasEnd End HasKeep Keep Replace Allowed) 34 1 = [.b HasPsk] := by exact (sub_r (k := 32) (o := 2) (by simp) rfl).trans <| (sub_r (k := 1) (o := 1) (by simp) rfl).trans <| (sub_r (k := 1) (o := 0) (by simp) rfl).trans <| sub_first (by simp)
@[go_sem] theorem sub_HasPsk' : sub (c x) 34 1 = [.b x.HasPsk] := sub_HasPsk
@[go_sem] theorem sub_Psk : sub (cs Key Remove Update HasPsk Psk HasEnd End HasKeep Keep Replace Allowed) 35 32 = Bs.c Psk := by exact (sub_r (k := 32) (o := 3) (by simp) rfl).trans <| (sub_r (k := 1) (o := 2) (by simp) rfl).trans <| (sub_r (k := 1) (o := 1) (by simp) rfl).trans <| (sub_r (k := 1) (o := 0) (by simp) rfl).trans <| sub_first (by simp)
@[go_sem] theorem sub_Psk' : sub (c x) 35 32 = Bs.c x.Psk := sub_Psk
@[go_sem] theorem sub_HasEnd : sub (cs Key Remove Update HasPsk Psk HasEnd End HasKeep Keep Replace Allowed) 67 1 = [.b HasEnd] := by exact (sub_r (k := 32) (o := 35) (by simp) rfl).trans <| (sub_r (k := 1) (o := 34) (by simp) rfl).trans <| (sub_r (k := 1) (o := 33) (by simp) rfl).trans <| (sub_r (k := 1) (o := 32) (by simp) rfl).trans <| (sub_r (k := 32) (o := 0) (by simp) rfl).trans <| sub_first (by simp)
@[go_sem] theorem sub_HasEnd' : sub (c x) 67 1 = [.b x.HasEnd] := sub_HasEnd
@[go_sem] theorem sub_End : sub (cs Key Remove Update HasPsk Psk HasEnd End HasKeep Keep Replace Allowed) 68 18 = TEndpoint.c End := by exact (sub_r (k := 32) (o := 36) (by simp) rfl).trans <| (sub_r (k := 1) (o := 35) (by simp) rfl).trans <| (sub_r (k := 1) (o := 34) (by simp) rfl).trans <| (sub_r (k := 1) (o := 33) (by simp) rfl).trans <| (sub_r (k := 32) (o := 1) (by simp) rfl).trans <| (sub_r (k := 1) (o := 0) (by simp) rfl).trans <| sub_first (by simp)
@[go_sem] theorem sub_End' : sub (c x) 68 18 = TEndpoint.c x.End := sub_End
@[go_sem] theorem sub_HasKeep : sub (cs Key Remove Update HasPsk Psk HasEnd End HasKeep Keep Replace Allowed) 86 1 = [.b HasKeep] := by exact (sub_r (k := 32) (o := 54) (by simp) rfl).trans <| (sub_r (k := 1) (o := 53) (by simp) rfl).trans <| (sub_r (k := 1) (o := 52) (by simp) rfl).trans <| (sub_r (k := 1) (o := 51) (by simp) rfl).trans <| (sub_r (k := 32) (o := 19) (by simp) rfl).trans <| (sub_r (k := 1) (o := 18) (by simp) rfl).trans <| (sub_r (k := 18) (o := 0) (by simp) rfl).trans <| sub_first (by simp)
@[go_sem] theorem sub_HasKeep' : sub (c x) 86 1 = [.b x.HasKeep] := sub_HasKeep
@[go_sem] theorem sub_Keep : sub (cs Key Remove Update HasPsk Psk HasEnd End HasKeep Keep Replace Allowed) 87 1 = [.i .i64 Keep] := by exact (sub_r (k := 32) (o := 55) (by simp) rfl).trans <| (sub_r (k := 1) (o := 54) (by simp) rfl).trans <| (sub_r (k := 1) (o := 53) (by simp) rfl).trans <| (sub_r (k := 1) (o := 52) (by simp) rfl).trans <| (sub_r (k := 32) (o := 20) (by simp) rfl).trans <| (sub_r (k := 1) (o := 19) (by simp) rfl).trans <| (sub_r (k := 18) (o := 1) (by simp) rfl).trans <| (sub_r (k := 1) (o := 0) (by simp) rfl).trans <| sub_first (by simp)
@[go_sem] theorem sub_Keep' : sub (c x) 87 1 = [.i .i64 x.Keep] := sub_Keep
@[go_sem] theorem sub_Replace : sub (cs Key Remove Update HasPsk Psk HasEnd End HasKeep Keep Replace Allowed) 88 1 = [.b Replace] := by exact (sub_r (k := 32) (o := 56) (by simp) rfl).trans <| (sub_r (k := 1) (o := 55) (by simp) rfl).trans <| (sub_r (k := 1) (o := 54) (by simp) rfl).trans <| (sub_r (k := 1) (o := 53) (by simp) rfl).trans <| (sub_r (k := 32) (o := 21) (by simp) rfl).trans <| (sub_r (k := 1) (o := 20) (by simp) rfl).trans <| (sub_r (k := 18) (o := 2) (by simp) rfl).trans <| (sub_r (k := 1) (o := 1) (by simp) rfl).trans <| (sub_r (k := 1) (o := 0) (by simp) rfl).trans <| sub_first (by simp)
@[go_sem] theorem sub_Replace' : sub (c x) 88 1 = [.b x.Replace] := sub_Replace
@[go_sem] theorem sub_Allowed : sub (cs Key Remove Update HasPsk Psk HasEnd End HasKeep Keep Replace Allowed) 89 1 = [Allowed] := by exact (sub_r (k := 32) (o := 57) (by simp) rfl).trans <| (sub_r (k := 1) (o := 56) (by simp) rfl).trans <| (sub_r (k := 1) (o := 55) (by simp) rfl).trans <| (sub_r (k := 1) (o := 54) (by simp) rfl).trans <| (sub_r (k := 32) (o := 22) (by simp) rfl).trans <| (sub_r (k := 1) (o := 21) (by simp) rfl).trans <| (sub_r (k := 18) (o := 3) (by simp) rfl).trans <| (sub_r (k := 1) (o := 2) (by simp) rfl).trans <| (sub_r (k := 1) (o := 1) (by simp) rfl).trans <| (sub_r (k := 1) (o := 0) (by simp) rfl).trans <| sub_all (by simp)
@[go_sem] theorem sub_Allowed' : sub (c x) 89 1 = [slv 18 TPrefix.c x.Allowed] := sub_Allowed
@[go_sem] theorem sub_Key_at {i : Nat} (h1 : 0 ≤ i) (h2 : i < 32) : sub (cs Key Remove Update HasPsk Psk HasEnd End HasKeep Keep Replace Allowed) i 1 = [.i .u8 (Key.g (i - 0)).toNat] := by
  have h := sub_sub (a := cs Key Remove Update HasPsk Psk HasEnd End HasKeep Keep Replace Allowed) (off := 0) (n := 32) (m := i - 0) (k := 1) (by omega)
  rw [sub_Key, show 0 + (i - 0) = i by omega] at h; rw [← h]; exact Bs.sub_1 (by omega)
@[go_sem] theorem sub_Key_at' {i : Nat} (h1 : 0 ≤ i) (h2 : i < 32) : sub (c x) i 1 = [.i .u8 (x.Key.g (i - 0)).toNat] := by
  have h := sub_sub (a := c x) (off := 0) (n := 32) (m := i - 0) (k := 1) (by omega)
  rw [sub_Key', show 0 + (i - 0) = i by omega] at h; rw [← h]; exact Bs.sub_1 (by omega)
@[go_sem] theorem sub_Psk_at {i : Nat} (h1 : 35 ≤ i) (h2 : i < 67) : sub (cs Key Remove Update HasPsk Psk HasEnd End HasKeep Keep Replace Allowed) i 1 = [.i .u8 (Psk.g (i - 35)).toNat] := by
  have h := sub_sub (a := cs Key Remove Update HasPsk Psk HasEnd End HasKeep Keep Replace Allowed) (off := 35) (n := 32) (m := i - 35) (k := 1) (by omega)
  rw [sub_Psk, show 35 + (i - 35) = i by omega] at h; rw [← h]; exact Bs.sub_1 (by omega)
@[go_sem] theorem sub_Psk_at' {i : Nat} (h1 : 35 ≤ i) (h2 : i < 67) : sub (c x) i 1 = [.i .u8 (x.Psk.g (i - 35)).toNat] := by
  have h := sub_sub (a := c x) (off := 35) (n := 32) (m := i - 35) (k := 1) (by omega)
  rw [sub_Psk', show 35 + (i - 35) = i by omega] at h; rw [← h]; exact Bs.sub_1 (by omega)
@[go_sem] theorem sub_End_A : sub (cs Key Remove Update HasPsk Psk HasEnd End HasKeep Keep Replace Allowed) 68 17 = TAddr.c End.A := by
  have h := sub_sub (a := cs Key Remove Update HasPsk Psk HasEnd End HasKeep Keep Replace Allowed) (off := 68) (n := 18) (m := 0) (k := 17) (by omega)
  rw [sub_End] at h; rw [← h]; exact TEndpoint.sub_A'
@[go_sem] theorem sub_End_A' : sub (c x) 68 17 = TAddr.c x.End.A := by
  have h := sub_sub (a := c x) (off := 68) (n := 18) (m := 0) (k := 17) (by omega)
  rw [sub_End'] at h; rw [← h]; exact TEndpoint.sub_A'
@[go_sem] theorem sub_End_A_V : sub (cs Key Remove Update HasPsk Psk HasEnd End HasKeep Keep Replace Allowed) 68 1 = [.i .i64 End.A.V] := by
  have h := sub_sub (a := cs Key Remove Update HasPsk Psk HasEnd End HasKeep Keep Replace Allowed) (off := 68) (n := 18) (m := 0) (k := 1) (by omega)
  rw [sub_End] at h; rw [← h]; exact TEndpoint.sub_A_V'
@[go_sem] theorem sub_End_A_V' : sub (c x) 68 1 = [.i .i64 x.End.A.V] := by
  have h := sub_sub (a := c x) (off := 68) (n := 18) (m := 0) (k := 1) (by omega)
  rw [sub_End'] at h; rw [← h]; exact TEndpoint.sub_A_V'
@[go_sem] theorem sub_End_A_B : sub (cs Key Remove Update HasPsk Psk HasEnd End HasKeep Keep Replace Allowed) 69 16 = Bs.c End.A.B := by
  have h := sub_sub (a := cs Key Remove Update HasPsk Psk HasEnd End HasKeep Keep Replace Allowed) (off := 68) (n := 18) (m := 1) (k := 16) (by omega)
  rw [sub_End] at h; rw [← h]; exact TEndpoint.sub_A_B'
@[go_sem] theorem sub_End_A_B' : sub (c x) 69 16 = Bs.c x.End.A.B := by
  have h := sub_sub (a := c x) (off := 68) (n := 18) (m := 1) (k := 16) (by omega)
  rw [sub_End'] at h; rw [← h]; exact TEndpoint.sub_A_B'
@[go_sem] theorem sub_End_Port : sub (cs Key Remove Update HasPsk Psk HasEnd End HasKeep Keep Replace Allowed) 85 1 = [.i .i64 End.Port] := by
  have h := sub_sub (a := cs Key Remove Update HasPsk Psk HasEnd End HasKeep Keep Replace Allowed) (off := 68) (n := 18) (m := 17) (k := 1) (by omega)
  rw [sub_End] at h; rw [← h]; exact TEndpoint.sub_Port'
@[go_sem] theorem sub_End_Port' : sub (c x) 85 1 = [.i .i64 x.End.Port] := by
  have h := sub_sub (a := c x) (off := 68) (n := 18) (m := 17) (k := 1) (by omega)
  rw [sub_End'] at h; rw [← h]; exact TEndpoint.sub_Port'
@[go_sem] theorem sub_Key_n {i m : Nat} (h0 : 2 ≤ m) (h1 : 0 ≤ i) (h2 : i + m ≤ 32) (h3 : m < 32) : sub (cs Key Remove Update HasPsk Psk HasEnd End HasKeep Keep Replace Allowed) i m = Bs.c (Key.sub (i - 0) m) := by
  have h := sub_sub (a := cs Key Remove Update HasPsk Psk HasEnd End HasKeep Keep Replace Allowed) (off := 0) (n := 32) (m := i - 0) (k := m) (by omega)
  rw [sub_Key, show 0 + (i - 0) = i by omega] at h; rw [← h]; exact Bs.sub_m (by omega)
@[go_sem] theorem sub_Key_n' {i m : Nat} (h0 : 2 ≤ m) (h1 : 0 ≤ i) (h2 : i + m ≤ 32) (h3 : m < 32) : sub (c x) i m = Bs.c (x.Key.sub (i - 0) m) := by
  have h := sub_sub (a := c x) (off := 0) (n := 32) (m := i - 0) (k := m) (by omega)
  rw [sub_Key', show 0 + (i - 0) = i by omega] at h; rw [← h]; exact Bs.sub_m (by omega)
@[go_sem] theorem sub_Psk_n {i m : Nat} (h0 : 2 ≤ m) (h1 : 35 ≤ i) (h2 : i + m ≤ 67) (h3 : m < 32) : sub (cs Key Remove Update HasPsk Psk HasEnd End HasKeep Keep Replace Allowed) i m = Bs.c (Psk.sub (i - 35) m) := by
  have h := sub_sub (a := cs Key Remove Update HasPsk Psk HasEnd End HasKeep Keep Replace Allowed) (off := 35) (n := 32) (m := i - 35) (k := m) (by omega)
  rw [sub_Psk, show 35 + (i - 35) = i by omega] at h; rw [← h]; exact Bs.sub_m (by omega)
@[go_sem] theorem sub_Psk_n' {i m : Nat} (h0 : 2 ≤ m) (h1 : 35 ≤ i) (h2 : i + m ≤ 67) (h3 : m < 32) : sub (c x) i m = Bs.c (x.Psk.sub (i - 35) m) := by
  have h := sub_sub (a := c x) (off := 35) (n := 32) (m := i - 35) (k := m) (by omega)
  rw [sub_Psk', show 35 + (i - 35) = i by omega] at h; rw [← h]; exact Bs.sub_m (by omega)
@[go_sem] theorem put_Key {Key' : Bs 32} : splice (cs Key Remove Update HasPsk Psk HasEnd End HasKeep Keep Replace Allowed) 0 (Bs.c Key') = cs Key' Remove Update HasPsk Psk HasEnd End HasKeep Keep Replace Allowed := by unfold cs; rw [splice_first (by simp)]
@[go_sem] theorem put_Key' {Key' : Bs 32} : splice (c x) 0 (Bs.c Key') = c { x with Key := Key' } := put_Key
@[go_sem] theorem put_Key_at {i : Nat} {v : UInt8} (h1 : 0 ≤ i) (h2 : i < 32) : splice (cs Key Remove Update HasPsk Psk HasEnd End HasKeep Keep Replace Allowed) i [.i .u8 v.toNat] = cs (Key.put (i - 0) v) Remove Update HasPsk Psk HasEnd End HasKeep Keep Replace Allowed := by
  unfold cs; rw [splice_left (by simp; omega), Bs.splice_1 (by omega)]
  try simp only [Nat.sub_zero]
@[go_sem] theorem put_Key_l {i : Nat} {l : List UInt8} (h1 : 0 ≤ i) (h2 : i + l.length ≤ 32) : splice (cs Key Remove Update HasPsk Psk HasEnd End HasKeep Keep Replace Allowed) i (Bs.bc l) = cs (Key.putL (i - 0) l) Remove Update HasPsk Psk HasEnd End HasKeep Keep Replace Allowed := by
  unfold cs; rw [splice_left (by simp [Bs.bc_len]; omega), Bs.splice_l (by omega)]
  try simp only [Nat.sub_zero]
@[go_sem] theorem put_Key_at' {i : Nat} {v : UInt8} (h1 : 0 ≤ i) (h2 : i < 32) : splice (c x) i [.i .u8 v.toNat] = c { x with Key := x.Key.put (i - 0) v } := by
  exact put_Key_at h1 h2
@[go_sem] theorem put_Key_l' {i : Nat} {l : List UInt8} (h1 : 0 ≤ i) (h2 : i + l.length ≤ 32) : splice (c x) i (Bs.bc l) = c { x with Key := x.Key.putL (i - 0) l } := by
  exact put_Key_l h1 h2
@[go_sem] theorem put_Remove {Remove' : Bool} : splice (cs Key Remove Update HasPsk Psk HasEnd End HasKeep Keep Replace Allowed) 32 ([.b Remove']) = cs Key Remove' Update HasPsk Psk HasEnd End HasKeep Keep Replace Allowed := by unfold cs; rw [splice_r (k := 32) (o := 0) (by simp) (by omega), splice_first (by simp)]
@[go_sem] theorem put_Remove' {Remove' : Bool} : splice (c x) 32 ([.b Remove']) = c { x with Remove := Remove' } := put_Remove
@[go_sem] theorem put_Update {Update' : Bool} : splice (cs Key Remove Update HasPsk Psk HasEnd End HasKeep Keep Replace Allowed) 33 ([.b Update']) = cs Key Remove Update' HasPsk Psk HasEnd End HasKeep Keep Replace Allowed := by unfold cs; rw [splice_r (k := 32) (o := 1) (by simp) (by omega), splice_r (k := 1) (o := 0) (by simp) (by omega), splice_first (by simp)]
@[go_sem] theorem put_Update' {Update' : Bool} : splice (c x) 33 ([.b Update']) = c { x with Update := Update' } := put_Update
@[go_sem] theorem put_HasPsk {HasPsk' : Bool} : splice (cs Key Remove Update HasPsk Psk HasEnd End HasKeep Keep Replace Allowed) 34 ([.b HasPsk']) = cs Key Remove Update HasPsk' Psk HasEnd End HasKeep Keep Replace Allowed := by unfold cs; rw [splice_r (k := 32) (o := 2) (by simp) (by omega), splice_r (k := 1) (o := 1) (by simp) (by omega), splice_r (k := 1) (o := 0) (by simp) (by omega), splice_first (by simp)]
@[go_sem] theorem put_HasPsk' {HasPsk' : Bool} : splice (c x) 34 ([.b HasPsk']) = c { x with HasPsk := HasPsk' } := put_HasPsk
@[go_sem] theorem put_Psk {Psk' : Bs 32} : splice (cs Key Remove Update HasPsk Psk HasEnd End HasKeep Keep Replace Allowed) 35 (Bs.c Psk') = cs Key Remove Update HasPsk Psk' HasEnd End HasKeep Keep Replace Allowed := by unfold cs; rw [splice_r (k := 32) (o := 3) (by simp) (by omega), splice_r (k := 1) (o := 2) (by simp) (by omega), splice_r (k := 1) (o := 1) (by simp) (by omega), splice_r (k := 1) (o := 0) (by simp) (by omega), splice_first (by simp)]
@[go_sem] theorem put_Psk' {Psk' : Bs 32} : splice (c x) 35 (Bs.c Psk') = c { x with Psk := Psk' } := put_Psk
@[go_sem] theorem put_Psk_at {i : Nat} {v : UInt8} (h1 : 35 ≤ i) (h2 : i < 67) : splice (cs Key Remove Update HasPsk Psk HasEnd End HasKeep Keep Replace Allowed) i [.i .u8 v.toNat] = cs Key Remove Update HasPsk (Psk.put (i - 35) v) HasEnd End HasKeep Keep Replace Allowed := by
  unfold cs; rw [splice_r (k := 32) (o := i - 32) (by simp) (by omega), splice_r (k := 1) (o := i - 33) (by simp) (by omega), splice_r (k := 1) (o := i - 34) (by simp) (by omega), splice_r (k := 1) (o := i - 35) (by simp) (by omega), splice_left (by simp; omega), Bs.splice_1 (by omega)]
@[go_sem] theorem put_Psk_l {i : Nat} {l : List UInt8} (h1 : 35 ≤ i) (h2 : i + l.length ≤ 67) : splice (cs Key Remove Update HasPsk Psk HasEnd End HasKeep Keep Replace Allowed) i (Bs.bc l) = cs Key Remove Update HasPsk (Psk.putL (i - 35) l) HasEnd End HasKeep Keep Replace Allowed := by
  unfold cs; rw [splice_r (k := 32) (o := i - 32) (by simp) (by omega), splice_r (k := 1) (o := i - 33) (by simp) (by omega), splice_r (k := 1) (o := i - 34) (by simp) (by omega), splice_r (k := 1) (o := i - 35) (by simp) (by omega), splice_left (by simp [Bs.bc_len]; omega), Bs.splice_l (by omega)]
@[go_sem] theorem put_Psk_at' {i : Nat} {v : UInt8} (h1 : 35 ≤ i) (h2 : i < 67) : splice (c x) i [.i .u8 v.toNat] = c { x with Psk := x.Psk.put (i - 35) v } := by
  exact put_Psk_at h1 h2
@[go_sem] theorem put_Psk_l' {i : Nat} {l : List UInt8} (h1 : 35 ≤ i) (h2 : i + l.length ≤ 67) : splice (c x) i (Bs.bc l) = c { x with Psk := x.Psk.putL (i - 35) l } := by
  exact put_Psk_l h1 h2
@[go_sem] theorem put_HasEnd {HasEnd' : Bool} : splice (cs Key Remove Update HasPsk Psk HasEnd End HasKeep Keep Replace Allowed) 67 ([.b HasEnd']) = cs Key Remove Update HasPsk Psk HasEnd' End HasKeep Keep Replace Allowed := by unfold cs; rw [splice_r (k := 32) (o := 35) (by simp) (by omega), splice_r (k := 1) (o := 34) (by simp) (by omega), splice_r (k := 1) (o := 33) (by simp) (by omega), splice_r (k := 1) (o := 32) (by simp) (by omega), splice_r (k := 32) (o := 0) (by simp) (by omega), splice_first (by simp)]
@[go_sem] theorem put_HasEnd' {HasEnd' : Bool} : splice (c x) 67 ([.b HasEnd']) = c { x with HasEnd := HasEnd' } := put_HasEnd
@[go_sem] theorem put_End {End' : TEndpoint} : splice (cs Key Remove Update HasPsk Psk HasEnd End HasKeep Keep Replace Allowed) 68 (TEndpoint.c End') = cs Key Remove Update HasPsk Psk HasEnd End' HasKeep Keep Replace Allowed := by unfold cs; rw [splice_r (k := 32) (o := 36) (by simp) (by omega), splice_r (k := 1) (o := 35) (by simp) (by omega), splice_r (k := 1) (o := 34) (by simp) (by omega), splice_r (k := 1) (o := 33) (by simp) (by omega), splice_r (k := 32) (o := 1) (by simp) (by omega), splice_r (k := 1) (o := 0) (by simp) (by omega), splice_first (by simp)]
@[go_sem] theorem put_End' {End' : TEndpoint} : splice (c x) 68 (TEndpoint.c End') = c { x with End := End' } := put_End
@[go_sem] theorem put_HasKeep {HasKeep' : Bool} : splice (cs Key Remove Update HasPsk Psk HasEnd End HasKeep Keep Replace Allowed) 86 ([.b HasKeep']) = cs Key Remove Update HasPsk Psk HasEnd End HasKeep' Keep Replace Allowed := by unfold cs; rw [splice_r (k := 32) (o := 54) (by simp) (by omega), splice_r (k := 1) (o := 53) (by simp) (by omega), splice_r (k := 1) (o := 52) (by simp) (by omega), splice_r (k := 1) (o := 51) (by simp) (by omega), splice_r (k := 32) (o := 19) (by simp) (by omega), splice_r (k := 1) (o := 18) (by simp) (by omega), splice_r (k := 18) (o := 0) (by simp) (by omega), splice_first (by simp)]
@[go_sem] theorem put_HasKeep' {HasKeep' : Bool} : splice (c x) 86 ([.b HasKeep']) = c { x with HasKeep := HasKeep' } := put_HasKeep
@[go_sem] theorem put_Keep {Keep' : Int} : splice (cs Key Remove Update HasPsk Psk HasEnd End HasKeep Keep Replace Allowed) 87 ([.i .i64 Keep']) = cs Key Remove Update HasPsk Psk HasEnd End HasKeep Keep' Replace Allowed := by unfold cs; rw [splice_r (k := 32) (o := 55) (by simp) (by omega), splice_r (k := 1) (o := 54) (by simp) (by omega), splice_r (k := 1) (o := 53) (by simp) (by omega), splice_r (k := 1) (o := 52) (by simp) (by omega), splice_r (k := 32) (o := 20) (by simp) (by omega), splice_r (k := 1) (o := 19) (by simp) (by omega), splice_r (k := 18) (o := 1) (by simp) (by omega), splice_r (k := 1) (o := 0) (by simp) (by omega), splice_first (by simp)]
@[go_sem] theorem put_Keep' {Keep' : Int} : splice (c x) 87 ([.i .i64 Keep']) = c { x with Keep := Keep' } := put_Keep
@[go_sem] theorem put_Replace {Replace' : Bool} : splice (cs Key Remove Update HasPsk Psk HasEnd End HasKeep Keep Replace Allowed) 88 ([.b Replace']) = cs Key Remove Update HasPsk Psk HasEnd End HasKeep Keep Replace' Allowed := by unfold cs; rw [splice_r (k := 32) (o := 56) (by simp) (by omega), splice_r (k := 1) (o := 55) (by simp) (by omega), splice_r (k := 1) (o := 54) (by simp) (by omega), splice_r (k := 1) (o := 53) (by simp) (by omega), splice_r (k := 32) (o := 21) (by simp) (by omega), splice_r (k := 1) (o := 20) (by simp) (by omega), splice_r (k := 18) (o := 2) (by simp) (by omega), splice_r (k := 1) (o := 1) (by simp) (by omega), splice_r (k := 1) (o := 0) (by simp) (by omega), splice_first (by simp)]
@[go_sem] theorem put_Replace' {Replace' : Bool} : splice (c x) 88 ([.b Replace']) = c { x with Replace := Replace' } := put_Replace
@[go_sem] theorem put_Allowed {Allowed' : AV} : splice (cs Key Remove Update HasPsk Psk HasEnd End HasKeep Keep Replace Allowed) 89 ([Allowed']) = cs Key Remove Update HasPsk Psk HasEnd End HasKeep Keep Replace Allowed' := by unfold cs; rw [splice_r (k := 32) (o := 57) (by simp) (by omega), splice_r (k := 1) (o := 56) (by simp) (by omega), splice_r (k := 1) (o := 55) (by simp) (by omega), splice_r (k := 1) (o := 54) (by simp) (by omega), splice_r (k := 32) (o := 22) (by simp) (by omega), splice_r (k := 1) (o := 21) (by simp) (by omega), splice_r (k := 18) (o := 3) (by simp) (by omega), splice_r (k := 1) (o := 2) (by simp) (by omega), splice_r (k := 1) (o := 1) (by simp) (by omega), splice_r (k := 1) (o := 0) (by simp) (by omega), splice_all (by simp)]
@[go_sem] theorem put_Allowed' {Allowed' : AV} : splice (c x) 89 [Allowed'] = cs x.Key x.Remove x.Update x.HasPsk x.Psk x.HasEnd x.End x.HasKeep x.Keep x.Replace Allowed' := put_Allowed
@[go_sem] theorem put_cc {y : TPeerChange} : splice (c x) 0 (c y) = c y := splice_all (by rw [c_len, c_len])
@[go_sem] theorem put_ccs : splice (c x) 0 (cs Key Remove Update HasPsk Psk HasEnd End HasKeep Keep Replace Allowed) = cs Key Remove Update HasPsk Psk HasEnd End HasKeep Keep Replace Allowed := splice_all (by rw [c_len, cs_len])
@[go_sem] theorem put_csc : splice (cs Key Remove Update HasPsk Psk HasEnd End HasKeep Keep Replace Allowed) 0 (c x) = c x := splice_all (by rw [c_len, cs_len])
@[go_sem] theorem put_cscs {Key2 : Bs 32} {Remove2 : Bool} {Update2 : Bool} {HasPsk2 : Bool} {Psk2 : Bs 32} {HasEnd2 : Bool} {End2 : TEndpoint} {HasKeep2 : Bool} {Keep2 : Int} {Replace2 : Bool} {Allowed2 : AV} : splice (cs Key Remove Update HasPsk Psk HasEnd End HasKeep Keep Replace Allowed) 0 (cs Key2 Remove2 Update2 HasPsk2 Psk2 HasEnd2 End2 HasKeep2 Keep2 Replace2 Allowed2) = cs Key2 Remove2 Update2 HasPsk2 Psk2 HasEnd2 End2 HasKeep2 Keep2 Replace2 Allowed2 := splice_all (by rw [cs_len, cs_len])
@[go_sem] theorem put_End_A {A' : TAddr} : splice (cs Key Remove Update HasPsk Psk HasEnd End HasKeep Keep Replace Allowed) 68 (TAddr.c A') = cs Key Remove Update HasPsk Psk HasEnd { End with A := A' } HasKeep Keep Replace Allowed := by
  unfold cs; rw [splice_r (k := 32) (o := 36) (by simp) (by omega), splice_r (k := 1) (o := 35) (by simp) (by omega), splice_r (k := 1) (o := 34) (by simp) (by omega), splice_r (k := 1) (o := 33) (by simp) (by omega), splice_r (k := 32) (o := 1) (by simp) (by omega), splice_r (k := 1) (o := 0) (by simp) (by omega), splice_left (by simp), TEndpoint.put_A']
@[go_sem] theorem put_End_A' {A' : TAddr} : splice (c x) 68 (TAddr.c A') = c { x with End := { x.End with A := A' } } := by
  exact put_End_A
@[go_sem] theorem put_End_A_V {V' : Int} : splice (cs Key Remove Update HasPsk Psk HasEnd End HasKeep Keep Replace Allowed) 68 ([.i .i64 V']) = cs Key Remove Update HasPsk Psk HasEnd { End with A := { End.A with V := V' } } HasKeep Keep Replace Allowed := by
  unfold cs; rw [splice_r (k := 32) (o := 36) (by simp) (by omega), splice_r (k := 1) (o := 35) (by simp) (by omega), splice_r (k := 1) (o := 34) (by simp) (by omega), splice_r (k := 1) (o := 33) (by simp) (by omega), splice_r (k := 32) (o := 1) (by simp) (by omega), splice_r (k := 1) (o := 0) (by simp) (by omega), splice_left (by simp), TEndpoint.put_A_V']
@[go_sem] theorem put_End_A_V' {V' : Int} : splice (c x) 68 ([.i .i64 V']) = c { x with End := { x.End with A := { x.End.A with V := V' } } } := by
  exact put_End_A_V
@[go_sem] theorem put_End_A_B {B' : Bs 16} : splice (cs Key Remove Update HasPsk Psk HasEnd End HasKeep Keep Replace Allowed) 69 (Bs.c B') = cs Key Remove Update HasPsk Psk HasEnd { End with A := { End.A with B := B' } } HasKeep Keep Replace Allowed := by
  unfold cs; rw [splice_r (k := 32) (o := 37) (by simp) (by omega), splice_r (k := 1) (o := 36) (by simp) (by omega), splice_r (k := 1) (o := 35) (by simp) (by omega), splice_r (k := 1) (o := 34) (by simp) (by omega), splice_r (k := 32) (o := 2) (by simp) (by omega), splice_r (k := 1) (o := 1) (by simp) (by omega), splice_left (by simp), TEndpoint.put_A_B']
@[go_sem] theorem put_End_A_B' {B' : Bs 16} : splice (c x) 69 (Bs.c B') = c { x with End := { x.End with A := { x.End.A with B := B' } } } := by
  exact put_End_A_B
@[go_sem] theorem put_End_Port {Port' : Int} : splice (cs Key Remove Update HasPsk Psk HasEnd End HasKeep Keep Replace Allowed) 85 ([.i .i64 Port']) = cs Key Remove Update HasPsk Psk HasEnd { End with Port := Port' } HasKeep Keep Replace Allowed := by
  unfold cs; rw [splice_r (k := 32) (o := 53) (by simp) (by omega), splice_r (k := 1) (o := 52) (by simp) (by omega), splice_r (k := 1) (o := 51) (by simp) (by omega), splice_r (k := 1) (o := 50) (by simp) (by omega), splice_r (k := 32) (o := 18) (by simp) (by omega), splice_r (k := 1) (o := 17) (by simp) (by omega), splice_left (by simp), TEndpoint.put_Port']
@[go_sem] theorem put_End_Port' {Port' : Int} : splice (c x) 85 ([.i .i64 Port']) = c { x with End := { x.End with Port := Port' } } := by
  exact put_End_Port
@[go_sem] theorem mentL_cs : mentL (cs Key Remove Update HasPsk Psk HasEnd End HasKeep Keep Replace Allowed) = ment Allowed := by simp [cs, mentL_app, mentL, ment, Bs.mentL_c, TEndpoint.mentL_c]
@[go_sem] theorem mentL_c : mentL (c x) = 0 := by simp [c, mentL_cs, slv_ment (fun _ => TPrefix.mentL_c)]
@[go_sem] theorem mvL_c {n L : Nat} : mvL n L (c x) = some (c x) := mvL_of (by rw [mentL_c]; omega)
@[go_sem] theorem mentLL_c {l : List TPeerChange} : mentLL (l.map c) = 0 := mentLL_map (fun _ => mentL_c) l
@[go_sem] theorem slv_ment {sz : Nat} {g : GS TPeerChange} : ment (slv sz c g) = 0 := Am.slv_ment fun _ => mentL_c
@[go_sem] theorem slv_mv {sz n L : Nat} {g : GS TPeerChange} : mv n L (slv sz c g) = some (slv sz c g) := Am.slv_mv fun _ => mentL_c
@[go_sem] theorem slv_frz {sz n : Nat} {h : Heap} {g : GS TPeerChange} : frz h n (slv sz c g) = some (slv sz c g) := Am.slv_frz fun _ => mentL_c
@[go_sem] theorem frzL_c {h : Heap} {n : Nat} : frzL h n (c x) = some (c x) := frzL_ok (by rw [mentL_c]; omega)
@[go_sem] theorem mvL_cs {n L : Nat} : mvL n L (cs Key Remove Update HasPsk Psk HasEnd End HasKeep Keep Replace Allowed) = (mv n L Allowed).map fun Allowed => cs Key Remove Update HasPsk Psk HasEnd End HasKeep Keep Replace Allowed := by
  simp only [cs, mvL_app, mvL_cons, mvL_nil, mv_b, mv_i, mv_s, Bs.mvL_c, TEndpoint.mvL_c, Option.bind_some, Option.map_some]
  cases mv n L Allowed <;> simp
@[go_sem] theorem frzL_cs {h : Heap} {n : Nat} : frzL h n (cs Key Remove Update HasPsk Psk HasEnd End HasKeep Keep Replace Allowed) = (frz h n Allowed).map fun Allowed => cs Key Remove Update HasPsk Psk HasEnd End HasKeep Keep Replace Allowed := by
  simp only [cs, frzL_app, frzL_cons, frzL_nil, frz_b, frz_i, frz_s, Bs.frzL_c, TEndpoint.frzL_c, Option.bind_some, Option.map_some]
  cases frz h n Allowed <;> simp
end TPeerChange

structure TConf where
  Private : Bs 32
  Port : Int
  Mark : Int
  Peers : GS (TPeer)
  deriving DecidableEq
namespace TConf
def cs (Private : Bs 32) (Port : Int) (Mark : Int) (Peers : AV) : List AV := Bs.c Private ++ ([.i .i64 Port] ++ ([.i .u32 Mark] ++ ([Peers])))
def c (x : TConf) : List AV := cs x.Private x.Port x.Mark (slv 86 TPeer.c x.Peers)
variable {Private : Bs 32} {Port : Int} {Mark : Int} {Peers : AV} {x : TConf}
@[simp, go_sem] theorem cs_len : (cs Private Port Mark Peers).length = 35 := by simp [cs]
@[simp, go_sem] theorem c_len : (c x).length = 35 := cs_len
@[go_sem] theorem sub_cs : sub (cs Private Port Mark Peers) 0 35 = cs Private Port Mark Peers := sub_all cs_len
@[go_sem] theorem sub_c : sub (c x) 0 35 = c x := sub_all c_len
@[go_sem] theorem fold {Peers' : GS (TPeer)} : cs Private Port Mark (slv 86 TPeer.c Peers') = c ⟨Private, Port, Mark, Peers'⟩ := rfl
@[go_sem] theorem fold_nil : cs Private Port Mark .nils = c ⟨Private, Port, Mark, .nil⟩ := rfl
def z : TConf := ⟨(Bs.z 32), 0, 0, .nil⟩
@[go_sem] theorem z_Private : z.Private = (Bs.z 32) := rfl
@[go_sem] theorem z_Port : z.Port = 0 := rfl
@[go_sem] theorem z_Mark : z.Mark = 0 := rfl
@[go_sem] theorem z_Peers : z.Peers = .nil := rfl
@[go_sem] theorem sub_Private : sub (cs Private Port Mark Peers) 0 32 = Bs.c Private := by exact sub_first (by simp)
@[go_sem] theorem sub_Private' : sub (c x) 0 32 = Bs.c x.Private := sub_Private
@[go_sem] theorem sub_Port : sub (cs Private Port Mark Peers) 32 1 = [.i .i64 Port] := by exact (sub_r (k := 32) (o := 0) (by simp) rfl).trans <| sub_first (by simp)
@[go_sem] theorem sub_Port' : sub (c x) 32 1 = [.i .i64 x.Port] := sub_Port
@[go_sem] theorem sub_Mark : sub (cs Private Port Mark Peers) 33 1 = [.i .u32 Mark] := by exact (sub_r (k := 32) (o := 1) (by simp) rfl).trans <| (sub_r (k := 1) (o := 0) (by simp) rfl).trans <| sub_first (by simp)
@[go_sem] theorem sub_Mark' : sub (c x) 33 1 = [.i .u32 x.Mark] := sub_Mark
@[go_sem] theorem sub_Peers : sub (cs Private Port Mark Peers) 34 1 = [Peers] := by exact (sub_r (k := 32) (o := 2) (by simp) rfl).trans <| (sub_r (k := 1) (o := 1) (by simp) rfl).trans <| (sub_r (k := 1) (o := 0) (by simp) rfl).trans <| sub_all (by simp)
@[go_sem] theorem sub_Peers' : sub (c x) 34 1 = [slv 86 TPeer.c x.Peers] := sub_Peers
@[go_sem] theorem sub_Private_at {i : Nat} (h1 : 0 ≤ i) (h2 : i < 32) : sub (cs Private Port Mark Peers) i 1 = [.i .u8 (Private.g (i - 0)).toNat] := by
  have h := sub_sub (a := cs Private Port Mark Peers) (off := 0) (n := 32) (m := i - 0) (k := 1) (by omega)
  rw [sub_Private, show 0 + (i - 0) = i by omega] at h; rw [← h]; exact Bs.sub_1 (by omega)
@[go_sem] theorem sub_Private_at' {i : Nat} (h1 : 0 ≤ i) (h2 : i < 32) : sub (c x) i 1 = [.i .u8 (x.Private.g (i - 0)).toNat] := by
  have h := sub_sub (a := c x) (off := 0) (n := 32) (m := i - 0) (k := 1) (by omega)
  rw [sub_Private', show 0 + (i - 0) = i by omega] at h; rw [← h]; exact Bs.sub_1 (by omega)
@[go_sem] theorem sub_Private_n {i m : Nat} (h0 : 2 ≤ m) (h1 : 0 ≤ i) (h2 : i + m ≤ 32) (h3 : m < 32) : sub (cs Private Port Mark Peers) i m = Bs.c (Private.sub (i - 0) m) := by
  have h := sub_sub (a := cs Private Port Mark Peers) (off := 0) (n := 32) (m := i - 0) (k := m) (by omega)
  rw [sub_Private, show 0 + (i - 0) = i by omega] at h; rw [← h]; exact Bs.sub_m (by omega)
@[go_sem] theorem sub_Private_n' {i m : Nat} (h0 : 2 ≤ m) (h1 : 0 ≤ i) (h2 : i + m ≤ 32) (h3 : m < 32) : sub (c x) i m = Bs.c (x.Private.sub (i - 0) m) := by
  have h := sub_sub (a := c x) (off := 0) (n := 32) (m := i - 0) (k := m) (by omega)
  rw [sub_Private', show 0 + (i - 0) = i by omega] at h; rw [← h]; exact Bs.sub_m (by omega)
@[go_sem] theorem put_Private {Private' : Bs 32} : splice (cs Private Port Mark Peers) 0 (Bs.c Private') = cs Private' Port Mark Peers := by unfold cs; rw [splice_first (by simp)]
@[go_sem] theorem put_Private' {Private' : Bs 32} : splice (c x) 0 (Bs.c Private') = c { x with Private := Private' } := put_Private
@[go_sem] theorem put_Private_at {i : Nat} {v : UInt8} (h1 : 0 ≤ i) (h2 : i < 32) : splice (cs Private Port Mark Peers) i [.i .u8 v.toNat] = cs (Private.put (i - 0) v) Port Mark Peers := by
  unfold cs; rw [splice_left (by simp; omega), Bs.splice_1 (by omega)]
  try simp only [Nat.sub_zero]
@[go_sem] theorem put_Private_l {i : Nat} {l : List UInt8} (h1 : 0 ≤ i) (h2 : i + l.length ≤ 32) : splice (cs Private Port Mark Peers) i (Bs.bc l) = cs (Private.putL (i - 0) l) Port Mark Peers := by
  unfold cs; rw [splice_left (by simp [Bs.bc_len]; omega), Bs.splice_l (by omega)]
  try simp only [Nat.sub_zero]
@[go_sem] theorem put_Private_at' {i : Nat} {v : UInt8} (h1 : 0 ≤ i) (h2 : i < 32) : splice (c x) i [.i .u8 v.toNat] = c { x with Private := x.Private.put (i - 0) v } := by
  exact put_Private_at h1 h2
@[go_sem] theorem put_Private_l' {i : Nat} {l : List UInt8} (h1 : 0 ≤ i) (h2 : i + l.length ≤ 32) : splice (c x) i (Bs.bc l) = c { x with Private := x.Private.putL (i - 0) l } := by
  exact put_Private_l h1 h2
@[go_sem] theorem put_Port {Port' : Int} : splice (cs Private Port Mark Peers) 32 ([.i .i64 Port']) = cs Private Port' Mark Peers := by unfold cs; rw [splice_r (k := 32) (o := 0) (by simp) (by omega), splice_first (by simp)]
@[go_sem] theorem put_Port' {Port' : Int} : splice (c x) 32 ([.i .i64 Port']) = c { x with Port := Port' } := put_Port
@[go_sem] theorem put_Mark {Mark' : Int} : splice (cs Private Port Mark Peers) 33 ([.i .u32 Mark']) = cs Private Port Mark' Peers := by unfold cs; rw [splice_r (k := 32) (o := 1) (by simp) (by omega), splice_r (k := 1) (o := 0) (by simp) (by omega), splice_first (by simp)]
@[go_sem] theorem put_Mark' {Mark' : Int} : splice (c x) 33 ([.i .u32 Mark']) = c { x with Mark := Mark' } := put_Mark
@[go_sem] theorem put_Peers {Peers' : AV} : splice (cs Private Port Mark Peers) 34 ([Peers']) = cs Private Port Mark Peers' := by unfold cs; rw [splice_r (k := 32) (o := 2) (by simp) (by omega), splice_r (k := 1) (o := 1) (by simp) (by omega), splice_r (k := 1) (o := 0) (by simp) (by omega), splice_all (by simp)]
@[go_sem] theorem put_Peers' {Peers' : AV} : splice (c x) 34 [Peers'] = cs x.Private x.Port x.Mark Peers' := put_Peers
@[go_sem] theorem put_cc {y : TConf} : splice (c x) 0 (c y) = c y := splice_all (by rw [c_len, c_len])
@[go_sem] theorem put_ccs : splice (c x) 0 (cs Private Port Mark Peers) = cs Private Port Mark Peers := splice_all (by rw [c_len, cs_len])
@[go_sem] theorem put_csc : splice (cs Private Port Mark Peers) 0 (c x) = c x := splice_all (by rw [c_len, cs_len])
@[go_sem] theorem put_cscs {Private2 : Bs 32} {Port2 : Int} {Mark2 : Int} {Peers2 : AV} : splice (cs Private Port Mark Peers) 0 (cs Private2 Port2 Mark2 Peers2) = cs Private2 Port2 Mark2 Peers2 := splice_all (by rw [cs_len, cs_len])
@[go_sem] theorem mentL_cs : mentL (cs Private Port Mark Peers) = ment Peers := by simp [cs, mentL_app, mentL, ment, Bs.mentL_c]
@[go_sem] theorem mentL_c : mentL (c x) = 0 := by simp [c, mentL_cs, slv_ment (fun _ => TPeer.mentL_c)]
@[go_sem] theorem mvL_c {n L : Nat} : mvL n L (c x) = some (c x) := mvL_of (by rw [mentL_c]; omega)
@[go_sem] theorem mentLL_c {l : List TConf} : mentLL (l.map c) = 0 := mentLL_map (fun _ => mentL_c) l
@[go_sem] theorem slv_ment {sz : Nat} {g : GS TConf} : ment (slv sz c g) = 0 := Am.slv_ment fun _ => mentL_c
@[go_sem] theorem slv_mv {sz n L : Nat} {g : GS TConf} : mv n L (slv sz c g) = some (slv sz c g) := Am.slv_mv fun _ => mentL_c
@[go_sem] theorem slv_frz {sz n : Nat} {h : Heap} {g : GS TConf} : frz h n (slv sz c g) = some (slv sz c g) := Am.slv_frz fun _ => mentL_c
@[go_sem] theorem frzL_c {h : Heap} {n : Nat} : frzL h n (c x) = some (c x) := frzL_ok (by rw [mentL_c]; omega)
@[go_sem] theorem mvL_cs {n L : Nat} : mvL n L (cs Private Port Mark Peers) = (mv n L Peers).map fun Peers => cs Private Port Mark Peers := by
  simp only [cs, mvL_app, mvL_cons, mvL_nil, mv_b, mv_i, mv_s, Bs.mvL_c, Option.bind_some, Option.map_some]
  cases mv n L Peers <;> simp
@[go_sem] theorem frzL_cs {h : Heap} {n : Nat} : frzL h n (cs Private Port Mark Peers) = (frz h n Peers).map fun Peers => cs Private Port Mark Peers := by
  simp only [cs, frzL_app, frzL_cons, frzL_nil, frz_b, frz_i, frz_s, Bs.frzL_c, Option.bind_some, Option.map_some]
  cases frz h n Peers <;> simp
end TConf

structure TIni where
  Private : Bs 32
  Port : Int
  Mark : Int
  Peers : GS (TIniPeer)
  deriving DecidableEq
namespace TIni
def cs (Private : Bs 32) (Port : Int) (Mark : Int) (Peers : AV) : List AV := Bs.c Private ++ ([.i .i64 Port] ++ ([.i .u32 Mark] ++ ([Peers])))
def c (x : TIni) : List AV := cs x.Private x.Port x.Mark (slv 84 TIniPeer.c x.Peers)
variable {Private : Bs 32} {Port : Int} {Mark : Int} {Peers : AV} {x : TIni}
@[simp, go_sem] theorem cs_len : (cs Private Port Mark Peers).length = 35 := by simp [cs]
@[simp, go_sem] theorem c_len : (c x).length = 35 := cs_len
@[go_sem] theorem sub_cs : sub (cs Private Port Mark Peers) 0 35 = cs Private Port Mark Peers := sub_all cs_len
@[go_sem] theorem sub_c : sub (c x) 0 35 = c x := sub_all c_len
@[go_sem] theorem fold {Peers' : GS (TIniPeer)} : cs Private Port Mark (slv 84 TIniPeer.c Peers') = c ⟨Private, Port, Mark, Peers'⟩ := rfl
@[go_sem] theorem fold_nil : cs Private Port Mark .nils = c ⟨Private, Port, Mark, .nil⟩ := rfl
def z : TIni := ⟨(Bs.z 32), 0, 0, .nil⟩
@[go_sem] theorem z_Private : z.Private = (Bs.z 32) := rfl
@[go_sem] theorem z_Port : z.Port = 0 := rfl
@[go_sem] theorem z_Mark : z.Mark = 0 := rfl
@[go_sem] theorem z_Peers : z.Peers = .nil := rfl
@[go_sem] theorem sub_Private : sub (cs Private Port Mark Peers) 0 32 = Bs.c Private := by exact sub_first (by simp)
@[go_sem] theorem sub_Private' : sub (c x) 0 32 = Bs.c x.Private := sub_Private
@[go_sem] theorem sub_Port : sub (cs Private Port Mark Peers) 32 1 = [.i .i64 Port] := by exact (sub_r (k := 32) (o := 0) (by simp) rfl).trans <| sub_first (by simp)
@[go_sem] theorem sub_Port' : sub (c x) 32 1 = [.i .i64 x.Port] := sub_Port
@[go_sem] theorem sub_Mark : sub (cs Private Port Mark Peers) 33 1 = [.i .u32 Mark] := by exact (sub_r (k := 32) (o := 1) (by simp) rfl).trans <| (sub_r (k := 1) (o := 0) (by simp) rfl).trans <| sub_first (by simp)
@[go_sem] theorem sub_Mark' : sub (c x) 33 1 = [.i .u32 x.Mark] := sub_Mark
@[go_sem] theorem sub_Peers : sub (cs Private Port Mark Peers) 34 1 = [Peers] := by exact (sub_r (k := 32) (o := 2) (by simp) rfl).trans <| (sub_r (k := 1) (o := 1) (by simp) rfl).trans <| (sub_r (k := 1) (o := 0) (by simp) rfl).trans <| sub_all (by simp)
@[go_sem] theorem sub_Peers' : sub (c x) 34 1 = [slv 84 TIniPeer.c x.Peers] := sub_Peers
@[go_sem] theorem sub_Private_at {i : Nat} (h1 : 0 ≤ i) (h2 : i < 32) : sub (cs Private Port Mark Peers) i 1 = [.i .u8 (Private.g (i - 0)).toNat] := by
  have h := sub_sub (a := cs Private Port Mark Peers) (off := 0) (n := 32) (m := i - 0) (k := 1) (by omega)
  rw [sub_Private, show 0 + (i - 0) = i by omega] at h; rw [← h]; exact Bs.sub_1 (by omega)
@[go_sem] theorem sub_Private_at' {i : Nat} (h1 : 0 ≤ i) (h2 : i < 32) : sub (c x) i 1 = [.i .u8 (x.Private.g (i - 0)).toNat] := by
  have h := sub_sub (a := c x) (off := 0) (n := 32) (m := i - 0) (k := 1) (by omega)
  rw [sub_Private', show 0 + (i - 0) = i by omega] at h; rw [← h]; exact Bs.sub_1 (by omega)
@[go_sem] theorem sub_Private_n {i m : Nat} (h0 : 2 ≤ m) (h1 : 0 ≤ i) (h2 : i + m ≤ 32) (h3 : m < 32) : sub (cs Private Port Mark Peers) i m = Bs.c (Private.sub (i - 0) m) := by
  have h := sub_sub (a := cs Private Port Mark Peers) (off := 0) (n := 32) (m := i - 0) (k := m) (by omega)
  rw [sub_Private, show 0 + (i - 0) = i by omega] at h; rw [← h]; exact Bs.sub_m (by omega)
@[go_sem] theorem sub_Private_n' {i m : Nat} (h0 : 2 ≤ m) (h1 : 0 ≤ i) (h2 : i + m ≤ 32) (h3 : m < 32) : sub (c x) i m = Bs.c (x.Private.sub (i - 0) m) := by
  have h := sub_sub (a := c x) (off := 0) (n := 32) (m := i - 0) (k := m) (by omega)
  rw [sub_Private', show 0 + (i - 0) = i by omega] at h; rw [← h]; exact Bs.sub_m (by omega)
@[go_sem] theorem put_Private {Private' : Bs 32} : splice (cs Private Port Mark Peers) 0 (Bs.c Private') = cs Private' Port Mark Peers := by unfold cs; rw [splice_first (by simp)]
@[go_sem] theorem put_Private' {Private' : Bs 32} : splice (c x) 0 (Bs.c Private') = c { x with Private := Private' } := put_Private
@[go_sem] theorem put_Private_at {i : Nat} {v : UInt8} (h1 : 0 ≤ i) (h2 : i < 32) : splice (cs Private Port Mark Peers) i [.i .u8 v.toNat] = cs (Private.put (i - 0) v) Port Mark Peers := by
  unfold cs; rw [splice_left (by simp; omega), Bs.splice_1 (by omega)]
  try simp only [Nat.sub_zero]
@[go_sem] theorem put_Private_l {i : Nat} {l : List UInt8} (h1 : 0 ≤ i) (h2 : i + l.length ≤ 32) : splice (cs Private Port Mark Peers) i (Bs.bc l) = cs (Private.putL (i - 0) l) Port Mark Peers := by
  unfold cs; rw [splice_left (by simp [Bs.bc_len]; omega), Bs.splice_l (by omega)]
  try simp only [Nat.sub_zero]
@[go_sem] theorem put_Private_at' {i : Nat} {v : UInt8} (h1 : 0 ≤ i) (h2 : i < 32) : splice (c x) i [.i .u8 v.toNat] = c { x with Private := x.Private.put (i - 0) v } := by
  exact put_Private_at h1 h2
@[go_sem] theorem put_Private_l' {i : Nat} {l : List UInt8} (h1 : 0 ≤ i) (h2 : i + l.length ≤ 32) : splice (c x) i (Bs.bc l) = c { x with Private := x.Private.putL (i - 0) l } := by
  exact put_Private_l h1 h2
@[go_sem] theorem put_Port {Port' : Int} : splice (cs Private Port Mark Peers) 32 ([.i .i64 Port']) = cs Private Port' Mark Peers := by unfold cs; rw [splice_r (k := 32) (o := 0) (by simp) (by omega), splice_first (by simp)]
@[go_sem] theorem put_Port' {Port' : Int} : splice (c x) 32 ([.i .i64 Port']) = c { x with Port := Port' } := put_Port
@[go_sem] theorem put_Mark {Mark' : Int} : splice (cs Private Port Mark Peers) 33 ([.i .u32 Mark']) = cs Private Port Mark' Peers := by unfold cs; rw [splice_r (k := 32) (o := 1) (by simp) (by omega), splice_r (k := 1) (o := 0) (by simp) (by omega), splice_first (by simp)]
@[go_sem] theorem put_Mark' {Mark' : Int} : splice (c x) 33 ([.i .u32 Mark']) = c { x with Mark := Mark' } := put_Mark
@[go_sem] theorem put_Peers {Peers' : AV} : splice (cs Private Port Mark Peers) 34 ([Peers']) = cs Private Port Mark Peers' := by unfold cs; rw [splice_r (k := 32) (o := 2) (by simp) (by omega), splice_r (k := 1) (o := 1) (by simp) (by omega), splice_r (k := 1) (o := 0) (by simp) (by omega), splice_all (by simp)]
@[go_sem] theorem put_Peers' {Peers' : AV} : splice (c x) 34 [Peers'] = cs x.Private x.Port x.Mark Peers' := put_Peers
@[go_sem] theorem put_cc {y : TIni} : splice (c x) 0 (c y) = c y := splice_all (by rw [c_len, c_len])
@[go_sem] theorem put_ccs : splice (c x) 0 (cs Private Port Mark Peers) = cs Private Port Mark Peers := splice_all (by rw [c_len, cs_len])
@[go_sem] theorem put_csc : splice (cs Private Port Mark Peers) 0 (c x) = c x := splice_all (by rw [c_len, cs_len])
@[go_sem] theorem put_cscs {Private2 : Bs 32} {Port2 : Int} {Mark2 : Int} {Peers2 : AV} : splice (cs Private Port Mark Peers) 0 (cs Private2 Port2 Mark2 Peers2) = cs Private2 Port2 Mark2 Peers2 := splice_all (by rw [cs_len, cs_len])
@[go_sem] theorem mentL_cs : mentL (cs Private Port Mark Peers) = ment Peers := by simp [cs, mentL_app, mentL, ment, Bs.mentL_c]
@[go_sem] theorem mentL_c : mentL (c x) = 0 := by simp [c, mentL_cs, slv_ment (fun _ => TIniPeer.mentL_c)]
@[go_sem] theorem mvL_c {n L : Nat} : mvL n L (c x) = some (c x) := mvL_of (by rw [mentL_c]; omega)
@[go_sem] theorem mentLL_c {l : List TIni} : mentLL (l.map c) = 0 := mentLL_map (fun _ => mentL_c) l
@[go_sem] theorem slv_ment {sz : Nat} {g : GS TIni} : ment (slv sz c g) = 0 := Am.slv_ment fun _ => mentL_c
@[go_sem] theorem slv_mv {sz n L : Nat} {g : GS TIni} : mv n L (slv sz c g) = some (slv sz c g) := Am.slv_mv fun _ => mentL_c
@[go_sem] theorem slv_frz {sz n : Nat} {h : Heap} {g : GS TIni} : frz h n (slv sz c g) = some (slv sz c g) := Am.slv_frz fun _ => mentL_c
@[go_sem] theorem frzL_c {h : Heap} {n : Nat} : frzL h n (c x) = some (c x) := frzL_ok (by rw [mentL_c]; omega)
@[go_sem] theorem mvL_cs {n L : Nat} : mvL n L (cs Private Port Mark Peers) = (mv n L Peers).map fun Peers => cs Private Port Mark Peers := by
  simp only [cs, mvL_app, mvL_cons, mvL_nil, mv_b, mv_i, mv_s, Bs.mvL_c, Option.bind_some, Option.map_some]
  cases mv n L Peers <;> simp
@[go_sem] theorem frzL_cs {h : Heap} {n : Nat} : frzL h n (cs Private Port Mark Peers) = (frz h n Peers).map fun Peers => cs Private Port Mark Peers := by
  simp only [cs, frzL_app, frzL_cons, frzL_nil, frz_b, frz_i, frz_s, Bs.frzL_c, Option.bind_some, Option.map_some]
  cases frz h n Peers <;> simp
end TIni

structure TRequest where
  HasPrivate : Bool
  Private : Bs 32
  HasPort : Bool
  Port : Int
  HasMark : Bool
  Mark : Int
  Replace : Bool
  Peers : GS (TPeerChange)
  deriving DecidableEq
namespace TRequest
def cs (HasPrivate : Bool) (Private : Bs 32) (HasPort : Bool) (Port : Int) (HasMark : Bool) (Mark : Int) (Replace : Bool) (Peers : AV) : List AV := [.b HasPrivate] ++ (Bs.c Private ++ ([.b HasPort] ++ ([.i .i64 Port] ++ ([.b HasMark] ++ ([.i .u32 Mark] ++ ([.b Replace] ++ ([Peers])))))))
def c (x : TRequest) : List AV := cs x.HasPrivate x.Private x.HasPort x.Port x.HasMark x.Mark x.Replace (slv 90 TPeerChange.c x.Peers)
variable {HasPrivate : Bool} {Private : Bs 32} {HasPort : Bool} {Port : Int} {HasMark : Bool} {Mark : Int} {Replace : Bool} {Peers : AV} {x : TRequest}
@[simp, go_sem] theorem cs_len : (cs HasPrivate Private HasPort Port HasMark Mark Replace Peers).length = 39 := by simp [cs]
@[simp, go_sem] theorem c_len : (c x).length = 39 := cs_len
@[go_sem] theorem sub_cs : sub (cs HasPrivate Private HasPort Port HasMark Mark Replace Peers) 0 39 = cs HasPrivate Private HasPort Port HasMark Mark Replace Peers := sub_all cs_len
@[go_sem] theorem sub_c : sub (c x) 0 39 = c x := sub_all c_len
@[go_sem] theorem fold {Peers' : GS (TPeerChange)} : cs HasPrivate Private HasPort Port HasMark Mark Replace (slv 90 TPeerChange.c Peers') = c ⟨HasPrivate, Private, HasPort, Port, HasMark, Mark, Replace, Peers'⟩ := rfl
@[go_sem] theorem fold_nil : cs HasPrivate Private HasPort Port HasMark Mark Replace .nils = c ⟨HasPrivate, Private, HasPort, Port, HasMark, Mark, Replace, .nil⟩ := rfl
def z : TRequest := ⟨false, (Bs.z 32), false, 0, false, 0, false, .nil⟩
@[go_sem] theorem z_HasPrivate : z.HasPrivate = false := rfl
@[go_sem] theorem z_Private : z.Private = (Bs.z 32) := rfl
@[go_sem] theorem z_HasPort : z.HasPort = false := rfl
@[go_sem] theorem z_Port : z.Port = 0 := rfl
@[go_sem] theorem z_HasMark : z.HasMark = false := rfl
@[go_sem] theorem z_Mark : z.Mark = 0 := rfl
@[go_sem] theorem z_Replace : z.Replace = false := rfl
@[go_sem] theorem z_Peers : z.Peers = .nil := rfl
@[go_sem] theorem sub_HasPrivate : sub (cs HasPrivate Private HasPort Port HasMark Mark Replace Peers) 0 1 = [.b HasPrivate] := by exact sub_first (by simp)
@[go_sem] theorem sub_HasPrivate' : sub (c x) 0 1 = [.b x.HasPrivate] := sub_HasPrivate
@[go_sem] theorem sub_Private : sub (cs HasPrivate Private HasPort Port HasMark Mark Replace Peers) 1 32 = Bs.c Private := by exact (sub_r (k := 1) (o := 0) (by simp) rfl).trans <| sub_first (by simp)
@[go_sem] theorem sub_Private' : sub (c x) 1 32 = Bs.c x.Private := sub_Private
@[go_sem] theorem sub_HasPort : sub (cs HasPrivate Private HasPort Port HasMark Mark Replace Peers) 33 1 = [.b HasPort] := by exact (sub_r (k := 1) (o := 32) (by simp) rfl).trans <| (sub_r (k := 32) (o := 0) (by simp) rfl).trans <| sub_first (by simp)
@[go_sem] theorem sub_HasPort' : sub (c x) 33 1 = [.b x.HasPort] := sub_HasPort
@[go_sem] theorem sub_Port : sub (cs HasPrivate Private HasPort Port HasMark Mark Replace Peers) 34 1 = [.i .i64 Port] := by exact (sub_r (k := 1) (o := 33) (by simp) rfl).trans <| (sub_r (k := 32) (o := 1) (by simp) rfl).trans <| (sub_r (k := 1) (o := 0) (by simp) rfl).trans <| sub_first (by simp)
@[go_sem] theorem sub_Port' : sub (c x) 34 1 = [.i .i64 x.Port] := sub_Port
@[go_sem] theorem sub_HasMark : sub (cs HasPrivate Private HasPort Port HasMark Mark Replace Peers) 35 1 = [.b HasMark] := by exact (sub_r (k := 1) (o := 34) (by simp) rfl).trans <| (sub_r (k := 32) (o := 2) (by simp) rfl).trans <| (sub_r (k := 1) (o := 1) (by simp) rfl).trans <| (sub_r (k := 1) (o := 0) (by simp) rfl).trans <| sub_first (by simp)
@[go_sem] theorem sub_HasMark' : sub (c x) 35 1 = [.b x.HasMark] := sub_HasMark
@[go_sem] theorem sub_Mark : sub (cs HasPrivate Private HasPort Port HasMark Mark Replace Peers) 36 1 = [.i .u32 Mark] := by exact (sub_r (k := 1) (o := 35) (by simp) rfl).trans <| (sub_r (k := 32) (o := 3) (by simp) rfl).trans <| (sub_r (k := 1) (o := 2) (by simp) rfl).trans <| (sub_r (k := 1) (o := 1) (by simp) rfl).trans <| (sub_r (k := 1) (o := 0) (by simp) rfl).trans <| sub_first (by simp)
@[go_sem] theorem sub_Mark' : sub (c x) 36 1 = [.i .u32 x.Mark] := sub_Mark
@[go_sem] theorem sub_Replace : sub (cs HasPrivate Private HasPort Port HasMark Mark Replace Peers) 37 1 = [.b Replace] := by exact (sub_r (k := 1) (o := 36) (by simp) rfl).trans <| (sub_r (k := 32) (o := 4) (by simp) rfl).trans <| (sub_r (k := 1) (o := 3) (by simp) rfl).trans <| (sub_r (k := 1) (o := 2) (by simp) rfl).trans <| (sub_r (k := 1) (o := 1) (by simp) rfl).trans <| (sub_r (k := 1) (o := 0) (by simp) rfl).trans <| sub_first (by simp)
@[go_sem] theorem sub_Replace' : sub (c x) 37 1 = [.b x.Replace] := sub_Replace
@[go_sem] theorem sub_Peers : sub (cs HasPrivate Private HasPort Port HasMark Mark Replace Peers) 38 1 = [Peers] := by exact (sub_r (k := 1) (o := 37) (by simp) rfl).trans <| (sub_r (k := 32) (o := 5) (by simp) rfl).trans <| (sub_r (k := 1) (o := 4) (by simp) rfl).trans <| (sub_r (k := 1) (o := 3) (by simp) rfl).trans <| (sub_r (k := 1) (o := 2) (by simp) rfl).trans <| (sub_r (k := 1) (o := 1) (by simp) rfl).trans <| (sub_r (k := 1) (o := 0) (by simp) rfl).trans <| sub_all (by simp)
@[go_sem] theorem sub_Peers' : sub (c x) 38 1 = [slv 90 TPeerChange.c x.Peers] := sub_Peers
@[go_sem] theorem sub_Private_at {i : Nat} (h1 : 1 ≤ i) (h2 : i < 33) : sub (cs HasPrivate Private HasPort Port HasMark Mark Replace Peers) i 1 = [.i .u8 (Private.g (i - 1)).toNat] := by
  have h := sub_sub (a := cs HasPrivate Private HasPort Port HasMark Mark Replace Peers) (off := 1) (n := 32) (m := i - 1) (k := 1) (by omega)
  rw [sub_Private, show 1 + (i - 1) = i by omega] at h; rw [← h]; exact Bs.sub_1 (by omega)
@[go_sem] theorem sub_Private_at' {i : Nat} (h1 : 1 ≤ i) (h2 : i < 33) : sub (c x) i 1 = [.i .u8 (x.Private.g (i - 1)).toNat] := by
  have h := sub_sub (a := c x) (off := 1) (n := 32) (m := i - 1) (k := 1) (by omega)
  rw [sub_Private', show 1 + (i - 1) = i by omega] at h; rw [← h]; exact Bs.sub_1 (by omega)
@[go_sem] theorem sub_Private_n {i m : Nat} (h0 : 2 ≤ m) (h1 : 1 ≤ i) (h2 : i + m ≤ 33) (h3 : m < 32) : sub (cs HasPrivate Private HasPort Port HasMark Mark Replace Peers) i m = Bs.c (Private.sub (i - 1) m) := by
  have h := sub_sub (a := cs HasPrivate Private HasPort Port HasMark Mark Replace Peers) (off := 1) (n := 32) (m := i - 1) (k := m) (by omega)
  rw [sub_Private, show 1 + (i - 1) = i by omega] at h; rw [← h]; exact Bs.sub_m (by omega)
@[go_sem] theorem sub_Private_n' {i m : Nat} (h0 : 2 ≤ m) (h1 : 1 ≤ i) (h2 : i + m ≤ 33) (h3 : m < 32) : sub (c x) i m = Bs.c (x.Private.sub (i - 1) m) := by
  have h := sub_sub (a := c x) (off := 1) (n := 32) (m := i - 1) (k := m) (by omega)
  rw [sub_Private', show 1 + (i - 1) = i by omega] at h; rw [← h]; exact Bs.sub_m (by omega)
@[go_sem] theorem put_HasPrivate {HasPrivate' : Bool} : splice (cs HasPrivate Private HasPort Port HasMark Mark Replace Peers) 0 ([.b HasPrivate']) = cs HasPrivate' Private HasPort Port HasMark Mark Replace Peers := by unfold cs; rw [splice_first (by simp)]
@[go_sem] theorem put_HasPrivate' {HasPrivate' : Bool} : splice (c x) 0 ([.b HasPrivate']) = c { x with HasPrivate := HasPrivate' } := put_HasPrivate
@[go_sem] theorem put_Private {Private' : Bs 32} : splice (cs HasPrivate Private HasPort Port HasMark Mark Replace Peers) 1 (Bs.c Private') = cs HasPrivate Private' HasPort Port HasMark Mark Replace Peers := by unfold cs; rw [splice_r (k := 1) (o := 0) (by simp) (by omega), splice_first (by simp)]
@[go_sem] theorem put_Private' {Private' : Bs 32} : splice (c x) 1 (Bs.c Private') = c { x with Private := Private' } := put_Private
@[go_sem] theorem put_Private_at {i : Nat} {v : UInt8} (h1 : 1 ≤ i) (h2 : i < 33) : splice (cs HasPrivate Private HasPort Port HasMark Mark Replace Peers) i [.i .u8 v.toNat] = cs HasPrivate (Private.put (i - 1) v) HasPort Port HasMark Mark Replace Peers := by
  unfold cs; rw [splice_r (k := 1) (o := i - 1) (by simp) (by omega), splice_left (by simp; omega), Bs.splice_1 (by omega)]
@[go_sem] theorem put_Private_l {i : Nat} {l : List UInt8} (h1 : 1 ≤ i) (h2 : i + l.length ≤ 33) : splice (cs HasPrivate Private HasPort Port HasMark Mark Replace Peers) i (Bs.bc l) = cs HasPrivate (Private.putL (i - 1) l) HasPort Port HasMark Mark Replace Peers := by
  unfold cs; rw [splice_r (k := 1) (o := i - 1) (by simp) (by omega), splice_left (by simp [Bs.bc_len]; omega), Bs.splice_l (by omega)]
@[go_sem] theorem put_Private_at' {i : Nat} {v : UInt8} (h1 : 1 ≤ i) (h2 : i < 33) : splice (c x) i [.i .u8 v.toNat] = c { x with Private := x.Private.put (i - 1) v } := by
  exact put_Private_at h1 h2
@[go_sem] theorem put_Private_l' {i : Nat} {l : List UInt8} (h1 : 1 ≤ i) (h2 : i + l.length ≤ 33) : splice (c x) i (Bs.bc l) = c { x with Private := x.Private.putL (i - 1) l } := by
  exact put_Private_l h1 h2
@[go_sem] theorem put_HasPort {HasPort' : Bool} : splice (cs HasPrivate Private HasPort Port HasMark Mark Replace Peers) 33 ([.b HasPort']) = cs HasPrivate Private HasPort' Port HasMark Mark Replace Peers := by unfold cs; rw [splice_r (k := 1) (o := 32) (by simp) (by omega), splice_r (k := 32) (o := 0) (by simp) (by omega), splice_first (by simp)]
@[go_sem] theorem put_HasPort' {HasPort' : Bool} : splice (c x) 33 ([.b HasPort']) = c { x with HasPort := HasPort' } := put_HasPort
@[go_sem] theorem put_Port {Port' : Int} : splice (cs HasPrivate Private HasPort Port HasMark Mark Replace Peers) 34 ([.i .i64 Port']) = cs HasPrivate Private HasPort Port' HasMark Mark Replace Peers := by unfold cs; rw [splice_r (k := 1) (o := 33) (by simp) (by omega), splice_r (k := 32) (o := 1) (by simp) (by omega), splice_r (k := 1) (o := 0) (by simp) (by omega), splice_first (by simp)]
@[go_sem] theorem put_Port' {Port' : Int} : splice (c x) 34 ([.i .i64 Port']) = c { x with Port := Port' } := put_Port
@[go_sem] theorem put_HasMark {HasMark' : Bool} : splice (cs HasPrivate Private HasPort Port HasMark Mark Replace Peers) 35 ([.b HasMark']) = cs HasPrivate Private HasPort Port HasMark' Mark Replace Peers := by unfold cs; rw [splice_r (k := 1) (o := 34) (by simp) (by omega), splice_r (k := 32) (o := 2) (by simp) (by omega), splice_r (k := 1) (o := 1) (by simp) (by omega), splice_r (k := 1) (o := 0) (by simp) (by omega), splice_first (by simp)]
@[go_sem] theorem put_HasMark' {HasMark' : Bool} : splice (c x) 35 ([.b HasMark']) = c { x with HasMark := HasMark' } := put_HasMark
@[go_sem] theorem put_Mark {Mark' : Int} : splice (cs HasPrivate Private HasPort Port HasMark Mark Replace Peers) 36 ([.i .u32 Mark']) = cs HasPrivate Private HasPort Port HasMark Mark' Replace Peers := by unfold cs; rw [splice_r (k := 1) (o := 35) (by simp) (by omega), splice_r (k := 32) (o := 3) (by simp) (by omega), splice_r (k := 1) (o := 2) (by simp) (by omega), splice_r (k := 1) (o := 1) (by simp) (by omega), splice_r (k := 1) (o := 0) (by simp) (by omega), splice_first (by simp)]
@[go_sem] theorem put_Mark' {Mark' : Int} : splice (c x) 36 ([.i .u32 Mark']) = c { x with Mark := Mark' } := put_Mark
@[go_sem] theorem put_Replace {Replace' : Bool} : splice (cs HasPrivate Private HasPort Port HasMark Mark Replace Peers) 37 ([.b Replace']) = cs HasPrivate Private HasPort Port HasMark Mark Replace' Peers := by unfold cs; rw [splice_r (k := 1) (o := 36) (by simp) (by omega), splice_r (k := 32) (o := 4) (by simp) (by omega), splice_r (k := 1) (o := 3) (by simp) (by omega), splice_r (k := 1) (o := 2) (by simp) (by omega), splice_r (k := 1) (o := 1) (by simp) (by omega), splice_r (k := 1) (o := 0) (by simp) (by omega), splice_first (by simp)]
@[go_sem] theorem put_Replace' {Replace' : Bool} : splice (c x) 37 ([.b Replace']) = c { x with Replace := Replace' } := put_Replace
@[go_sem] theorem put_Peers {Peers' : AV} : splice (cs HasPrivate Private HasPort Port HasMark Mark Replace Peers) 38 ([Peers']) = cs HasPrivate Private HasPort Port HasMark Mark Replace Peers' := by unfold cs; rw [splice_r (k := 1) (o := 37) (by simp) (by omega), splice_r (k := 32) (o := 5) (by simp) (by omega), splice_r (k := 1) (o := 4) (by simp) (by omega), splice_r (k := 1) (o := 3) (by simp) (by omega), splice_r (k := 1) (o := 2) (by simp) (by omega), splice_r (k := 1) (o := 1) (by simp) (by omega), splice_r (k := 1) (o := 0) (by simp) (by omega), splice_all (by simp)]
@[go_sem] theorem put_Peers' {Peers' : AV} : splice (c x) 38 [Peers'] = cs x.HasPrivate x.Private x.HasPort x.Port x.HasMark x.Mark x.Replace Peers' := put_Peers
@[go_sem] theorem put_cc {y : TRequest} : splice (c x) 0 (c y) = c y := splice_all (by rw [c_len, c_len])
@[go_sem] theorem put_ccs : splice (c x) 0 (cs HasPrivate Private HasPort Port HasMark Mark Replace Peers) = cs HasPrivate Private HasPort Port HasMark Mark Replace Peers := splice_all (by rw [c_len, cs_len])
@[go_sem] theorem put_csc : splice (cs HasPrivate Private HasPort Port HasMark Mark Replace Peers) 0 (c x) = c x := splice_all (by rw [c_len, cs_len])
@[go_sem] theorem put_cscs {HasPrivate2 : Bool} {Private2 : Bs 32} {HasPort2 : Bool} {Port2 : Int} {HasMark2 : Bool} {Mark2 : Int} {Replace2 : Bool} {Peers2 : AV} : splice (cs HasPrivate Private HasPort Port HasMark Mark Replace Peers) 0 (cs HasPrivate2 Private2 HasPort2 Port2 HasMark2 Mark2 Replace2 Peers2) = cs HasPrivate2 Private2 HasPort2 Port2 HasMark2 Mark2 Replace2 Peers2 := splice_all (by rw [cs_len, cs_len])
@[go_sem] theorem mentL_cs : mentL (cs HasPrivate Private HasPort Port HasMark Mark Replace Peers) = ment Peers := by simp [cs, mentL_app, mentL, ment, Bs.mentL_c]
@[go_sem] theorem mentL_c : mentL (c x) = 0 := by simp [c, mentL_cs, slv_ment (fun _ => TPeerChange.mentL_c)]
@[go_sem] theorem mvL_c {n L : Nat} : mvL n L (c x) = some (c x) := mvL_of (by rw [mentL_c]; omega)
@[go_sem] theorem mentLL_c {l : List TRequest} : mentLL (l.map c) = 0 := mentLL_map (fun _ => mentL_c) l
@[go_sem] theorem slv_ment {sz : Nat} {g : GS TRequest} : ment (slv sz c g) = 0 := Am.slv_ment fun _ => mentL_c
@[go_sem] theorem slv_mv {sz n L : Nat} {g : GS TRequest} : mv n L (slv sz c g) = some (slv sz c g) := Am.slv_mv fun _ => mentL_c
@[go_sem] theorem slv_frz {sz n : Nat} {h : Heap} {g : GS TRequest} : frz h n (slv sz c g) = some (slv sz c g) := Am.slv_frz fun _ => mentL_c
@[go_sem] theorem frzL_c {h : Heap} {n : Nat} : frzL h n (c x) = some (c x) := frzL_ok (by rw [mentL_c]; omega)
@[go_sem] theorem mvL_cs {n L : Nat} : mvL n L (cs HasPrivate Private HasPort Port HasMark Mark Replace Peers) = (mv n L Peers).map fun Peers => cs HasPrivate Private HasPort Port HasMark Mark Replace Peers := by
  simp only [cs, mvL_app, mvL_cons, mvL_nil, mv_b, mv_i, mv_s, Bs.mvL_c, Option.bind_some, Option.map_some]
  cases mv n L Peers <;> simp
@[go_sem] theorem frzL_cs {h : Heap} {n : Nat} : frzL h n (cs HasPrivate Private HasPort Port HasMark Mark Replace Peers) = (frz h n Peers).map fun Peers => cs HasPrivate Private HasPort Port HasMark Mark Replace Peers := by
  simp only [cs, frzL_app, frzL_cons, frzL_nil, frz_b, frz_i, frz_s, Bs.frzL_c, Option.bind_some, Option.map_some]
  cases frz h n Peers <;> simp
end TRequest

end Go.Proofs.Ytggdinpopddhnaa.Am
