/-
  An abstract machine over flat lists of abstract cells: its values, its code and what its code does. Nothing here is about memory.
-/
import GoSem.Step
import Derived.Attr
namespace Go.Proofs.YtobejhpigbllpaaGreatDoor.Am

/-- What a variable holds: scalars; memory that nobody writes any more (ip, sl); memory of the machine's own (ptr, pe, orow, ocel, mp), by its number. -/
inductive AV where
  | b (x : Bool)
  | i (k : IntKind) (n : Int)
  | s (l : List UInt8)
  | agg (cs : List AV)
  | tup (cs : List AV)
  | nilp
  | ptr (id off : Nat)
  | pe (id n i off : Nat)
  | ip (cs : List AV) (off : Nat)
  | nils
  | sl (sz : Nat) (els : List (List AV))
  | orow (id n lo len : Nat)
  | ocel (sz id off len : Nat)
  | nilm
  | mp (id : Nat)
  | nilf
  | fn (f : Fn) (first captured : List AV)
  | nili
  | ifc (t : Nat) (v : AV)
  | junk
  deriving Inhabited

/-- The machine's own memory: cells that stay where they are; rows that grow; maps; what runs over a string. fz: some bytes are shared with a string. -/
inductive AObj where
  | cells (t : Option Nat) (cs : List AV)
  | row (t : Option Nat) (fz : Bool) (sz : Nat) (els : List (List AV))
  | map (es : List (AV × AV))
  | iter (l : List UInt8) (pos : Nat)
  deriving Inhabited

abbrev Heap := List AObj
abbrev Fr := List (Nat × AV)

def get : Fr → Nat → AV
  | [], _ => .junk
  | (u, v) :: r, t => if u = t then v else get r t

def put (f : Fr) (d : Option Nat) (v : AV) : Fr :=
  match d with
  | some t => (t, v) :: f
  | none => f

/-- What == compares: one cell's kind; a value's. -/
inductive CK where
  | b
  | i (k : IntKind)
  | s
  deriving DecidableEq, Inhabited
inductive EK where
  | one (c : CK)
  | agg (l : List CK)
  | p
  | m
  | f
  | n
  | sl
  deriving DecidableEq, Inhabited

/-- runs of cells -/
def zz : List (Nat × AV) → List AV
  | [] => []
  | (n, v) :: r => List.replicate n v ++ zz r
def kk : List (Nat × CK) → List CK
  | [] => []
  | (n, c) :: r => List.replicate n c ++ kk r

/-- An operand. -/
inductive AO where
  | t (n : Nat)
  | k (v : AV)
  | f (n : Nat)
  | g (n : Nat)
  deriving Inhabited

inductive AOp where
  | mv (x : AO)
  | pick (c a b : AO)
  | alloc (t : Nat) (zero : List AV)
  | box (t n : Nat) (x : AO)
  | bld (zero : List AV) (parts : List (Nat × Nat × AO))
  | bls (t sz : Nat) (zero : List (List AV)) (parts : List (Nat × AO))
  /-- as bls, what comes is only read -/
  | bll (sz : Nat) (zero : List (List AV)) (parts : List (Nat × AO))
  | ld (agg : Bool) (n : Nat) (a : AO)
  | st (n : Nat) (a x : AO)
  | nilc (x : AO)
  | bin (op : BinOp) (x y : AO)
  | eq (neg : Bool) (ek : EK) (x y : AO)
  | un (op : UnOp) (x : AO)
  | cvi (k : IntKind) (x : AO)
  | cvid (x : AO)
  | cvb (t : Nat) (x : AO)
  /-- a slice of bytes as itself: its row's end is marked -/
  | cvr (x : AO)
  | cvs (x : AO)
  | cvc (x : AO)
  | mkf (fn : Fn) (first captured : List AO)
  | mkm
  | mks (t sz bytes : Nat) (zero : List AV) (len cap : AO)
  | sls (x : AO) (lo hi : Option AO)
  | sll (sz : Nat) (x : AO) (lo hi : Option AO)
  | sla (n sz : Nat) (x : AO) (lo hi : Option AO)
  | fa (off : Nat) (x : AO)
  | fld (agg : Bool) (off n : Nat) (x : AO)
  | ias (sz : Nat) (x i : AO)
  | iaa (len sz : Nat) (x i : AO)
  | ixa (len sz : Nat) (agg : Bool) (x i : AO)
  | ixs (x i : AO)
  | lkp (ek : EK) (zero : AV) (ok : Bool) (m k : AO)
  | mup (ek : EK) (m k v : AO)
  | rng (x : AO)
  | nxt (x : AO)
  | ext (x : AO) (i : Nat)
  | s2a (n sz : Nat) (x : AO)
  | mkif (t : Nat) (x : AO)
  | call (f : Nat) (xs : List AO)
  | callv (x : AO) (xs : List AO)
  | len (x : AO)
  | lens (x : AO)
  | app (t sz bytes : Nat) (s x : AO)
  | cpy (sz : Nat) (d s : AO)
  | mnx (max : Bool) (x y : AO)
  | clr (zero : List AV) (x : AO)
  | del (ek : EK) (m k : AO)
  | lenm (m : AO)
  /-- a pointer as an unsafe one; back, where a variable of a type t of n cells begins -/
  | cvp (x : AO)
  | cvu (t n : Nat) (x : AO)
  /-- pointers that are the same -/
  | eqp (neg : Bool) (x y : AO)
  /-- is an interface's value nil: the word itself stands there -/
  | isni (neg : Bool) (x : AO)
  /-- where a slice's bytes begin; a text out of them, which shares them -/
  | usd (x : AO)
  | ust (t : Nat) (x n : AO)
  | die
  deriving Inhabited

/-- An operation: where its value goes, the test that it waits for (a temporary, and what it must hold), what it is. -/
structure AOper where
  d : Option Nat
  g : Option (Nat × Bool)
  o : AOp
  deriving Inhabited

inductive AC where
  | skip
  | reg (ops : List AOper)
  /-- a region whose order is drawn, all of it leaves the memory alone -/
  | regq (ops : List AOper)
  /-- a region whose order is drawn: for each operation that leaves the memory alone, between which of the others it may come -/
  | regd (ops : List AOper) (w : List (Option (Nat × Nat)))
  | seq (x y : AC)
  | cond (c : AO) (x y : AC)
  | blk (id : Nat) (x : AC)
  | loop (live : List Nat) (x : AC)
  | exit (id : Nat)
  | ret
  | keep (live : List Nat) (x : AC)
  /-- a scope through which the run goes without a jump -/
  | scope (x : AC)
  /-- code of which nothing is said -/
  | stop
  deriving Inhabited

inductive Ex where
  | normal
  | exit (id : Nat)
  | ret
  deriving DecidableEq, Inhabited

inductive ARes where
  | tmp (t : Nat)
  | cell (agg : Bool) (n : Nat) (t : Nat)
  deriving Inhabited

/-- A function. warm: what it makes and hands out may still be written. -/
structure AFn where
  warm : Bool
  np : Nat
  nt : Nat
  res : List ARes
  body : AC
  deriving Inhabited

/-- What the machine knows of the program: its functions, what some variables hold, functions that it takes as they are said. -/
structure Tab where
  fns : Nat → Option AFn
  gl : Nat → Option (List AV)
  prim : Nat → Option (List AV → Heap → Option (AV × Option Heap))

mutual
/-- one more than the greatest number of own memory that a value leads to -/
def ment : AV → Nat
  | .ptr id _ => id + 1
  | .pe id _ _ _ => id + 1
  | .orow id _ _ _ => id + 1
  | .ocel _ id _ _ => id + 1
  | .mp id => id + 1
  | .ip cs _ => mentL cs
  | .sl _ els => mentLL els
  | .fn _ a b => max (mentL a) (mentL b)
  | .ifc _ v => ment v
  | .agg cs => mentL cs
  | .tup cs => mentL cs
  | _ => 0
def mentL : List AV → Nat
  | [] => 0
  | v :: r => max (ment v) (mentL r)
def mentLL : List (List AV) → Nat
  | [] => 0
  | l :: r => max (mentL l) (mentLL r)
end

def mentO : AObj → Nat
  | .cells _ cs => mentL cs
  | .row _ _ _ els => mentLL els
  | .map es => max (mentL (es.map (·.1))) (mentL (es.map (·.2)))
  | .iter _ _ => 0
def mentH : Heap → Nat
  | [] => 0
  | o :: r => max (mentO o) (mentH r)
def mentF : Fr → Nat
  | [] => 0
  | (_, v) :: r => max (ment v) (mentF r)

/-- the cells that a value takes -/
def cellsOf : AV → List AV
  | .agg cs => cs
  | .tup _ => []
  | .junk => []
  | v => [v]

def sub (cs : List AV) (off n : Nat) : List AV := (cs.drop off).take n
def splice (cs : List AV) (off : Nat) (new : List AV) : List AV := cs.take off ++ new ++ cs.drop (off + new.length)

def asVal (agg : Bool) (cs : List AV) : Option AV :=
  match agg, cs with
  | true, cs => some (.agg cs)
  | false, [v] => some v
  | false, _ => none

def cellsAt (h : Heap) (id : Nat) : Option (List AV) :=
  match h[id]? with
  | some (.cells _ cs) => some cs
  | _ => none
/-- a row: is it shared with a string, an element's size, its elements -/
def rowAt (h : Heap) (id : Nat) : Option (Bool × Nat × List (List AV)) :=
  match h[id]? with
  | some (.row _ fz sz els) => some (fz, sz, els)
  | _ => none
/-- the type of a block's cells, if it is known -/
def labAt (h : Heap) (id : Nat) : Option Nat :=
  match h[id]? with
  | some (.cells t _) => t
  | some (.row t _ _ _) => t
  | _ => none
def labIf (l : Option Nat) (t : Nat) : Option Nat := if l = some t then some t else none
def mapAt (h : Heap) (id : Nat) : Option (List (AV × AV)) :=
  match h[id]? with
  | some (.map es) => some es
  | _ => none
def iterAt (h : Heap) (id : Nat) : Option (List UInt8 × Nat) :=
  match h[id]? with
  | some (.iter l p) => some (l, p)
  | _ => none

/-- the cells that an address leads to: all of its variable's -/
def place (h : Heap) : AV → Option (List AV × Nat)
  | .ptr id off => (cellsAt h id).map fun cs => (cs, off)
  | .pe id n i off => (rowAt h id).bind fun r => if n = r.2.2.length then (r.2.2[i]?).map fun cs => (cs, off) else none
  | .ip cs off => some (cs, off)
  | _ => none

def load (h : Heap) (agg : Bool) (n : Nat) (a : AV) : Option AV :=
  (place h a).bind fun p => if p.2 + n ≤ p.1.length then asVal agg (sub p.1 p.2 n) else none

def store (h : Heap) (n : Nat) (a x : AV) : Option Heap :=
  match a with
  | .ptr id off => (cellsAt h id).bind fun cs =>
    if (cellsOf x).length = n ∧ off + n ≤ cs.length then some (h.set id (AObj.cells (labAt h id) (splice cs off (cellsOf x)))) else none
  | .pe id n' i off => (rowAt h id).bind fun r =>
    if r.1 = false ∧ n' = r.2.2.length ∧ (cellsOf x).length = n then
      (r.2.2[i]?).bind fun cs => if off + n ≤ cs.length then some (h.set id (AObj.row (labAt h id) false r.2.1 (r.2.2.set i (splice cs off (cellsOf x))))) else none
    else none
  | _ => none

def shift (off : Nat) : AV → Option AV
  | .ptr id o => some (.ptr id (o + off))
  | .pe id n i o => some (.pe id n i (o + off))
  | .ip cs o => some (.ip cs (o + off))
  | _ => none

def chunks (sz : Nat) : Nat → List AV → List (List AV)
  | 0, _ => []
  | n + 1, cs => cs.take sz :: chunks sz n (cs.drop sz)

/-- a slice's elements -/
def els? (h : Heap) (sz : Nat) : AV → Option (List (List AV))
  | .nils => some []
  | .sl sz' els => if sz' = sz then some els else none
  | .orow id n lo len => (rowAt h id).bind fun r => if n = r.2.2.length ∧ r.2.1 = sz ∧ lo + len ≤ n then some ((r.2.2.drop lo).take len) else none
  | .ocel sz' id off len => (cellsAt h id).bind fun cs => if sz' = sz ∧ off + len * sz ≤ cs.length then some (chunks sz len (cs.drop off)) else none
  | _ => none

def len? : AV → Option Nat
  | .nils => some 0
  | .sl _ els => some els.length
  | .orow _ _ _ len => some len
  | .ocel _ _ _ len => some len
  | _ => none

def byteEls (l : List UInt8) : List (List AV) := l.map fun c => [.i .u8 c.toNat]

def bytes? : List (List AV) → Option (List UInt8)
  | [] => some []
  | [.i .u8 n] :: r => (bytes? r).map (UInt8.ofNat n.toNat :: ·)
  | _ => none

def eq1 : CK → AV → AV → Option Bool
  | .b, .b x, .b y => some (x == y)
  | .i k, .i k1 x, .i k2 y => if k1 = k ∧ k2 = k then some (x == y) else none
  | .s, .s x, .s y => some (x == y)
  | _, _, _ => none
def eqS : List CK → List AV → List AV → Option Bool
  | [], [], [] => some true
  | c :: l, x :: r, y :: q => (eq1 c x y).bind fun a => (eqS l r q).map fun b => a && b
  | _, _, _ => none
def eqK : EK → AV → AV → Option Bool
  | .one c, x, y => eq1 c x y
  | .agg l, .agg x, .agg y => eqS l x y
  | .p, .nilp, .nilp => some true
  | .p, .nilp, .ptr _ _ => some false
  | .p, .nilp, .pe _ _ _ _ => some false
  | .p, .nilp, .ip _ _ => some false
  | .p, .ptr _ _, .nilp => some false
  | .p, .pe _ _ _ _, .nilp => some false
  | .p, .ip _ _, .nilp => some false
  | .m, .nilm, .nilm => some true
  | .m, .nilm, .mp _ => some false
  | .m, .mp _, .nilm => some false
  | .f, .nilf, .nilf => some true
  | .f, .nilf, .fn _ _ _ => some false
  | .f, .fn _ _ _, .nilf => some false
  | .n, .nili, .ifc _ _ => some false
  | .n, .ifc _ _, .nili => some false
  | .sl, .nils, .nils => some true
  | .sl, .sl _ _, .nils => some false
  | .sl, .orow _ _ _ _, .nils => some false
  | .sl, .ocel _ _ _ _, .nils => some false
  | .sl, .nils, .sl _ _ => some false
  | .sl, .nils, .orow _ _ _ _ => some false
  | .sl, .nils, .ocel _ _ _ _ => some false
  | _, _, _ => none

def bitsI (op : BinOp) (k : IntKind) (x y : Int) : Int :=
  match op with
  | .and => k.wrap (BitVec.ofInt k.bits x &&& BitVec.ofInt k.bits y).toNat
  | .or => k.wrap (BitVec.ofInt k.bits x ||| BitVec.ofInt k.bits y).toNat
  | .xor => k.wrap (BitVec.ofInt k.bits x ^^^ BitVec.ofInt k.bits y).toNat
  | _ => k.wrap (BitVec.ofInt k.bits x &&& ~~~(BitVec.ofInt k.bits y)).toNat

def most : Nat := 1099511627776

def bin (op : BinOp) : AV → AV → Option AV
  | .i k a, .i k' b =>
    match op with
    | .shl => if b < 0 then none else some (.i k (k.wrap (a * 2 ^ (min b.toNat k.bits))))
    | .shr => if b < 0 then none else some (.i k (a.fdiv (2 ^ (min b.toNat k.bits))))
    | op =>
      if k = k' then
        match op with
        | .add => some (.i k (k.wrap (a + b)))
        | .sub => some (.i k (k.wrap (a - b)))
        | .mul => some (.i k (k.wrap (a * b)))
        | .quo => if b = 0 then none else some (.i k (k.wrap (a.tdiv b)))
        | .rem => if b = 0 then none else some (.i k (a.tmod b))
        | .eql => some (.b (a == b))
        | .neq => some (.b (a != b))
        | .lss => some (.b (decide (a < b)))
        | .leq => some (.b (decide (a ≤ b)))
        | .gtr => some (.b (decide (a > b)))
        | .geq => some (.b (decide (a ≥ b)))
        | op => some (.i k (bitsI op k a b))
      else none
  | .s a, .s b =>
    match op with
    | .add => if a.length + b.length ≤ 2 * most then some (.s (a ++ b)) else none
    | .eql => some (.b (a == b))
    | .neq => some (.b (!(a == b)))
    | .lss => some (.b (Op.bytesLess a b))
    | .leq => some (.b (Op.bytesLess a b || a == b))
    | .gtr => some (.b (!(Op.bytesLess a b || a == b)))
    | .geq => some (.b (!(Op.bytesLess a b)))
    | _ => none
  | _, _ => none

def un (op : UnOp) : AV → Option AV
  | .i k a => match op with
    | .neg => some (.i k (k.wrap (0 - a)))
    | .xor => some (.i k (bitsI .xor k (if k.signed then -1 else k.max) a))
    | _ => none
  | .b x => match op with
    | .not => some (.b (!x))
    | _ => none
  | _ => none

def int? : AV → Option Int
  | .i _ n => some n
  | _ => none
/-- a bound of a slice: from 0 to the most -/
def bound? (x : AV) (to : Nat) : Option Nat :=
  (int? x).bind fun n => if 0 ≤ n ∧ n ≤ to then some n.toNat else none

def bounds (f : AO → AV) (len : Nat) (lo hi : Option AO) : Option (Nat × Nat) :=
  (match hi with
    | none => some len
    | some x => bound? (f x) len).bind fun h =>
  (match lo with
    | none => some 0
    | some x => bound? (f x) h).bind fun l => some (l, h)

def fillL (cells : List AV) (rho : AO → AV) : List (Nat × Nat × AO) → Option (List AV)
  | [] => some cells
  | (off, n, x) :: r =>
    if (cellsOf (rho x)).length = n ∧ off + n ≤ cells.length then fillL (splice cells off (cellsOf (rho x))) rho r else none

def fillE (els : List (List AV)) (sz : Nat) (rho : AO → AV) : List (Nat × AO) → Option (List (List AV))
  | [] => some els
  | (i, x) :: r =>
    if (cellsOf (rho x)).length = sz ∧ i < els.length then fillE (els.set i (cellsOf (rho x))) sz rho r else none

def find (ek : EK) (k : AV) : List (AV × AV) → Nat → Option (Option (Nat × AV))
  | [], _ => some none
  | (x, v) :: r, i => (eqK ek k x).bind fun e => if e then some (some (i, v)) else find ek k r (i + 1)

/-- may it be a map's key? -/
def keyOk : EK → AV → Bool
  | .one _, _ => true
  | .agg l, .agg cs => Nat.beq cs.length l.length
  | _, _ => false

def entries (h : Heap) : AV → Option (List (AV × AV))
  | .nilm => some []
  | .mp id => mapAt h id
  | _ => none

/-- the address of an element -/
def iaddr (h : Heap) (sz : Nat) (v : AV) (n : Nat) : Option AV :=
  (els? h sz v).bind fun els =>
    if n < els.length then
      match v with
      | .orow id k lo _ => some (.pe id k (lo + n) 0)
      | .ocel _ id off _ => some (.ptr id (off + n * sz))
      | _ => (els[n]?).map fun cs => .ip cs 0
    else none

/-- a slice's slice, from a to b -/
def resl (h : Heap) (sz : Nat) (v : AV) (a b : Nat) : Option AV :=
  match v with
  | .nils => some .nils
  | .sl sz' els => if sz' = sz then some (.sl sz ((els.take b).drop a)) else none
  | .orow id n l len => (rowAt h id).bind fun r => if n = r.2.2.length ∧ r.2.1 = sz ∧ l + len ≤ n then some (.orow id n (l + a) (b - a)) else none
  | .ocel sz' id off _ => if sz' = sz then some (.ocel sz id (off + a * sz) (b - a)) else none
  | _ => none

/-- an array's slice, from a to b -/
def arrsl (h : Heap) (n sz : Nat) (v : AV) (a b : Nat) : Option AV :=
  match v with
  | .ptr id off => (cellsAt h id).bind fun cs => if off + n * sz ≤ cs.length then some (.ocel sz id (off + a * sz) (b - a)) else none
  | .ip cs off => if off + n * sz ≤ cs.length then some (.sl sz (((chunks sz n (cs.drop off)).take b).drop a)) else none
  | _ => none

/-- the address of a slice's first n elements, as an array's -/
def arrOf (n sz : Nat) (v : AV) : Option AV :=
  match v with
  | .ocel sz' id off len => if sz' = sz ∧ n ≤ len then some (.ptr id off) else none
  | .sl sz' els => if sz' = sz ∧ n ≤ els.length then some (.ip (els.take n).flatten 0) else none
  | _ => none

/-- what is appended, or copied -/
def news (h : Heap) (sz : Nat) (v : AV) : Option (List (List AV)) :=
  match v with
  | .s l => if sz = 1 then some (byteEls l) else none
  | v => els? h sz v

def appd (h : Heap) (t sz bytes : Nat) (v : AV) (new : List (List AV)) : Option (AV × Option Heap) :=
  match v with
  | .nils =>
    if new.length = 0 then some (.nils, none)
    else if new.length * bytes ≤ most then some (.orow h.length new.length 0 new.length, some (h ++ [AObj.row (some t) false sz new])) else none
  | .orow id n lo len => (rowAt h id).bind fun r =>
    if lo = 0 ∧ n = r.2.2.length ∧ len = n ∧ r.2.1 = sz ∧ (n + new.length) * bytes ≤ most ∧ r.1 = false then
      if new.length = 0 then some (.orow id n 0 n, none)
      else some (.orow id (n + new.length) 0 (n + new.length), some (h.set id (AObj.row (labIf (labAt h id) t) r.1 sz (r.2.2 ++ new))))
    else none
  | _ => none

def copyTo (h : Heap) (sz : Nat) (v : AV) (src : List (List AV)) : Option (AV × Option Heap) :=
  match v with
  | .nils => some (.i .i64 0, none)
  | .orow id n lo len => (rowAt h id).bind fun r =>
    if r.1 = false ∧ n = r.2.2.length ∧ r.2.1 = sz ∧ lo + len ≤ n then
      some (.i .i64 (min src.length len : Nat), some (h.set id (AObj.row (labAt h id) false sz (r.2.2.take lo ++ src.take (min src.length len) ++ r.2.2.drop (lo + min src.length len)))))
    else none
  | .ocel sz' id off len => (cellsAt h id).bind fun cs =>
    if sz' = sz ∧ off + len * sz ≤ cs.length then
      some (.i .i64 (min src.length len : Nat), some (h.set id (AObj.cells (labAt h id) (cs.take off ++ (src.take (min src.length len)).flatten ++ cs.drop (off + min src.length len * sz)))))
    else none
  | _ => none

/-- an operation's value, and the memory if it has changed -/
abbrev Out := Option (AV × Option Heap)
def val (v : Option AV) : Out := v.map fun v => (v, none)

def calling (tb : Tab) (cl : Nat → List AV → Heap → Out) (h : Heap) (f : Nat) (args : List AV) : Out :=
  match tb.prim f with
  | some p => p args h
  | none => cl f args h

def aop (tb : Tab) (cl : Nat → List AV → Heap → Out) (rho : AO → AV) (h : Heap) : AOp → Out
  | .mv x => some (rho x, none)
  | .pick c a b => match rho c with
    | .b t => some (if t then rho a else rho b, none)
    | _ => none
  | .alloc t zero => some (.ptr h.length 0, some (h ++ [AObj.cells (some t) zero]))
  | .box t n x => if (cellsOf (rho x)).length = n then some (.ptr h.length 0, some (h ++ [AObj.cells (some t) (cellsOf (rho x))])) else none
  | .bld zero parts => val ((fillL zero rho parts).map .agg)
  | .bls t sz zero parts => (fillE zero sz rho parts).map fun els => (.orow h.length els.length 0 els.length, some (h ++ [AObj.row (some t) false sz els]))
  | .bll sz zero parts => val ((fillE zero sz rho parts).map (.sl sz))
  | .ld agg n a => val (load h agg n (rho a))
  | .st n a x => (store h n (rho a) (rho x)).map fun h => (.junk, some h)
  | .nilc x => match rho x with
    | .ptr a b => some (.ptr a b, none)
    | .pe a b c d => some (.pe a b c d, none)
    | .ip a b => some (.ip a b, none)
    | .fn (.func f) a b => some (.fn (.func f) a b, none)
    | _ => none
  | .bin op x y => val (bin op (rho x) (rho y))
  | .eq neg ek x y => val ((eqK ek (rho x) (rho y)).map fun e => .b (if neg then !e else e))
  | .un op x => val (un op (rho x))
  | .cvi k x => match rho x with
    | .i _ n => some (.i k (k.wrap n), none)
    | _ => none
  | .cvid x => match rho x with
    | .s l => some (.s l, none)
    | _ => none
  | .cvb t x => match rho x with
    | .s l => some (.orow h.length l.length 0 l.length, some (h ++ [AObj.row (some t) false 1 (byteEls l)]))
    | _ => none
  | .cvr x => match rho x with
    | .orow id n lo len => (rowAt h id).bind fun r => if r.1 = false ∧ n = r.2.2.length ∧ lo + len ≤ n then some (.orow id n lo len, none) else none
    | _ => none
  | .cvs x => val (((els? h 1 (rho x)).bind bytes?).map .s)
  | .cvc x => match rho x with
    | .i _ n => some (.s (Utf8.encode n).data.toList, none)
    | _ => none
  | .mkf fn a b => some (.fn fn (a.map rho) (b.map rho), none)
  | .mkm => some (.mp h.length, some (h ++ [AObj.map []]))
  | .mks t sz bytes zero len cap =>
    (int? (rho len)).bind fun l => (int? (rho cap)).bind fun c =>
      if 0 ≤ l ∧ l ≤ c ∧ c * bytes ≤ most then
        some (.orow h.length l.toNat 0 l.toNat, some (h ++ [AObj.row (some t) false sz (List.replicate l.toNat zero)]))
      else none
  | .sls x lo hi => match rho x with
    | .s l => (bounds rho l.length lo hi).map fun p => (.s ((l.take p.2).drop p.1), none)
    | _ => none
  | .sll sz x lo hi => (len? (rho x)).bind fun len => (bounds rho len lo hi).bind fun p => val (resl h sz (rho x) p.1 p.2)
  | .sla n sz x lo hi => (bounds rho n lo hi).bind fun p => val (arrsl h n sz (rho x) p.1 p.2)
  | .fa off x => val (shift off (rho x))
  | .fld agg off n x => match rho x with
    | .agg cs => if off + n ≤ cs.length then val (asVal agg (sub cs off n)) else none
    | _ => none
  | .ias sz x i => (int? (rho i)).bind fun n => if 0 ≤ n then val (iaddr h sz (rho x) n.toNat) else none
  | .iaa len sz x i =>
    (int? (rho i)).bind fun n => if 0 ≤ n ∧ n < len then val (shift (n.toNat * sz) (rho x)) else none
  | .ixa len sz agg x i =>
    (int? (rho i)).bind fun n => match rho x with
      | .agg cs => if 0 ≤ n ∧ n < len ∧ len * sz ≤ cs.length then val (asVal agg (sub cs (n.toNat * sz) sz)) else none
      | _ => none
  | .ixs x i =>
    (int? (rho i)).bind fun n => match rho x with
      | .s l => if 0 ≤ n then (l[n.toNat]?).map fun c => (.i .u8 c.toNat, none) else none
      | _ => none
  | .lkp ek zero ok m k =>
    if keyOk ek (rho k) then (entries h (rho m)).bind fun es => (find ek (rho k) es 0).map fun r => match r with
        | some (_, v) => (if ok then .tup [v, .b true] else v, none)
        | none => (if ok then .tup [zero, .b false] else zero, none)
    else none
  | .mup ek m k v => match rho m with
    | .mp id => if keyOk ek (rho k) then (mapAt h id).bind fun es => (find ek (rho k) es 0).map fun r => match r with
        | some (i, _) => (.junk, some (h.set id (AObj.map (es.set i (rho k, rho v)))))
        | none => (.junk, some (h.set id (AObj.map (es ++ [(rho k, rho v)]))))
      else none
    | _ => none
  | .rng x => match rho x with
    | .s l => some (.ptr h.length 0, some (h ++ [AObj.iter l 0]))
    | _ => none
  | .nxt x => match rho x with
    | .ptr id off => (iterAt h id).bind fun it =>
      if off = 0 then
        if it.2 < it.1.length then
          some (.tup [.b true, .i .i64 it.2, .i .i32 (Utf8.decode ⟨it.1.toArray⟩ it.2).1], some (h.set id (AObj.iter it.1 (it.2 + (Utf8.decode ⟨it.1.toArray⟩ it.2).2))))
        else some (.tup [.b false], none)
      else none
    | _ => none
  | .ext x i => match rho x with
    | .tup vs => val (vs[i]?)
    | _ => none
  | .s2a n sz x => val (arrOf n sz (rho x))
  | .mkif _ _ => some (.ifc 0 .junk, none)
  | .call f xs => calling tb cl h f (xs.map rho)
  | .callv x xs => match rho x with
    | .fn (.func f) first captured => calling tb cl h f (first ++ xs.map rho ++ captured)
    | _ => none
  | .len x => (len? (rho x)).map fun (n : Nat) => (.i .i64 (n : Int), none)
  | .lens x => match rho x with
    | .s l => some (.i .i64 (l.length : Nat), none)
    | _ => none
  | .app t sz bytes s x => (news h sz (rho x)).bind fun new => appd h t sz bytes (rho s) new
  | .cpy sz d s => (news h sz (rho s)).bind fun src => copyTo h sz (rho d) src
  | .mnx max x y => match rho x, rho y with
    | .i k a, .i k' b => if k = k' then some (.i k (if max then (if b > a then b else a) else (if b < a then b else a)), none) else none
    | _, _ => none
  | .clr zero x => match rho x with
    | .nils => some (.tup [], none)
    | .orow id n lo len => (rowAt h id).bind fun r =>
      if r.1 = false ∧ n = r.2.2.length ∧ lo + len ≤ n ∧ zero.length = r.2.1 then
        some (.tup [], some (h.set id (AObj.row (labAt h id) false r.2.1 (r.2.2.take lo ++ List.replicate len zero ++ r.2.2.drop (lo + len)))))
      else none
    | .mp id => (mapAt h id).map fun _ => (.tup [], some (h.set id (AObj.map [])))
    | _ => none
  | .del ek m k => match rho m with
    | .nilm => if keyOk ek (rho k) then some (.tup [], none) else none
    | .mp id => if keyOk ek (rho k) then (mapAt h id).bind fun es => (find ek (rho k) es 0).map fun r => match r with
        | some (i, _) => (.tup [], some (h.set id (AObj.map (es.eraseIdx i))))
        | none => (.tup [], none)
      else none
    | _ => none
  | .lenm m => (entries h (rho m)).map fun es => (.i .i64 es.length, none)
  | .cvp x => match rho x with
    | .nilp => some (.nilp, none)
    | .ptr id off => (cellsAt h id).bind fun cs => if off < cs.length then some (.ptr id off, none) else none
    | _ => none
  | .cvu t n x => match rho x with
    | .nilp => some (.nilp, none)
    | .ptr id off => (cellsAt h id).bind fun cs => if off = 0 ∧ cs.length = n ∧ labAt h id = some t then some (.ptr id 0, none) else none
    | _ => none
  | .isni neg x => match rho x with
    | .nili => some (.b (!neg), none)
    | .ifc _ _ => some (.b neg, none)
    | _ => none
  | .eqp neg x y => match rho x, rho y with
    | .ptr a o, .ptr b o' => if a = b ∧ o = o' then some (.b (!neg), none) else none
    | _, _ => none
  | .usd x => match rho x with
    | .nils => some (.nilp, none)
    | .orow id n lo len => (rowAt h id).bind fun r => if n = r.2.2.length ∧ lo + len ≤ n ∧ 0 < len then some (.pe id n lo 0, none) else none
    | _ => none
  | .ust t x n => (int? (rho n)).bind fun k => match rho x with
    | .nilp => if k = 0 then some (.s [], none) else none
    | .pe id n i off => (rowAt h id).bind fun r =>
      if off = 0 ∧ 0 < k ∧ n = r.2.2.length ∧ i + k.toNat ≤ n ∧ r.2.1 = 1 ∧ labAt h id = some t ∧ k ≤ most then
        (bytes? ((r.2.2.drop i).take k.toNat)).map fun l => (.s l, some (h.set id (AObj.row (labAt h id) true 1 r.2.2)))
      else none
    | _ => none
  | .die => none

def eval (tb : Tab) (f : Fr) : AO → AV
  | .t n => get f n
  | .k v => v
  | .f n => .fn (.func n) [] []
  | .g n => match tb.gl n with
    | some cs => .ip cs 0
    | none => .junk

/-- is it to be carried out? -/
def wanted (f : Fr) (g : Option (Nat × Bool)) : Option Bool :=
  match g with
  | none => some true
  | some (t, w) => match get f t with
    | .b x => some (x == w)
    | .tup [] => some false
    | _ => none

def ops (tb : Tab) (cl : Nat → List AV → Heap → Out) : List AOper → Fr → Heap → Option (Fr × Heap)
  | [], f, h => some (f, h)
  | o :: r, f, h =>
    (wanted f o.g).bind fun w =>
      if w then (aop tb cl (eval tb f) h o.o).bind fun p => ops tb cl r (put f o.d p.1) (p.2.getD h)
      else ops tb cl r (put f o.d (.tup [])) h

/-- the memories of a region whose order is drawn, one behind each operation that changes it -/
def heaps (tb : Tab) (cl : Nat → List AV → Heap → Out) : List AOper → List (Option (Nat × Nat)) → Fr → Heap → Option (List Heap)
  | [], _, _, h => some [h]
  | o :: r, w, f, h =>
    (wanted f o.g).bind fun t =>
      if t then (aop tb cl (eval tb f) h o.o).bind fun p =>
        (heaps tb cl r w.tail (put f o.d p.1) (p.2.getD h)).map fun l =>
          match w.head? with
          | some none => h :: l
          | _ => l
      else (heaps tb cl r w.tail (put f o.d (.tup [])) h).map fun l =>
        match w.head? with
        | some none => h :: l
        | _ => l

open Classical in
/-- operations all of which leave the memory alone -/
noncomputable def opsQ (tb : Tab) (cl : Nat → List AV → Heap → Out) (h : Heap) : List AOper → Fr → Option Fr
  | [], f => some f
  | o :: r, f =>
    (wanted f o.g).bind fun w =>
      if w then (aop tb cl (eval tb f) h o.o).bind fun p => if p.2.getD h = h then opsQ tb cl h r (put f o.d p.1) else none
      else opsQ tb cl h r (put f o.d (.tup []))

open Classical in
/-- a region whose order is drawn: what leaves the memory alone must come to the same in each memory in which it may come -/
noncomputable def opsD (tb : Tab) (cl : Nat → List AV → Heap → Out) (hs : List Heap) : List AOper → List (Option (Nat × Nat)) → Nat → Fr → Option Fr
  | [], _, k, f => if k + 1 = hs.length then some f else none
  | o :: r, w, k, f =>
    (wanted f o.g).bind fun t =>
      if t then (hs[k]?).bind fun h => (aop tb cl (eval tb f) h o.o).bind fun p =>
        match w with
        | none :: w => if some (p.2.getD h) = hs[k + 1]? then opsD tb cl hs r w (k + 1) (put f o.d p.1) else none
        | some (lo, hi) :: w =>
          if (List.range' lo (hi + 1 - lo)).all (fun j => decide (∃ u, (hs[j]?).bind (fun h => aop tb cl (eval tb f) h o.o) = some (p.1, u) ∧ some (u.getD (hs[j]?.getD [])) = hs[j]?)) then
            opsD tb cl hs r w k (put f o.d p.1)
          else none
        | [] => none
      else match w with
        | none :: w => if hs[k]? = hs[k + 1]? then opsD tb cl hs r w (k + 1) (put f o.d (.tup [])) else none
        | some _ :: w => opsD tb cl hs r w k (put f o.d (.tup []))
        | [] => none

def keepL (live : List Nat) (f : Fr) : Fr := live.map fun t => (t, get f t)

def lpN (F : Fr → Heap → Option (Ex × Fr × Heap)) : Nat → Fr → Heap → Option (Ex × Fr × Heap)
  | 0, _, _ => none
  | n + 1, f, h => match F f h with
    | some (.normal, f', h') => lpN F n f' h'
    | r => r

open Classical in
noncomputable def lp (F : Fr → Heap → Option (Ex × Fr × Heap)) (f : Fr) (h : Heap) : Option (Ex × Fr × Heap) :=
  if x : ∃ n, (lpN F n f h).isSome = true then lpN F (Classical.choose x) f h else none

def round (live : List Nat) (F : Fr → Heap → Option (Ex × Fr × Heap)) (f : Fr) (h : Heap) : Option (Ex × Fr × Heap) :=
  (F (keepL live f) h).map fun
    | (.normal, f', h') => (.normal, keepL live f', h')
    | r => r

noncomputable def exec (tb : Tab) (cl : Nat → List AV → Heap → Out) : AC → Fr → Heap → Option (Ex × Fr × Heap)
  | .skip, f, h => some (.normal, f, h)
  | .reg l, f, h => (ops tb cl l f h).map fun p => (.normal, p.1, p.2)
  | .regq l, f, h => (opsQ tb cl h l f).map fun f => (.normal, f, h)
  | .regd l w, f, h => (heaps tb cl l w f h).bind fun hs => (opsD tb cl (h :: hs.tail) l w 0 f).bind fun f => ((h :: hs.tail).getLast?).map fun h => (.normal, f, h)
  | .seq x y, f, h => (exec tb cl x f h).bind fun
    | (.normal, f, h) => exec tb cl y f h
    | r => some r
  | .cond c x y, f, h => match eval tb f c with
    | .b t => if t then exec tb cl x f h else exec tb cl y f h
    | _ => none
  | .blk id x, f, h => (exec tb cl x f h).map fun
    | (.exit id', f, h) => if id' = id then (.normal, f, h) else (.exit id', f, h)
    | r => r
  | .loop live x, f, h => lp (round live (exec tb cl x)) f h
  | .exit id, f, h => some (.exit id, f, h)
  | .ret, f, h => some (.ret, f, h)
  | .keep live x, f, h => (exec tb cl x f h).map fun
    | (.normal, f, h) => (.normal, keepL live f, h)
    | r => r
  | .scope x, f, h => exec tb cl x f h
  | .stop, _, _ => none

def results (f : Fr) (h : Heap) : List ARes → Option (List AV)
  | [] => some []
  | .tmp t :: r => (results f h r).map (get f t :: ·)
  | .cell agg n t :: r => (load h agg n (get f t)).bind fun v => (results f h r).map (v :: ·)

def packed : List AV → AV
  | [v] => v
  | vs => .tup vs

def manyO {α : Type} (F : α → Option α) : List α → Option (List α)
  | [] => some []
  | x :: r => (F x).bind fun x => (manyO F r).map (x :: ·)

/-- a value without own memory from n on: rows made on the way are no more written -/
def frz (h : Heap) (n : Nat) : Nat → AV → Option AV
  | 0, v => if ment v ≤ n then some v else none
  | d + 1, v => if ment v ≤ n then some v else match v with
    | .orow id k lo len => (rowAt h id).bind fun r =>
      if k = r.2.2.length ∧ lo + len ≤ k then (manyO (manyO (frz h n d)) ((r.2.2.drop lo).take len)).map (.sl r.2.1) else none
    | .ocel sz id off len => (cellsAt h id).bind fun cs =>
      if off + len * sz ≤ cs.length then (manyO (manyO (frz h n d)) (chunks sz len (cs.drop off))).map (.sl sz) else none
    | .sl sz els => (manyO (manyO (frz h n d)) els).map (.sl sz)
    | .agg cs => (manyO (frz h n d) cs).map .agg
    | .tup cs => (manyO (frz h n d) cs).map .tup
    | _ => none
def frzL (h : Heap) (n : Nat) (l : List AV) : Option (List AV) := manyO (frz h n 12) l

/-- what a call comes to: if nothing leads to what was made on the way, that goes; if nothing else has changed, the memory is as it was -/
def leave (n : Nat) (h : Heap) (vs : List AV) : AV × Option Heap :=
  match frzL h n vs with
  | some vs' => if mentH (h.take n) ≤ n then (packed vs', some (h.take n)) else (packed vs, some h)
  | none => (packed vs, some h)

def quit (warm : Bool) (n : Nat) (h : Heap) (vs : List AV) : AV × Option Heap :=
  match warm with
  | true => (packed vs, some h)
  | false => leave n h vs

noncomputable def body (tb : Tab) (cl : Nat → List AV → Heap → Out) (fn : AFn) (args : List AV) (h : Heap) : Out :=
  if args.length = fn.np then
    (exec tb cl fn.body (args.zipIdx.map fun p => (p.2, p.1)) h).bind fun
      | (.exit _, _, _) => none
      | (_, f, h') => (results f h' fn.res).map fun vs => quit fn.warm h.length h' vs
  else none

noncomputable def run (tb : Tab) : Nat → Nat → List AV → Heap → Out
  | 0, _, _, _ => none
  | n + 1, f, args, h => (tb.fns f).bind fun fn => body tb (run tb n) fn args h

open Classical in
/-- what a call comes to, if it comes to anything -/
noncomputable def den (tb : Tab) (f : Nat) (args : List AV) (h : Heap) : Out :=
  if x : ∃ n, (run tb n f args h).isSome = true then run tb (Classical.choose x) f args h else none

end Go.Proofs.YtobejhpigbllpaaGreatDoor.Am
