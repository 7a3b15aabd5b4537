/-
  An abstract machine over flat lists of abstract cells: its values, its code and what its code does. Nothing here is about memory.
  The machine's equations: a loop is its body and the loop again; a call is its body, in which calls are calls again.
  The machine's values and memory as those of the model: what an abstract value says of a value in a world; that it goes on saying it.
  Types as sets of Lean values, and what cells of the machine's say of such a value; memory that P names is no more written.
  What is known at a point of a function's code: of its temporaries and of the memory that it made itself.
  What is known, put otherwise: fewer things; a slot that is no more written.
  What a function's code computes, as a Lean value, and that it does: the shapes of code.
  A function: its arguments, its results; what its code computes is what a call of it comes to.
  What operations come to, on typed values: numbers, texts, tests.
  What operations come to, on typed values: fields, slices, memory, calls.
  What operations come to, on typed values: memory of the function's own, calls, equality.
  What operations come to, on typed values: slices that grow, texts and bytes, structures, calls, equality.
  What operations come to, on typed values: texts and bytes, pieces of slices, literals, arrays, calls, equality.
-/
import GoSem.Step
import Derived.Attr
import Derived.Calls
import Derived.Still
namespace Go.Proofs.YtobejhpigbllpaaGreatDoor.Am
inductive AV where
 |b (x:Bool)
 |i (k:IntKind) (n:Int)
 |s (l:List UInt8)
 |agg (cs:List AV)
 |tup (cs:List AV)
 |nilp
 |ptr (id off:Nat)
 |pe (id n i off:Nat)
 |ip (cs:List AV) (off:Nat)
 |nils
 |sl (sz:Nat) (els:List (List AV))
 |orow (id n lo len:Nat)
 |ocel (sz id off len:Nat)
 |nilm
 |mp (id:Nat)
 |nilf
 |fn (f:Fn) (first captured:List AV)
 |nili
 |ifc (t:Nat) (v:AV)
 |junk
 deriving Inhabited
inductive BW where
 |cells (t:Option Nat) (cs:List AV)
 |row (t:Option Nat) (fz:Bool) (sz:Nat) (els:List (List AV))
 |map (es:List (AV×AV))
 |iter (l:List UInt8) (pos:Nat)
 deriving Inhabited
abbrev Ax:=List BW
abbrev Fr:=List (Nat×AV)
def get:Fr→Nat→AV
 |[],_=> .junk
 |(u,v)::r,t=>if u=t then v else get r t
def put(f:Fr)(d:Option Nat)(v:AV):Fr:=
 match d with
 |some t=>(t,v)::f
 |none=>f
inductive CK where
 |b
 |i (k:IntKind)
 |s
 deriving DecidableEq,Inhabited
inductive EK where
 |one (c:CK)
 |agg (l:List CK)
 |p
 |m
 |f
 |n
 |sl
 deriving DecidableEq,Inhabited
def zz:List (Nat×AV)→List AV
 |[]=>[]
 |(n,v)::r=>List.replicate n v++zz r
def kk:List (Nat×CK)→List CK
 |[]=>[]
 |(n,c)::r=>List.replicate n c++kk r
inductive AO where
 |t (n:Nat)
 |k (v:AV)
 |f (n:Nat)
 |g (n:Nat)
 deriving Inhabited
inductive Im where
 |mv (x:AO)
 |pick (c a b:AO)
 |alloc (t:Nat) (zero:List AV)
 |box (t n:Nat) (x:AO)
 |bld (zero:List AV) (parts:List (Nat×Nat×AO))
 |bls (t sz:Nat) (zero:List (List AV)) (parts:List (Nat×AO))
 |bll (sz:Nat) (zero:List (List AV)) (parts:List (Nat×AO))
 |ld (agg:Bool) (n:Nat) (a:AO)
 |st (n:Nat) (a x:AO)
 |nilc (x:AO)
 |bin (op:BinOp) (x y:AO)
 |eq (neg:Bool) (ek:EK) (x y:AO)
 |un (op:UnOp) (x:AO)
 |cvi (k:IntKind) (x:AO)
 |cvid (x:AO)
 |cvb (t:Nat) (x:AO)
 |cvr (x:AO)
 |cvs (x:AO)
 |cvc (x:AO)
 |mkf (fn:Fn) (first captured:List AO)
 |mkm
 |mks (t sz bytes:Nat) (zero:List AV) (len cap:AO)
 |sls (x:AO) (lo hi:Option AO)
 |sll (sz:Nat) (x:AO) (lo hi:Option AO)
 |sla (n sz:Nat) (x:AO) (lo hi:Option AO)
 |fa (off:Nat) (x:AO)
 |fld (agg:Bool) (off n:Nat) (x:AO)
 |ias (sz:Nat) (x i:AO)
 |iaa (len sz:Nat) (x i:AO)
 |ixa (len sz:Nat) (agg:Bool) (x i:AO)
 |ixs (x i:AO)
 |lkp (ek:EK) (zero:AV) (ok:Bool) (m k:AO)
 |mup (ek:EK) (m k v:AO)
 |rng (x:AO)
 |nxt (x:AO)
 |ext (x:AO) (i:Nat)
 |s2a (n sz:Nat) (x:AO)
 |mkif (t:Nat) (x:AO)
 |call (f:Nat) (xs:List AO)
 |callv (x:AO) (xs:List AO)
 |len (x:AO)
 |lens (x:AO)
 |app (t sz bytes:Nat) (s x:AO)
 |cpy (sz:Nat) (d s:AO)
 |mnx (max:Bool) (x y:AO)
 |clr (zero:List AV) (x:AO)
 |del (ek:EK) (m k:AO)
 |lenm (m:AO)
 |cvp (x:AO)
 |cvu (t n:Nat) (x:AO)
 |eqp (neg:Bool) (x y:AO)
 |isni (neg:Bool) (x:AO)
 |capn (x:AO)
 |usd (x:AO)
 |ust (t:Nat) (x n:AO)
 |die
 deriving Inhabited
structure Bl where
 d:Option Nat
 g:Option (Nat×Bool)
 o:Im
 deriving Inhabited
inductive AC where
 |skip
 |reg (ops:List Bl)
 |regq (ops:List Bl)
 |regd (ops:List Bl) (w:List (Option (Nat×Nat)))
 |seq (x y:AC)
 |cond (c:AO) (x y:AC)
 |blk (id:Nat) (x:AC)
 |loop (Bi:List Nat) (x:AC)
 |exit (id:Nat)
 |ret
 |keep (Bi:List Nat) (x:AC)
 |scope (x:AC)
 |stop
 deriving Inhabited
inductive Ex where
 |normal
 |exit (id:Nat)
 |ret
 deriving DecidableEq,Inhabited
inductive KK where
 |tmp (t:Nat)
 |cell (agg:Bool) (n:Nat) (t:Nat)
 deriving Inhabited
structure D7 where
 warm:Bool
 np:Nat
 nt:Nat
 res:List KK
 body:AC
 deriving Inhabited
structure Dg where
 fns:Nat→Option D7
 gl:Nat→Option (List AV)
 prim:Nat→Option (List AV→Ax→Option (AV×Option Ax))
 it:List Nat:=[]
mutual
def BS:AV→Nat
 | .ptr id _=>id+1
 | .pe id _ _ _=>id+1
 | .orow id _ _ _=>id+1
 | .ocel _ id _ _=>id+1
 | .mp id=>id+1
 | .ip cs _=>Bu cs
 | .sl _ els=>Di els
 | .fn _ a b=>max (Bu a) (Bu b)
 | .ifc _ v=>BS v
 | .agg cs=>Bu cs
 | .tup cs=>Bu cs
 |_=>0
def Bu:List AV→Nat
 |[]=>0
 |v::r=>max (BS v) (Bu r)
def Di:List (List AV)→Nat
 |[]=>0
 |l::r=>max (Bu l) (Di r)
end
def ED:BW→Nat
 | .cells _ cs=>Bu cs
 | .row _ _ _ els=>Di els
 | .map es=>max (Bu (es.map (·.1))) (Bu (es.map (·.2)))
 | .iter _ _=>0
def Dh:Ax→Nat
 |[]=>0
 |o::r=>max (ED o) (Dh r)
def cellsOf:AV→List AV
 | .agg cs=>cs
 | .tup _=>[]
 | .junk=>[]
 |v=>[v]
def sub(cs:List AV)(off n:Nat):List AV:=(cs.drop off).take n
def B2(cs:List AV)(off:Nat)(new:List AV):List AV:=cs.take off++new++cs.drop (off+new.length)
def HS(agg:Bool)(cs:List AV):Option AV:=
 match agg,cs with
 |true,cs=>some (.agg cs)
 |false,[v]=>some v
 |false,_=>none
def Cq(h:Ax)(id:Nat):Option (List AV):=
 match h[id]? with
 |some (.cells _ cs)=>some cs
 |_=>none
def rowAt(h:Ax)(id:Nat):Option (Bool×Nat×List (List AV)):=
 match h[id]? with
 |some (.row _ fz sz els)=>some (fz,sz,els)
 |_=>none
def E5(h:Ax)(id:Nat):Option Nat:=
 match h[id]? with
 |some (.cells t _)=>t
 |some (.row t _ _ _)=>t
 |_=>none
def TU(l:Option Nat)(t:Nat):Option Nat:=if l=some t then some t else none
def Qz(h:Ax)(id:Nat):Option (List (AV×AV)):=
 match h[id]? with
 |some (.map es)=>some es
 |_=>none
def W5(h:Ax)(id:Nat):Option (List UInt8×Nat):=
 match h[id]? with
 |some (.iter l p)=>some (l,p)
 |_=>none
def place(h:Ax):AV→Option (List AV×Nat)
 | .ptr id off=>(Cq h id).map fun cs=>(cs,off)
 | .pe id n i off=>(rowAt h id).bind fun r=>if n=r.2.2.length then some ((r.2.2.drop i).flatten,off)else none
 | .ip cs off=>some (cs,off)
 |_=>none
def load(h:Ax)(agg:Bool)(n:Nat)(a:AV):Option AV:=
 (place h a).bind fun p=>if p.2+n≤p.1.length then HS agg (sub p.1 p.2 n)else none
def store(h:Ax)(n:Nat)(a x:AV):Option Ax:=
 match a with
 | .ptr id off=>(Cq h id).bind fun cs=>
  if(cellsOf x).length=n∧off+n≤cs.length then some (h.set id (BW.cells (E5 h id) (B2 cs off (cellsOf x))))else none
 | .pe id n' i off=>(rowAt h id).bind fun r=>
  if r.1=false∧n'=r.2.2.length∧(cellsOf x).length=n then
   (r.2.2[i]?).bind fun cs=>if off+n≤cs.length then some (h.set id (BW.row (E5 h id) false r.2.1 (r.2.2.set i (B2 cs off (cellsOf x)))))else none
  else none
 |_=>none
def shift(off:Nat):AV→Option AV
 | .ptr id o=>some (.ptr id (o+off))
 | .pe id n i o=>some (.pe id n i (o+off))
 | .ip cs o=>some (.ip cs (o+off))
 |_=>none
def BK(sz:Nat):Nat→List AV→List (List AV)
 |0,_=>[]
 |n+1,cs=>cs.take sz::BK sz n (cs.drop sz)
def EP(h:Ax)(sz:Nat):AV→Option (List (List AV))
 | .nils=>some []
 | .sl sz' els=>if sz'=sz then some els else none
 | .orow id n lo len=>(rowAt h id).bind fun r=>if n=r.2.2.length∧r.2.1=sz∧lo+len≤n then some ((r.2.2.drop lo).take len)else none
 | .ocel sz' id off len=>(Cq h id).bind fun cs=>if sz'=sz∧off+len*sz≤cs.length then some (BK sz len (cs.drop off))else none
 |_=>none
def Pb:AV→Option Nat
 | .nils=>some 0
 | .sl _ els=>some els.length
 | .orow _ _ _ len=>some len
 | .ocel _ _ _ len=>some len
 |_=>none
def B1(l:List UInt8):List (List AV):=l.map fun c=>[.i .u8 c.toNat]
def EL:List (List AV)→Option (List UInt8)
 |[]=>some []
 |[.i .u8 n]::r=>(EL r).map (UInt8.ofNat n.toNat:: ·)
 |_=>none
def rP:CK→AV→AV→Option Bool
 | .b, .b x, .b y=>some (x==y)
 | .i k, .i k1 x, .i k2 y=>if k1=k∧k2=k then some (x==y)else none
 | .s, .s x, .s y=>some (x==y)
 |_,_,_=>none
def Nm:List CK→List AV→List AV→Option Bool
 |[],[],[]=>some true
 |c::l,x::r,y::q=>(rP c x y).bind fun a=>(Nm l r q).map fun b=>a&&b
 |_,_,_=>none
def bF:EK→AV→AV→Option Bool
 | .one c,x,y=>rP c x y
 | .agg l, .agg x, .agg y=>Nm l x y
 | .p, .nilp, .nilp=>some true
 | .p, .nilp, .ptr _ _=>some false
 | .p, .nilp, .pe _ _ _ _=>some false
 | .p, .nilp, .ip _ _=>some false
 | .p, .ptr _ _, .nilp=>some false
 | .p, .pe _ _ _ _, .nilp=>some false
 | .p, .ip _ _, .nilp=>some false
 | .m, .nilm, .nilm=>some true
 | .m, .nilm, .mp _=>some false
 | .m, .mp _, .nilm=>some false
 | .f, .nilf, .nilf=>some true
 | .f, .nilf, .fn _ _ _=>some false
 | .f, .fn _ _ _, .nilf=>some false
 | .n, .nili, .ifc _ _=>some false
 | .n, .ifc _ _, .nili=>some false
 | .sl, .nils, .nils=>some true
 | .sl, .sl _ _, .nils=>some false
 | .sl, .orow _ _ _ _, .nils=>some false
 | .sl, .ocel _ _ _ _, .nils=>some false
 | .sl, .nils, .sl _ _=>some false
 | .sl, .nils, .orow _ _ _ _=>some false
 | .sl, .nils, .ocel _ _ _ _=>some false
 |_,_,_=>none
def oH(op:BinOp)(k:IntKind)(x y:Int):Int:=
 match op with
 | .and=>k.wrap (BitVec.ofInt k.bits x&&&BitVec.ofInt k.bits y).toNat
 | .or=>k.wrap (BitVec.ofInt k.bits x|||BitVec.ofInt k.bits y).toNat
 | .xor=>k.wrap (BitVec.ofInt k.bits x^^^BitVec.ofInt k.bits y).toNat
 |_=>k.wrap (BitVec.ofInt k.bits x&&& ~~~(BitVec.ofInt k.bits y)).toNat
def B4:Nat:=1099511627776
def bin(op:BinOp):AV→AV→Option AV
 | .i k a, .i k' b=>
  match op with
  | .shl=>if b<0 then none else some (.i k (k.wrap (a*2^(min b.toNat k.bits))))
  | .shr=>if b<0 then none else some (.i k (a.fdiv (2^(min b.toNat k.bits))))
  |op=>
   if k=k' then
    match op with
    | .add=>some (.i k (k.wrap (a+b)))
    | .sub=>some (.i k (k.wrap (a-b)))
    | .mul=>some (.i k (k.wrap (a*b)))
    | .quo=>if b=0 then none else some (.i k (k.wrap (a.tdiv b)))
    | .rem=>if b=0 then none else some (.i k (a.tmod b))
    | .eql=>some (.b (a==b))
    | .neq=>some (.b (a != b))
    | .lss=>some (.b (decide (a<b)))
    | .leq=>some (.b (decide (a≤b)))
    | .gtr=>some (.b (decide (a>b)))
    | .geq=>some (.b (decide (a≥b)))
    |op=>some (.i k (oH op k a b))
   else none
 | .s a, .s b=>
  match op with
  | .add=>if a.length+b.length≤2*B4 then some (.s (a++b))else none
  | .eql=>some (.b (a==b))
  | .neq=>some (.b (!(a==b)))
  | .lss=>some (.b (Op.bytesLess a b))
  | .leq=>some (.b (Op.bytesLess a b||a==b))
  | .gtr=>some (.b (!(Op.bytesLess a b||a==b)))
  | .geq=>some (.b (!(Op.bytesLess a b)))
  |_=>none
 |_,_=>none
def un(op:UnOp):AV→Option AV
 | .i k a=>match op with
  | .neg=>some (.i k (k.wrap (0-a)))
  | .xor=>some (.i k (oH .xor k (if k.signed then-1 else k.max) a))
  |_=>none
 | .b x=>match op with
  | .not=>some (.b (!x))
  |_=>none
 |_=>none
def Il:AV→Option Int
 | .i _ n=>some n
 |_=>none
def JW(x:AV)(to:Nat):Option Nat:=
 (Il x).bind fun n=>if 0≤n∧n≤to then some n.toNat else none
def HR(f:AO→AV)(len:Nat)(lo hi:Option AO):Option (Nat×Nat):=
 (match hi with
  |none=>some len
  |some x=>JW (f x) len).bind fun h=>
 (match lo with
  |none=>some 0
  |some x=>JW (f x) h).bind fun l=>some (l,h)
def LN(cells:List AV)(rho:AO→AV):List (Nat×Nat×AO)→Option (List AV)
 |[]=>some cells
 |(off,n,x)::r=>
  if(cellsOf (rho x)).length=n∧off+n≤cells.length then LN (B2 cells off (cellsOf (rho x))) rho r else none
def KG(els:List (List AV))(sz:Nat)(rho:AO→AV):List (Nat×AO)→Option (List (List AV))
 |[]=>some els
 |(i,x)::r=>
  if(cellsOf (rho x)).length=sz∧i<els.length then KG (els.set i (cellsOf (rho x))) sz rho r else none
def find(ek:EK)(k:AV):List (AV×AV)→Nat→Option (Option (Nat×AV))
 |[],_=>some none
 |(x,v)::r,i=>(bF ek k x).bind fun e=>if e then some (some (i,v))else find ek k r (i+1)
def Q1:EK→AV→Bool
 | .one _,_=>true
 | .agg l, .agg cs=>Nat.beq cs.length l.length
 |_,_=>false
def PN(h:Ax):AV→Option (List (AV×AV))
 | .nilm=>some []
 | .mp id=>Qz h id
 |_=>none
def W8(h:Ax)(sz:Nat)(v:AV)(n:Nat):Option AV:=
 (EP h sz v).bind fun els=>
  if n<els.length then
   match v with
   | .orow id k lo _=>some (.pe id k (lo+n) 0)
   | .ocel _ id off _=>some (.ptr id (off+n*sz))
   |_=>(els[n]?).map fun cs=> .ip cs 0
  else none
def resl(h:Ax)(sz:Nat)(v:AV)(a b:Nat):Option AV:=
 match v with
 | .nils=>some .nils
 | .sl sz' els=>if sz'=sz then some (.sl sz ((els.take b).drop a))else none
 | .orow id n l len=>(rowAt h id).bind fun r=>if n=r.2.2.length∧r.2.1=sz∧l+len≤n then some (.orow id n (l+a) (b-a))else none
 | .ocel sz' id off _=>if sz'=sz then some (.ocel sz id (off+a*sz) (b-a))else none
 |_=>none
def oJ(h:Ax)(n sz:Nat)(v:AV)(a b:Nat):Option AV:=
 match v with
 | .ptr id off=>(Cq h id).bind fun cs=>if off+n*sz≤cs.length then some (.ocel sz id (off+a*sz) (b-a))else none
 | .ip cs off=>if off+n*sz≤cs.length then some (.sl sz (((BK sz n (cs.drop off)).take b).drop a))else none
 |_=>none
def Uu(n sz:Nat)(v:AV):Option AV:=
 match v with
 | .ocel sz' id off len=>if sz'=sz∧n≤len then some (.ptr id off)else none
 | .sl sz' els=>if sz'=sz∧n≤els.length then some (.ip (els.take n).flatten 0)else none
 | .orow id k lo len=>if n≤len∧0<n then some (.pe id k lo 0)else none
 |_=>none
def dX(h:Ax)(sz:Nat)(v:AV):Option (List (List AV)):=
 match v with
 | .s l=>if sz=1 then some (B1 l)else none
 |v=>EP h sz v
def T9(h:Ax)(t sz bytes:Nat)(v:AV)(new:List (List AV)):Option (AV×Option Ax):=
 match v with
 | .nils=>
  if new.length=0 then some (.nils,none)
  else if new.length*bytes≤B4 then some (.orow h.length new.length 0 new.length,some (h++[BW.row (some t) false sz new]))else none
 | .orow id n lo len=>(rowAt h id).bind fun r=>
  if lo=0∧n=r.2.2.length∧len=n∧r.2.1=sz∧(n+new.length)*bytes≤B4∧r.1=false then
   if new.length=0 then some (.orow id n 0 n,none)
   else some (.orow id (n+new.length) 0 (n+new.length),some (h.set id (BW.row (TU (E5 h id) t) r.1 sz (r.2.2++new))))
  else none
 |_=>none
def bM(h:Ax)(sz:Nat)(v:AV)(src:List (List AV)):Option (AV×Option Ax):=
 match v with
 | .nils=>some (.i .i64 0,none)
 | .orow id n lo len=>(rowAt h id).bind fun r=>
  if r.1=false∧n=r.2.2.length∧r.2.1=sz∧lo+len≤n then
   some (.i .i64 (min src.length len:Nat),some (h.set id (BW.row (E5 h id) false sz (r.2.2.take lo++src.take (min src.length len)++r.2.2.drop (lo+min src.length len)))))
  else none
 | .ocel sz' id off len=>(Cq h id).bind fun cs=>
  if sz'=sz∧off+len*sz≤cs.length then
   some (.i .i64 (min src.length len:Nat),some (h.set id (BW.cells (E5 h id) (cs.take off++(src.take (min src.length len)).flatten++cs.drop (off+min src.length len*sz)))))
  else none
 |_=>none
abbrev Lb:=Option (AV×Option Ax)
def val(v:Option AV):Lb:=v.map fun v=>(v,none)
def B6(tb:Dg)(cl:Nat→List AV→Ax→Lb)(h:Ax)(f:Nat)(args:List AV):Lb:=
 match tb.prim f with
 |some p=>p args h
 |none=>cl f args h
def Bz(tb:Dg)(cl:Nat→List AV→Ax→Lb)(rho:AO→AV)(h:Ax):Im→Lb
 | .mv x=>some (rho x,none)
 | .pick c a b=>match rho c with
  | .b t=>some (if t then rho a else rho b,none)
  |_=>none
 | .alloc t zero=>some (.ptr h.length 0,some (h++[BW.cells (some t) zero]))
 | .box t n x=>if(cellsOf (rho x)).length=n then some (.ptr h.length 0,some (h++[BW.cells (some t) (cellsOf (rho x))]))else none
 | .bld zero parts=>val ((LN zero rho parts).map .agg)
 | .bls t sz zero parts=>(KG zero sz rho parts).map fun els=>(.orow h.length els.length 0 els.length,some (h++[BW.row (some t) false sz els]))
 | .bll sz zero parts=>val ((KG zero sz rho parts).map (.sl sz))
 | .ld agg n a=>val (load h agg n (rho a))
 | .st n a x=>(store h n (rho a) (rho x)).map fun h=>(.junk,some h)
 | .nilc x=>match rho x with
  | .ptr a b=>some (.ptr a b,none)
  | .pe a b c d=>some (.pe a b c d,none)
  | .ip a b=>some (.ip a b,none)
  | .fn (.func f) a b=>some (.fn (.func f) a b,none)
  |_=>none
 | .bin op x y=>val (bin op (rho x) (rho y))
 | .eq neg ek x y=>val ((bF ek (rho x) (rho y)).map fun e=> .b (if neg then !e else e))
 | .un op x=>val (un op (rho x))
 | .cvi k x=>match rho x with
  | .i _ n=>some (.i k (k.wrap n),none)
  |_=>none
 | .cvid x=>match rho x with
  | .s l=>some (.s l,none)
  |_=>none
 | .cvb t x=>match rho x with
  | .s l=>some (.orow h.length l.length 0 l.length,some (h++[BW.row (some t) false 1 (B1 l)]))
  |_=>none
 | .cvr x=>match rho x with
  | .orow id n lo len=>(rowAt h id).bind fun r=>if r.1=false∧n=r.2.2.length∧lo+len≤n then some (.orow id n lo len,none)else none
  |_=>none
 | .cvs x=>val (((EP h 1 (rho x)).bind EL).map .s)
 | .cvc x=>match rho x with
  | .i _ n=>some (.s (Utf8.encode n).data.toList,none)
  |_=>none
 | .mkf fn a b=>some (.fn fn (a.map rho) (b.map rho),none)
 | .mkm=>some (.mp h.length,some (h++[BW.map []]))
 | .mks t sz bytes zero len cap=>
  (Il (rho len)).bind fun l=>(Il (rho cap)).bind fun c=>
   if 0≤l∧l≤c∧c*bytes≤B4 then
    some (.orow h.length l.toNat 0 l.toNat,some (h++[BW.row (some t) false sz (List.replicate l.toNat zero)]))
   else none
 | .sls x lo hi=>match rho x with
  | .s l=>(HR rho l.length lo hi).map fun p=>(.s ((l.take p.2).drop p.1),none)
  |_=>none
 | .sll sz x lo hi=>(Pb (rho x)).bind fun len=>(HR rho len lo hi).bind fun p=>val (resl h sz (rho x) p.1 p.2)
 | .sla n sz x lo hi=>(HR rho n lo hi).bind fun p=>val (oJ h n sz (rho x) p.1 p.2)
 | .fa off x=>val (shift off (rho x))
 | .fld agg off n x=>match rho x with
  | .agg cs=>if off+n≤cs.length then val (HS agg (sub cs off n))else none
  |_=>none
 | .ias sz x i=>(Il (rho i)).bind fun n=>if 0≤n then val (W8 h sz (rho x) n.toNat)else none
 | .iaa len sz x i=>
  (Il (rho i)).bind fun n=>if 0≤n∧n<len then val (shift (n.toNat*sz) (rho x))else none
 | .ixa len sz agg x i=>
  (Il (rho i)).bind fun n=>match rho x with
   | .agg cs=>if 0≤n∧n<len∧len*sz≤cs.length then val (HS agg (sub cs (n.toNat*sz) sz))else none
   |_=>none
 | .ixs x i=>
  (Il (rho i)).bind fun n=>match rho x with
   | .s l=>if 0≤n then(l[n.toNat]?).map fun c=>(.i .u8 c.toNat,none)else none
   |_=>none
 | .lkp ek zero ok m k=>
  if Q1 ek (rho k)then(PN h (rho m)).bind fun es=>(find ek (rho k) es 0).map fun r=>match r with
    |some (_,v)=>(if ok then .tup [v, .b true]else v,none)
    |none=>(if ok then .tup [zero, .b false]else zero,none)
  else none
 | .mup ek m k v=>match rho m with
  | .mp id=>if Q1 ek (rho k)then(Qz h id).bind fun es=>(find ek (rho k) es 0).map fun r=>match r with
    |some (i,_)=>(.junk,some (h.set id (BW.map (es.set i (rho k,rho v)))))
    |none=>(.junk,some (h.set id (BW.map (es++[(rho k,rho v)]))))
   else none
  |_=>none
 | .rng x=>match rho x with
  | .s l=>some (.ptr h.length 0,some (h++[BW.iter l 0]))
  |_=>none
 | .nxt x=>match rho x with
  | .ptr id off=>(W5 h id).bind fun it=>
   if off=0 then
    if it.2<it.1.length then
     some (.tup [.b true, .i .i64 it.2, .i .i32 (Utf8.decode ⟨it.1.toArray⟩ it.2).1],some (h.set id (BW.iter it.1 (it.2+(Utf8.decode ⟨it.1.toArray⟩ it.2).2))))
    else some (.tup [.b false],none)
   else none
  |_=>none
 | .ext x i=>match rho x with
  | .tup vs=>val (vs[i]?)
  |_=>none
 | .s2a n sz x=>val (Uu n sz (rho x))
 | .mkif _ _=>some (.ifc 0 .junk,none)
 | .call f xs=>B6 tb cl h f (xs.map rho)
 | .callv x xs=>match rho x with
  | .fn (.func f) first captured=>B6 tb cl h f (first++xs.map rho++captured)
  |_=>none
 | .len x=>(Pb (rho x)).map fun(n:Nat)=>(.i .i64 (n:Int),none)
 | .lens x=>match rho x with
  | .s l=>some (.i .i64 (l.length:Nat),none)
  |_=>none
 | .app t sz bytes s x=>(dX h sz (rho x)).bind fun new=>T9 h t sz bytes (rho s) new
 | .cpy sz d s=>(dX h sz (rho s)).bind fun src=>bM h sz (rho d) src
 | .mnx max x y=>match rho x,rho y with
  | .i k a, .i k' b=>if k=k' then some (.i k (if max then(if b>a then b else a)else(if b<a then b else a)),none)else none
  |_,_=>none
 | .clr zero x=>match rho x with
  | .nils=>some (.tup [],none)
  | .orow id n lo len=>(rowAt h id).bind fun r=>
   if r.1=false∧n=r.2.2.length∧lo+len≤n∧zero.length=r.2.1 then
    some (.tup [],some (h.set id (BW.row (E5 h id) false r.2.1 (r.2.2.take lo++List.replicate len zero++r.2.2.drop (lo+len)))))
   else none
  | .mp id=>(Qz h id).map fun _=>(.tup [],some (h.set id (BW.map [])))
  |_=>none
 | .del ek m k=>match rho m with
  | .nilm=>if Q1 ek (rho k)then some (.tup [],none)else none
  | .mp id=>if Q1 ek (rho k)then(Qz h id).bind fun es=>(find ek (rho k) es 0).map fun r=>match r with
    |some (i,_)=>(.tup [],some (h.set id (BW.map (es.eraseIdx i))))
    |none=>(.tup [],none)
   else none
  |_=>none
 | .lenm m=>(PN h (rho m)).map fun es=>(.i .i64 es.length,none)
 | .cvp x=>match rho x with
  | .nilp=>some (.nilp,none)
  | .ptr id off=>(Cq h id).bind fun cs=>if off<cs.length then some (.ptr id off,none)else none
  |_=>none
 | .cvu t n x=>match rho x with
  | .nilp=>some (.nilp,none)
  | .ptr id off=>(Cq h id).bind fun cs=>if off=0∧cs.length=n∧E5 h id=some t then some (.ptr id 0,none)else none
  |_=>none
 | .capn x=>match rho x with
  | .nils=>some (.i .i64 0,none)
  |_=>none
 | .isni neg x=>match rho x with
  | .nili=>some (.b (!neg),none)
  | .ifc _ _=>some (.b neg,none)
  |_=>none
 | .eqp neg x y=>match rho x,rho y with
  | .ptr a o, .ptr b o'=>if a=b∧o=o' then some (.b (!neg),none)else none
  |_,_=>none
 | .usd x=>match rho x with
  | .nils=>some (.nilp,none)
  | .orow id n lo len=>(rowAt h id).bind fun r=>if n=r.2.2.length∧lo+len≤n∧0<len then some (.pe id n lo 0,none)else none
  |_=>none
 | .ust t x n=>(Il (rho n)).bind fun k=>match rho x with
  | .nilp=>if k=0 then some (.s [],none)else none
  | .pe id n i off=>(rowAt h id).bind fun r=>
   if off=0∧0<k∧n=r.2.2.length∧i+k.toNat≤n∧r.2.1=1∧E5 h id=some t∧k≤B4 then
    (EL ((r.2.2.drop i).take k.toNat)).map fun l=>(.s l,some (h.set id (BW.row (E5 h id) true 1 r.2.2)))
   else none
  |_=>none
 | .die=>none
def eval(tb:Dg)(f:Fr):AO→AV
 | .t n=>get f n
 | .k v=>v
 | .f n=> .fn (.func n) [] []
 | .g n=>match tb.gl n with
  |some cs=> .ip cs 0
  |none=> .junk
def wanted(f:Fr)(g:Option (Nat×Bool)):Option Bool:=
 match g with
 |none=>some true
 |some (t,w)=>match get f t with
  | .b x=>some (x==w)
  | .tup []=>some false
  |_=>none
def ops(tb:Dg)(cl:Nat→List AV→Ax→Lb):List Bl→Fr→Ax→Option (Fr×Ax)
 |[],f,h=>some (f,h)
 |o::r,f,h=>
  (wanted f o.g).bind fun w=>
   if w then(Bz tb cl (eval tb f) h o.o).bind fun p=>ops tb cl r (put f o.d p.1) (p.2.getD h)
   else ops tb cl r (put f o.d (.tup [])) h
def Ik(tb:Dg)(cl:Nat→List AV→Ax→Lb):List Bl→List (Option (Nat×Nat))→Fr→Ax→Option (List Ax)
 |[],_,_,h=>some [h]
 |o::r,w,f,h=>
  (wanted f o.g).bind fun t=>
   if t then(Bz tb cl (eval tb f) h o.o).bind fun p=>
    (Ik tb cl r w.tail (put f o.d p.1) (p.2.getD h)).map fun l=>
     match w.head? with
     |some none=>h::l
     |_=>l
   else(Ik tb cl r w.tail (put f o.d (.tup [])) h).map fun l=>
    match w.head? with
    |some none=>h::l
    |_=>l
open Classical in
noncomputable def Ir(tb:Dg)(cl:Nat→List AV→Ax→Lb)(h:Ax):List Bl→Fr→Option Fr
 |[],f=>some f
 |o::r,f=>
  (wanted f o.g).bind fun w=>
   if w then(Bz tb cl (eval tb f) h o.o).bind fun p=>if p.2.getD h=h then Ir tb cl h r (put f o.d p.1)else none
   else Ir tb cl h r (put f o.d (.tup []))
open Classical in
noncomputable def J6(tb:Dg)(cl:Nat→List AV→Ax→Lb)(hs:List Ax):List Bl→List (Option (Nat×Nat))→Nat→Fr→Option Fr
 |[],_,k,f=>if k+1=hs.length then some f else none
 |o::r,w,k,f=>
  (wanted f o.g).bind fun t=>
   if t then(hs[k]?).bind fun h=>(Bz tb cl (eval tb f) h o.o).bind fun p=>
    match w with
    |none::w=>if some (p.2.getD h)=hs[k+1]? then J6 tb cl hs r w (k+1) (put f o.d p.1)else none
    |some (lo,hi)::w=>
     if(List.range' lo (hi+1-lo)).all (fun j=>decide (∃u,(hs[j]?).bind (fun h=>Bz tb cl (eval tb f) h o.o)=some (p.1,u)∧some (u.getD (hs[j]?.getD []))=hs[j]?))then
      J6 tb cl hs r w k (put f o.d p.1)
     else none
    |[]=>none
   else match w with
    |none::w=>if hs[k]? =hs[k+1]? then J6 tb cl hs r w (k+1) (put f o.d (.tup []))else none
    |some _::w=>J6 tb cl hs r w k (put f o.d (.tup []))
    |[]=>none
def keepL(Bi:List Nat)(f:Fr):Fr:=Bi.map fun t=>(t,get f t)
def Q0(F:Fr→Ax→Option (Ex×Fr×Ax)):Nat→Fr→Ax→Option (Ex×Fr×Ax)
 |0,_,_=>none
 |n+1,f,h=>match F f h with
  |some (.normal,f',h')=>Q0 F n f' h'
  |r=>r
open Classical in
noncomputable def lp(F:Fr→Ax→Option (Ex×Fr×Ax))(f:Fr)(h:Ax):Option (Ex×Fr×Ax):=
 if x: ∃n,(Q0 F n f h).isSome=true then Q0 F (Classical.choose x) f h else none
def K4(Bi:List Nat)(F:Fr→Ax→Option (Ex×Fr×Ax))(f:Fr)(h:Ax):Option (Ex×Fr×Ax):=
 (F (keepL Bi f) h).map fun
  |(.normal,f',h')=>(.normal,keepL Bi f',h')
  |r=>r
noncomputable def Bc(tb:Dg)(cl:Nat→List AV→Ax→Lb):AC→Fr→Ax→Option (Ex×Fr×Ax)
 | .skip,f,h=>some (.normal,f,h)
 | .reg l,f,h=>(ops tb cl l f h).map fun p=>(.normal,p.1,p.2)
 | .regq l,f,h=>(Ir tb cl h l f).map fun f=>(.normal,f,h)
 | .regd l w,f,h=>(Ik tb cl l w f h).bind fun hs=>(J6 tb cl (h::hs.tail) l w 0 f).bind fun f=>((h::hs.tail).getLast?).map fun h=>(.normal,f,h)
 | .seq x y,f,h=>(Bc tb cl x f h).bind fun
  |(.normal,f,h)=>Bc tb cl y f h
  |r=>some r
 | .cond c x y,f,h=>match eval tb f c with
  | .b t=>if t then Bc tb cl x f h else Bc tb cl y f h
  |_=>none
 | .blk id x,f,h=>(Bc tb cl x f h).map fun
  |(.exit id',f,h)=>if id'=id then(.normal,f,h)else(.exit id',f,h)
  |r=>r
 | .loop Bi x,f,h=>lp (K4 Bi (Bc tb cl x)) f h
 | .exit id,f,h=>some (.exit id,f,h)
 | .ret,f,h=>some (.ret,f,h)
 | .keep Bi x,f,h=>(Bc tb cl x f h).map fun
  |(.normal,f,h)=>(.normal,keepL Bi f,h)
  |r=>r
 | .scope x,f,h=>Bc tb cl x f h
 | .stop,_,_=>none
def results(f:Fr)(h:Ax):List KK→Option (List AV)
 |[]=>some []
 | .tmp t::r=>(results f h r).map (get f t:: ·)
 | .cell agg n t::r=>(load h agg n (get f t)).bind fun v=>(results f h r).map (v:: ·)
def GE:List AV→AV
 |[v]=>v
 |vs=> .tup vs
def DL{α:Type}(F:α→Option α):List α→Option (List α)
 |[]=>some []
 |x::r=>(F x).bind fun x=>(DL F r).map (x:: ·)
def frz(h:Ax)(n:Nat):Nat→AV→Option AV
 |0,v=>if BS v≤n then some v else none
 |d+1,v=>if BS v≤n then some v else match v with
  | .orow id k lo len=>(rowAt h id).bind fun r=>
   if k=r.2.2.length∧lo+len≤k then(DL (DL (frz h n d)) ((r.2.2.drop lo).take len)).map (.sl r.2.1)else none
  | .ocel sz id off len=>(Cq h id).bind fun cs=>
   if off+len*sz≤cs.length then(DL (DL (frz h n d)) (BK sz len (cs.drop off))).map (.sl sz)else none
  | .sl sz els=>(DL (DL (frz h n d)) els).map (.sl sz)
  | .agg cs=>(DL (frz h n d) cs).map .agg
  | .tup cs=>(DL (frz h n d) cs).map .tup
  |_=>none
def aS(h:Ax)(n:Nat)(l:List AV):Option (List AV):=DL (frz h n 12) l
def Wl(n:Nat)(h:Ax)(vs:List AV):AV×Option Ax:=
 match aS h n vs with
 |some vs'=>if Dh (h.take n)≤n then(GE vs',some (h.take n))else(GE vs,some h)
 |none=>(GE vs,some h)
def VU(warm:Bool)(n:Nat)(h:Ax)(vs:List AV):AV×Option Ax:=
 match warm with
 |true=>(GE vs,some h)
 |false=>Wl n h vs
noncomputable def body(tb:Dg)(cl:Nat→List AV→Ax→Lb)(fn:D7)(args:List AV)(h:Ax):Lb:=
 if args.length=fn.np then
  (Bc tb cl fn.body (args.zipIdx.map fun p=>(p.2,p.1)) h).bind fun
   |(.exit _,_,_)=>none
   |(_,f,h')=>(results f h' fn.res).map fun vs=>VU fn.warm h.length h' vs
 else none
noncomputable def run(tb:Dg):Nat→Nat→List AV→Ax→Lb
 |0,_,_,_=>none
 |n+1,f,args,h=>(tb.fns f).bind fun fn=>body tb (run tb n) fn args h
open Classical in
noncomputable def C1(tb:Dg)(f:Nat)(args:List AV)(h:Ax):Lb:=
 if x: ∃n,(run tb n f args h).isSome=true then run tb (Classical.choose x) f args h else none
end Go.Proofs.YtobejhpigbllpaaGreatDoor.Am
namespace Go.Proofs.YtobejhpigbllpaaGreatDoor.Am
theorem eC(F:Fr→Ax→Option (Ex×Fr×Ax)): ∀(n:Nat) (f:Fr) (h:Ax) (r:Ex×Fr×Ax),Q0 F n f h=some r→ ∀m,n≤m→Q0 F m f h=some r:=by
 intro n
 induction n with
 |zero=>intro f h r e;simp[Q0]at e
 |succ n ih=>
  intro f h r e m hm
  obtain⟨m,rfl⟩: ∃k,m=k+1:=⟨m-1,by omega⟩
  simp only[Q0]at e ⊢
  split at e
  ·exact ih _ _ _ e m (by omega)
  ·exact e
theorem Wi(F:Fr→Ax→Option (Ex×Fr×Ax)){n:Nat}{f:Fr}{h:Ax}{r:Ex×Fr×Ax}(e:Q0 F n f h=some r):lp F f h=some r:=by
 unfold lp
 have x: ∃n,(Q0 F n f h).isSome=true:=⟨n,by rw[e];rfl⟩
 rw[dif_pos x]
 have hc:=Classical.choose_spec x
 cases hr:Q0 F (Classical.choose x) f h with
 |none=>rw[hr]at hc;simp at hc
 |some r'=>
  have h1:=eC F _ _ _ _ e (max n (Classical.choose x)) (by omega)
  have h2:=eC F _ _ _ _ hr (max n (Classical.choose x)) (by omega)
  rw[h1]at h2
  exact h2.symm
theorem eB{F:Fr→Ax→Option (Ex×Fr×Ax)}{f:Fr}{h:Ax}{r:Ex×Fr×Ax}(e:lp F f h=some r): ∃n,Q0 F n f h=some r:=by
 unfold lp at e
 split at e
 ·exact⟨_,e⟩
 ·simp at e
theorem lp_eq(F:Fr→Ax→Option (Ex×Fr×Ax))(f:Fr)(h:Ax):
  lp F f h=match F f h with
   |some (.normal,f',h')=>lp F f' h'
   |r=>r:=by
 cases hF:F f h with
 |none=>
  simp only
  cases hl:lp F f h with
  |none=>rfl
  |some r=>
   obtain⟨n,hn⟩:=eB hl
   cases n with
   |zero=>simp[Q0]at hn
   |succ n=>simp[Q0,hF]at hn
 |some r=>
  obtain⟨e,f',h'⟩:=r
  cases e with
  |normal=>
   simp only
   cases hl:lp F f' h' with
   |some r=>
    obtain⟨n,hn⟩:=eB hl
    exact Wi F (n:=n+1) (by simp[Q0,hF,hn])
   |none=>
    cases hl':lp F f h with
    |none=>rfl
    |some r=>
     obtain⟨n,hn⟩:=eB hl'
     cases n with
     |zero=>simp[Q0]at hn
     |succ n=>
      simp[Q0,hF]at hn
      rw[Wi F hn]at hl
      simp at hl
  |exit id=>exact Wi F (n:=1) (by simp[Q0,hF])
  |ret=>exact Wi F (n:=1) (by simp[Q0,hF])
def Below(c d:Nat→List AV→Ax→Lb):Prop:= ∀f a h r,c f a h=some r→d f a h=some r
theorem Sl{tb:Dg}{c d:Nat→List AV→Ax→Lb}(b:Below c d){h:Ax}{f:Nat}{a:List AV}{r:AV×Option Ax}
  (e:B6 tb c h f a=some r):B6 tb d h f a=some r:=by
 unfold B6 at*
 split
 ·rename_i p hp;rw[hp]at e;exact e
 ·rename_i hp;rw[hp]at e;exact b _ _ _ _ e
theorem G2{tb:Dg}{c d:Nat→List AV→Ax→Lb}(b:Below c d){rho:AO→AV}{h:Ax}{o:Im}{r:AV×Option Ax}
  (e:Bz tb c rho h o=some r):Bz tb d rho h o=some r:=by
 cases o<;>first
  |exact e
  |(simp only[Bz]at e ⊢;exact Sl b e)
  |skip
 case callv x xs=>
  simp only[Bz]at e ⊢
  split at e
  ·exact Sl b e
  ·simp at e
theorem dT{tb:Dg}{c d:Nat→List AV→Ax→Lb}(b:Below c d): ∀(l:List Bl) (f:Fr) (h:Ax) (r:Fr×Ax),ops tb c l f h=some r→ops tb d l f h=some r:=by
 intro l
 induction l with
 |nil=>intro f h r e;exact e
 |cons o l ih=>
  intro f h r e
  simp only[ops]at e ⊢
  cases hw:wanted f o.g with
  |none=>rw[hw]at e;simp at e
  |some t=>
   rw[hw]at e
   simp only[Option.bind_some]at e ⊢
   cases t with
   |false=>exact ih _ _ _ e
   |true=>
    simp only[if_true]at e ⊢
    cases ha:Bz tb c (eval tb f) h o.o with
    |none=>rw[ha]at e;simp at e
    |some p=>
     rw[ha]at e
     rw[G2 b ha]
     exact ih _ _ _ e
theorem YG{tb:Dg}{c d:Nat→List AV→Ax→Lb}(b:Below c d)(h:Ax): ∀(l:List Bl) (f:Fr) (r:Fr),Ir tb c h l f=some r→Ir tb d h l f=some r:=by
 intro l
 induction l with
 |nil=>intro f r e;exact e
 |cons o l ih=>
  intro f r e
  simp only[Ir]at e ⊢
  cases hw:wanted f o.g with
  |none=>rw[hw]at e;simp at e
  |some t=>
   rw[hw]at e
   simp only[Option.bind_some]at e ⊢
   cases t with
   |false=>exact ih _ _ e
   |true=>
    simp only[if_true]at e ⊢
    cases ha:Bz tb c (eval tb f) h o.o with
    |none=>rw[ha]at e;simp at e
    |some p=>
     rw[ha]at e
     rw[G2 b ha]
     simp only[Option.bind_some]at e ⊢
     split at e
     ·rename_i hq;rw[if_pos hq];exact ih _ _ e
     ·simp at e
theorem QZ{tb:Dg}{c d:Nat→List AV→Ax→Lb}(b:Below c d): ∀(l:List Bl) (w:List (Option (Nat×Nat))) (f:Fr) (h:Ax) (r:List Ax),
  Ik tb c l w f h=some r→Ik tb d l w f h=some r:=by
 intro l
 induction l with
 |nil=>intro w f h r e;exact e
 |cons o l ih=>
  intro w f h r e
  simp only[Ik]at e ⊢
  cases hw:wanted f o.g with
  |none=>rw[hw]at e;simp at e
  |some t=>
   rw[hw]at e
   simp only[Option.bind_some]at e ⊢
   cases t with
   |false=>
    simp only[Bool.false_eq_true,if_false]at e ⊢
    cases hh:Ik tb c l w.tail (put f o.d (.tup [])) h with
    |none=>rw[hh]at e;simp at e
    |some r'=>rw[hh]at e;rw[ih _ _ _ _ hh];exact e
   |true=>
    simp only[if_true]at e ⊢
    cases ha:Bz tb c (eval tb f) h o.o with
    |none=>rw[ha]at e;simp at e
    |some p=>
     rw[ha]at e
     rw[G2 b ha]
     simp only[Option.bind_some]at e ⊢
     cases hh:Ik tb c l w.tail (put f o.d p.1) (p.2.getD h)with
     |none=>rw[hh]at e;simp at e
     |some r'=>rw[hh]at e;rw[ih _ _ _ _ hh];exact e
theorem PG{tb:Dg}{c d:Nat→List AV→Ax→Lb}(b:Below c d)(hs:List Ax): ∀(l:List Bl) (w:List (Option (Nat×Nat))) (k:Nat) (f:Fr) (r:Fr),
  J6 tb c hs l w k f=some r→J6 tb d hs l w k f=some r:=by
 intro l
 induction l with
 |nil=>intro w k f r e;exact e
 |cons o l ih=>
  intro w k f r e
  simp only[J6]at e ⊢
  cases hw:wanted f o.g with
  |none=>rw[hw]at e;simp at e
  |some t=>
   rw[hw]at e
   simp only[Option.bind_some]at e ⊢
   cases t with
   |false=>
    simp only[Bool.false_eq_true,if_false]at e ⊢
    cases w with
    |nil=>simp at e
    |cons x w=>
     cases x with
     |none=>
      simp only at e ⊢
      split at e
      ·rename_i hq;rw[if_pos hq];exact ih _ _ _ _ e
      ·simp at e
     |some y=>exact ih _ _ _ _ e
   |true=>
    simp only[if_true]at e ⊢
    cases hk:hs[k]? with
    |none=>rw[hk]at e;simp at e
    |some h=>
     rw[hk]at e
     simp only[Option.bind_some]at e ⊢
     cases ha:Bz tb c (eval tb f) h o.o with
     |none=>rw[ha]at e;simp at e
     |some p=>
      rw[ha]at e
      rw[G2 b ha]
      simp only[Option.bind_some]at e ⊢
      cases w with
      |nil=>simp at e
      |cons x w=>
       cases x with
       |none=>
        simp only at e ⊢
        split at e
        ·rename_i hq;rw[if_pos hq];exact ih _ _ _ _ e
        ·simp at e
       |some y=>
        obtain⟨lo,hi⟩:=y
        simp only at e ⊢
        split at e
        ·rename_i hq
         rw[if_pos]
         ·exact ih _ _ _ _ e
         ·simp only[List.all_eq_true,decide_eq_true_eq]at hq ⊢
          intro j hj
          obtain⟨u,hu,hu'⟩:=hq j hj
          refine⟨u,?_,hu'⟩
          cases hj':hs[j]? with
          |none=>rw[hj']at hu;simp at hu
          |some h'=>rw[hj']at hu;exact G2 b hu
        ·simp at e
theorem uQ{F G:Fr→Ax→Option (Ex×Fr×Ax)}(b: ∀f h r,F f h=some r→G f h=some r): ∀(n:Nat) (f:Fr) (h:Ax) (r:Ex×Fr×Ax),Q0 F n f h=some r→Q0 G n f h=some r:=by
 intro n
 induction n with
 |zero=>intro f h r e;simp[Q0]at e
 |succ n ih=>
  intro f h r e
  simp only[Q0]at e ⊢
  cases hF:F f h with
  |none=>rw[hF]at e;simp at e
  |some r'=>
   rw[hF]at e
   rw[b _ _ _ hF]
   obtain⟨x,f',h'⟩:=r'
   cases x with
   |normal=>exact ih _ _ _ e
   |exit id=>exact e
   |ret=>exact e
theorem PM{tb:Dg}{c d:Nat→List AV→Ax→Lb}(b:Below c d): ∀(x:AC) (f:Fr) (h:Ax) (r:Ex×Fr×Ax),Bc tb c x f h=some r→Bc tb d x f h=some r:=by
 intro x
 induction x with
 |skip=>intro f h r e;exact e
 |reg l=>
  intro f h r e
  simp only[Bc]at e ⊢
  cases ho:ops tb c l f h with
  |none=>rw[ho]at e;simp at e
  |some p=>rw[ho]at e;rw[dT b _ _ _ _ ho];exact e
 |regq l=>
  intro f h r e
  simp only[Bc]at e ⊢
  cases ho:Ir tb c h l f with
  |none=>rw[ho]at e;simp at e
  |some p=>rw[ho]at e;rw[YG b h _ _ _ ho];exact e
 |regd l w=>
  intro f h r e
  simp only[Bc]at e ⊢
  cases ho:Ik tb c l w f h with
  |none=>rw[ho]at e;simp at e
  |some hs=>
   rw[ho]at e
   rw[QZ b _ _ _ _ _ ho]
   simp only[Option.bind_some]at e ⊢
   cases hd:J6 tb c (h::hs.tail) l w 0 f with
   |none=>rw[hd]at e;simp at e
   |some f'=>rw[hd]at e;rw[PG b _ _ _ _ _ _ hd];exact e
 |seq x y ihx ihy=>
  intro f h r e
  simp only[Bc]at e ⊢
  cases hx:Bc tb c x f h with
  |none=>rw[hx]at e;simp at e
  |some p=>
   rw[hx]at e
   rw[ihx _ _ _ hx]
   obtain⟨q,f',h'⟩:=p
   cases q with
   |normal=>exact ihy _ _ _ e
   |exit id=>exact e
   |ret=>exact e
 |cond o x y ihx ihy=>
  intro f h r e
  simp only[Bc]at e ⊢
  split at e
  ·rename_i t ht
   split at e
   ·rename_i hh;simp only[hh,if_true];exact ihx _ _ _ e
   ·rename_i hh;simp only[hh];exact ihy _ _ _ e
  ·simp at e
 |blk id x ih=>
  intro f h r e
  simp only[Bc]at e ⊢
  cases hx:Bc tb c x f h with
  |none=>rw[hx]at e;simp at e
  |some p=>rw[hx]at e;rw[ih _ _ _ hx];exact e
 |loop Bi x ih=>
  intro f h r e
  simp only[Bc]at e ⊢
  obtain⟨n,hn⟩:=eB e
  refine Wi _ (n:=n) (uQ ?_ n f h r hn)
  intro f h r e
  simp only[K4]at e ⊢
  cases hx:Bc tb c x (keepL Bi f) h with
  |none=>rw[hx]at e;simp at e
  |some p=>rw[hx]at e;rw[ih _ _ _ hx];exact e
 |exit id=>intro f h r e;exact e
 |ret=>intro f h r e;exact e
 |scope x ih=>intro f h r e;exact ih f h r e
 |stop=>intro f h r e;simp[Bc]at e
 |keep Bi x ih=>
  intro f h r e
  simp only[Bc]at e ⊢
  cases hx:Bc tb c x f h with
  |none=>rw[hx]at e;simp at e
  |some p=>rw[hx]at e;rw[ih _ _ _ hx];exact e
theorem Ze{tb:Dg}{c d:Nat→List AV→Ax→Lb}(b:Below c d){fn:D7}{a:List AV}{h:Ax}{r:AV×Option Ax}
  (e:body tb c fn a h=some r):body tb d fn a h=some r:=by
 simp only[body]at e ⊢
 split at e
 ·rename_i hn
  rw[if_pos hn]
  cases hx:Bc tb c fn.body (a.zipIdx.map fun p=>(p.2,p.1)) h with
  |none=>rw[hx]at e;simp at e
  |some p=>rw[hx]at e;rw[PM b _ _ _ _ hx];exact e
 ·simp at e
theorem sH(tb:Dg): ∀n,Below (run tb n) (run tb (n+1)):=by
 intro n
 induction n with
 |zero=>intro f a h r e;simp[run]at e
 |succ n ih=>
  intro f a h r e
  rw[run]at e ⊢
  cases hf:tb.fns f with
  |none=>rw[hf]at e;simp at e
  |some fn=>rw[hf]at e;exact Ze ih e
theorem D8(tb:Dg){n m:Nat}(h:n≤m):Below (run tb n) (run tb m):=by
 induction m with
 |zero=>obtain rfl:n=0:=(by omega);exact fun _ _ _ _ e=>e
 |succ m ih=>
  by_cases hn:n=m+1
  ·subst hn;exact fun _ _ _ _ e=>e
  ·exact fun f a x r e=>sH tb m _ _ _ _ (ih (by omega) f a x r e)
theorem wI{tb:Dg}{n f:Nat}{a:List AV}{h:Ax}{r:AV×Option Ax}(e:run tb n f a h=some r):C1 tb f a h=some r:=by
 unfold C1
 have x: ∃n,(run tb n f a h).isSome=true:=⟨n,by rw[e];rfl⟩
 rw[dif_pos x]
 have hc:=Classical.choose_spec x
 cases hr:run tb (Classical.choose x) f a h with
 |none=>rw[hr]at hc;simp at hc
 |some r'=>
  have h1:=D8 tb (Nat.le_max_left n (Classical.choose x)) _ _ _ _ e
  have h2:=D8 tb (Nat.le_max_right n (Classical.choose x)) _ _ _ _ hr
  rw[h1]at h2
  exact h2.symm
theorem lP{tb:Dg}{f:Nat}{a:List AV}{h:Ax}{r:AV×Option Ax}(e:C1 tb f a h=some r): ∃n,run tb n f a h=some r:=by
 unfold C1 at e
 split at e
 ·exact⟨_,e⟩
 ·simp at e
theorem oY(tb:Dg)(n:Nat):Below (run tb n) (C1 tb):=fun _ _ _ _ e=>wI e
theorem Sy{tb:Dg}{rho:AO→AV}{h:Ax}{o:Im}{r:AV×Option Ax}(e:Bz tb (C1 tb) rho h o=some r): ∃n,Bz tb (run tb n) rho h o=some r:=by
 have hc: ∀f a,B6 tb (C1 tb) h f a=some r→ ∃n,B6 tb (run tb n) h f a=some r:=by
  intro f a e
  unfold B6 at*
  cases hp:tb.prim f with
  |some p=>rw[hp]at e;exact⟨0,e⟩
  |none=>rw[hp]at e;exact lP e
 cases o<;>first
  |exact⟨0,e⟩
  |(simp only[Bz]at e ⊢;exact hc _ _ e)
  |skip
 case callv x xs=>
  simp only[Bz]at e ⊢
  split at e
  ·exact hc _ _ e
  ·simp at e
theorem zL{tb:Dg}: ∀(l:List Bl) (f:Fr) (h:Ax) (r:Fr×Ax),ops tb (C1 tb) l f h=some r→ ∃n,ops tb (run tb n) l f h=some r:=by
 intro l
 induction l with
 |nil=>intro f h r e;exact⟨0,e⟩
 |cons o l ih=>
  intro f h r e
  simp only[ops]at e ⊢
  cases hw:wanted f o.g with
  |none=>rw[hw]at e;simp at e
  |some t=>
   rw[hw]at e
   simp only[Option.bind_some]at e ⊢
   cases t with
   |false=>exact ih _ _ _ e
   |true=>
    simp only[if_true]at e ⊢
    cases ha:Bz tb (C1 tb) (eval tb f) h o.o with
    |none=>rw[ha]at e;simp at e
    |some p=>
     rw[ha]at e
     obtain⟨n,hn⟩:=Sy ha
     obtain⟨m,hm⟩:=ih _ _ _ e
     refine⟨max n m,?_⟩
     rw[G2 (D8 tb (Nat.le_max_left n m)) hn]
     exact dT (D8 tb (Nat.le_max_right n m)) _ _ _ _ hm
theorem sY{tb:Dg}(h:Ax): ∀(l:List Bl) (f:Fr) (r:Fr),Ir tb (C1 tb) h l f=some r→ ∃n,Ir tb (run tb n) h l f=some r:=by
 intro l
 induction l with
 |nil=>intro f r e;exact⟨0,e⟩
 |cons o l ih=>
  intro f r e
  simp only[Ir]at e ⊢
  cases hw:wanted f o.g with
  |none=>rw[hw]at e;simp at e
  |some t=>
   rw[hw]at e
   simp only[Option.bind_some]at e ⊢
   cases t with
   |false=>exact ih _ _ e
   |true=>
    simp only[if_true]at e ⊢
    cases ha:Bz tb (C1 tb) (eval tb f) h o.o with
    |none=>rw[ha]at e;simp at e
    |some p=>
     rw[ha]at e
     obtain⟨n,hn⟩:=Sy ha
     simp only[Option.bind_some]at e
     split at e
     ·rename_i hq
      obtain⟨m,hm⟩:=ih _ _ e
      refine⟨max n m,?_⟩
      rw[G2 (D8 tb (Nat.le_max_left n m)) hn]
      simp only[Option.bind_some]
      rw[if_pos hq]
      exact YG (D8 tb (Nat.le_max_right n m)) h _ _ _ hm
     ·simp at e
theorem qI{tb:Dg}: ∀(l:List Bl) (w:List (Option (Nat×Nat))) (f:Fr) (h:Ax) (r:List Ax),Ik tb (C1 tb) l w f h=some r→ ∃n,Ik tb (run tb n) l w f h=some r:=by
 intro l
 induction l with
 |nil=>intro w f h r e;exact⟨0,e⟩
 |cons o l ih=>
  intro w f h r e
  simp only[Ik]at e ⊢
  cases hw:wanted f o.g with
  |none=>rw[hw]at e;simp at e
  |some t=>
   rw[hw]at e
   simp only[Option.bind_some]at e ⊢
   cases t with
   |false=>
    simp only[Bool.false_eq_true,if_false]at e ⊢
    cases hh:Ik tb (C1 tb) l w.tail (put f o.d (.tup [])) h with
    |none=>rw[hh]at e;simp at e
    |some r'=>
     rw[hh]at e
     obtain⟨n,hn⟩:=ih _ _ _ _ hh
     exact⟨n,by rw[hn];exact e⟩
   |true=>
    simp only[if_true]at e ⊢
    cases ha:Bz tb (C1 tb) (eval tb f) h o.o with
    |none=>rw[ha]at e;simp at e
    |some p=>
     rw[ha]at e
     obtain⟨n,hn⟩:=Sy ha
     simp only[Option.bind_some]at e
     cases hh:Ik tb (C1 tb) l w.tail (put f o.d p.1) (p.2.getD h)with
     |none=>rw[hh]at e;simp at e
     |some r'=>
      rw[hh]at e
      obtain⟨m,hm⟩:=ih _ _ _ _ hh
      refine⟨max n m,?_⟩
      rw[G2 (D8 tb (Nat.le_max_left n m)) hn]
      simp only[Option.bind_some]
      rw[QZ (D8 tb (Nat.le_max_right n m)) _ _ _ _ _ hm]
      exact e
theorem all_den{tb:Dg}{f:Fr}{o:Im}{v:AV}(hs:List Ax): ∀(l:List Nat),
  (∀j∈l,∃u,(hs[j]?).bind (fun h=>Bz tb (C1 tb) (eval tb f) h o)=some (v,u)∧some (u.getD (hs[j]?.getD []))=hs[j]?)→
  ∃n,∀j∈l,∃u,(hs[j]?).bind (fun h=>Bz tb (run tb n) (eval tb f) h o)=some (v,u)∧some (u.getD (hs[j]?.getD []))=hs[j]? :=by
 intro l
 induction l with
 |nil=>intro _;exact⟨0,fun j hj=>by cases hj⟩
 |cons j l ih=>
  intro H
  obtain⟨n,hn⟩:=ih fun j hj=>H j (List.mem_cons_of_mem _ hj)
  obtain⟨u,hu,hu'⟩:=H j List.mem_cons_self
  cases hj:hs[j]? with
  |none=>rw[hj]at hu;simp at hu
  |some h=>
   rw[hj]at hu
   obtain⟨m,hm⟩:=Sy hu
   refine⟨max n m,?_⟩
   intro i hi
   rcases List.mem_cons.1 hi with e|hi
   ·subst e
    refine⟨u,?_,hu'⟩
    rw[hj]
    exact G2 (D8 tb (Nat.le_max_right n m)) hm
   ·obtain⟨u',h1,h2⟩:=hn i hi
    refine⟨u',?_,h2⟩
    cases hi':hs[i]? with
    |none=>rw[hi']at h1;simp at h1
    |some h'=>rw[hi']at h1;exact G2 (D8 tb (Nat.le_max_left n m)) h1
theorem sZ{tb:Dg}(hs:List Ax): ∀(l:List Bl) (w:List (Option (Nat×Nat))) (k:Nat) (f:Fr) (r:Fr),J6 tb (C1 tb) hs l w k f=some r→ ∃n,J6 tb (run tb n) hs l w k f=some r:=by
 intro l
 induction l with
 |nil=>intro w k f r e;exact⟨0,e⟩
 |cons o l ih=>
  intro w k f r e
  simp only[J6]at e ⊢
  cases hw:wanted f o.g with
  |none=>rw[hw]at e;simp at e
  |some t=>
   rw[hw]at e
   simp only[Option.bind_some]at e ⊢
   cases t with
   |false=>
    simp only[Bool.false_eq_true,if_false]at e ⊢
    cases w with
    |nil=>simp at e
    |cons x w=>
     cases x with
     |none=>
      simp only at e ⊢
      split at e
      ·rename_i hq;simp only[if_pos hq];exact ih _ _ _ _ e
      ·simp at e
     |some y=>exact ih _ _ _ _ e
   |true=>
    simp only[if_true]at e ⊢
    cases hk:hs[k]? with
    |none=>rw[hk]at e;simp at e
    |some h=>
     rw[hk]at e
     simp only[Option.bind_some]at e ⊢
     cases ha:Bz tb (C1 tb) (eval tb f) h o.o with
     |none=>rw[ha]at e;simp at e
     |some p=>
      rw[ha]at e
      obtain⟨n,hn⟩:=Sy ha
      simp only[Option.bind_some]at e ⊢
      cases w with
      |nil=>simp at e
      |cons x w=>
       cases x with
       |none=>
        simp only at e ⊢
        split at e
        ·rename_i hq
         obtain⟨m,hm⟩:=ih _ _ _ _ e
         refine⟨max n m,?_⟩
         rw[G2 (D8 tb (Nat.le_max_left n m)) hn]
         simp only[Option.bind_some]
         rw[if_pos hq]
         exact PG (D8 tb (Nat.le_max_right n m)) hs _ _ _ _ _ hm
        ·simp at e
       |some y=>
        obtain⟨lo,hi⟩:=y
        simp only at e ⊢
        split at e
        ·rename_i hq
         obtain⟨m,hm⟩:=ih _ _ _ _ e
         simp only[List.all_eq_true,decide_eq_true_eq]at hq
         obtain⟨q,hq⟩:=all_den hs _ hq
         refine⟨max n (max m q),?_⟩
         rw[G2 (D8 tb (Nat.le_max_left n (max m q))) hn]
         simp only[Option.bind_some]
         rw[if_pos]
         ·exact PG (D8 tb (Nat.le_trans (Nat.le_max_left m q) (Nat.le_max_right n _))) hs _ _ _ _ _ hm
         ·simp only[List.all_eq_true,decide_eq_true_eq]
          intro j hj
          obtain⟨u,hu,hu'⟩:=hq j hj
          refine⟨u,?_,hu'⟩
          cases hj':hs[j]? with
          |none=>rw[hj']at hu;simp at hu
          |some h'=>rw[hj']at hu;exact G2 (D8 tb (Nat.le_trans (Nat.le_max_right m q) (Nat.le_max_right n _))) hu
        ·simp at e
theorem zW{F:Nat→Fr→Ax→Option (Ex×Fr×Ax)}{G:Fr→Ax→Option (Ex×Fr×Ax)}(hm: ∀n m,n≤m→ ∀f h r,F n f h=some r→F m f h=some r)
  (hG: ∀f h r,G f h=some r→ ∃n,F n f h=some r): ∀(k:Nat) (f:Fr) (h:Ax) (r:Ex×Fr×Ax),Q0 G k f h=some r→ ∃n,Q0 (F n) k f h=some r:=by
 intro k
 induction k with
 |zero=>intro f h r e;simp[Q0]at e
 |succ k ih=>
  intro f h r e
  simp only[Q0]at e ⊢
  cases hx:G f h with
  |none=>rw[hx]at e;simp at e
  |some p=>
   rw[hx]at e
   obtain⟨n,hn⟩:=hG _ _ _ hx
   obtain⟨q,f',h'⟩:=p
   cases q with
   |normal=>
    obtain⟨m,hm'⟩:=ih _ _ _ e
    refine⟨max n m,?_⟩
    rw[hm n _ (Nat.le_max_left n m) _ _ _ hn]
    exact uQ (hm m _ (Nat.le_max_right n m)) _ _ _ _ hm'
   |exit id=>exact⟨n,by rw[hn];exact e⟩
   |ret=>exact⟨n,by rw[hn];exact e⟩
theorem vY{tb:Dg}: ∀(x:AC) (f:Fr) (h:Ax) (r:Ex×Fr×Ax),Bc tb (C1 tb) x f h=some r→ ∃n,Bc tb (run tb n) x f h=some r:=by
 intro x
 induction x with
 |skip=>intro f h r e;exact⟨0,e⟩
 |reg l=>
  intro f h r e
  simp only[Bc]at e ⊢
  cases ho:ops tb (C1 tb) l f h with
  |none=>rw[ho]at e;simp at e
  |some p=>
   rw[ho]at e
   obtain⟨n,hn⟩:=zL _ _ _ _ ho
   exact⟨n,by rw[hn];exact e⟩
 |regq l=>
  intro f h r e
  simp only[Bc]at e ⊢
  cases ho:Ir tb (C1 tb) h l f with
  |none=>rw[ho]at e;simp at e
  |some p=>
   rw[ho]at e
   obtain⟨n,hn⟩:=sY h _ _ _ ho
   exact⟨n,by rw[hn];exact e⟩
 |regd l w=>
  intro f h r e
  simp only[Bc]at e ⊢
  cases ho:Ik tb (C1 tb) l w f h with
  |none=>rw[ho]at e;simp at e
  |some hs=>
   rw[ho]at e
   simp only[Option.bind_some]at e
   obtain⟨n,hn⟩:=qI _ _ _ _ _ ho
   cases hd:J6 tb (C1 tb) (h::hs.tail) l w 0 f with
   |none=>rw[hd]at e;simp at e
   |some f'=>
    rw[hd]at e
    obtain⟨m,hm⟩:=sZ _ _ _ _ _ _ hd
    refine⟨max n m,?_⟩
    rw[QZ (D8 tb (Nat.le_max_left n m)) _ _ _ _ _ hn]
    simp only[Option.bind_some]
    rw[PG (D8 tb (Nat.le_max_right n m)) _ _ _ _ _ _ hm]
    exact e
 |seq x y ihx ihy=>
  intro f h r e
  simp only[Bc]at e ⊢
  cases hx:Bc tb (C1 tb) x f h with
  |none=>rw[hx]at e;simp at e
  |some p=>
   rw[hx]at e
   obtain⟨n,hn⟩:=ihx _ _ _ hx
   obtain⟨q,f',h'⟩:=p
   cases q with
   |normal=>
    obtain⟨m,hm⟩:=ihy _ _ _ e
    refine⟨max n m,?_⟩
    rw[PM (D8 tb (Nat.le_max_left n m)) _ _ _ _ hn]
    exact PM (D8 tb (Nat.le_max_right n m)) _ _ _ _ hm
   |exit id=>exact⟨n,by rw[hn];exact e⟩
   |ret=>exact⟨n,by rw[hn];exact e⟩
 |cond o x y ihx ihy=>
  intro f h r e
  simp only[Bc]at e ⊢
  split at e
  ·rename_i t ht
   split at e
   ·rename_i hh;simp only[hh,if_true];exact ihx _ _ _ e
   ·rename_i hh;simp only[hh];exact ihy _ _ _ e
  ·simp at e
 |blk id x ih=>
  intro f h r e
  simp only[Bc]at e ⊢
  cases hx:Bc tb (C1 tb) x f h with
  |none=>rw[hx]at e;simp at e
  |some p=>
   rw[hx]at e
   obtain⟨n,hn⟩:=ih _ _ _ hx
   exact⟨n,by rw[hn];exact e⟩
 |loop Bi x ih=>
  intro f h r e
  simp only[Bc]at e ⊢
  obtain⟨k,hk⟩:=eB e
  have hm: ∀n m,n≤m→ ∀f h r,K4 Bi (Bc tb (run tb n) x) f h=some r→K4 Bi (Bc tb (run tb m) x) f h=some r:=by
   intro n m hnm f h r e
   simp only[K4]at e ⊢
   cases hx:Bc tb (run tb n) x (keepL Bi f) h with
   |none=>rw[hx]at e;simp at e
   |some p=>rw[hx]at e;rw[PM (D8 tb hnm) _ _ _ _ hx];exact e
  have hg: ∀f h r,K4 Bi (Bc tb (C1 tb) x) f h=some r→ ∃n,K4 Bi (Bc tb (run tb n) x) f h=some r:=by
   intro f h r e
   simp only[K4]at e ⊢
   cases hx:Bc tb (C1 tb) x (keepL Bi f) h with
   |none=>rw[hx]at e;simp at e
   |some p=>
    rw[hx]at e
    obtain⟨n,hn⟩:=ih _ _ _ hx
    exact⟨n,by rw[hn];exact e⟩
  obtain⟨n,hn⟩:=zW (F:=fun n=>K4 Bi (Bc tb (run tb n) x)) hm hg _ _ _ _ hk
  exact⟨n,Wi _ hn⟩
 |exit id=>intro f h r e;exact⟨0,e⟩
 |ret=>intro f h r e;exact⟨0,e⟩
 |scope x ih=>intro f h r e;exact ih f h r e
 |stop=>intro f h r e;simp[Bc]at e
 |keep Bi x ih=>
  intro f h r e
  simp only[Bc]at e ⊢
  cases hx:Bc tb (C1 tb) x f h with
  |none=>rw[hx]at e;simp at e
  |some p=>
   rw[hx]at e
   obtain⟨n,hn⟩:=ih _ _ _ hx
   exact⟨n,by rw[hn];exact e⟩
theorem Pv(tb:Dg)(f:Nat)(a:List AV)(h:Ax):C1 tb f a h=(tb.fns f).bind fun fn=>body tb (C1 tb) fn a h:=by
 cases hf:tb.fns f with
 |none=>
  cases hd:C1 tb f a h with
  |none=>rfl
  |some r=>
   obtain⟨n,hn⟩:=lP hd
   cases n with
   |zero=>simp[run]at hn
   |succ n=>rw[run,hf]at hn;simp at hn
 |some fn=>
  simp only[Option.bind_some]
  cases hb:body tb (C1 tb) fn a h with
  |some r=>
   have: ∃n,body tb (run tb n) fn a h=some r:=by
    simp only[body]at hb ⊢
    split at hb
    ·rename_i hn
     simp only[if_pos hn]
     cases hx:Bc tb (C1 tb) fn.body (a.zipIdx.map fun p=>(p.2,p.1)) h with
     |none=>rw[hx]at hb;simp at hb
     |some p=>
      rw[hx]at hb
      obtain⟨n,hn⟩:=vY _ _ _ _ hx
      exact⟨n,by rw[hn];exact hb⟩
    ·simp at hb
   obtain⟨n,hn⟩:=this
   exact wI (n:=n+1) (by rw[run,hf];exact hn)
  |none=>
   cases hd:C1 tb f a h with
   |none=>rfl
   |some r=>
    obtain⟨n,hn⟩:=lP hd
    cases n with
    |zero=>simp[run]at hn
    |succ n=>
     rw[run,hf]at hn
     have:=Ze (oY tb n) hn
     rw[hb]at this
     simp at this
end Go.Proofs.YtobejhpigbllpaaGreatDoor.Am
namespace Go.Proofs.YtobejhpigbllpaaGreatDoor.Am
structure Place where
 blk:Nat
 base:Nat
 size:Nat
structure D4 where
 φ:Nat→Place
 H:Ax
 w:World
def D4.own(C:D4)(b:Nat):Prop:= ∃id,id<C.H.length∧(C.φ id).blk=b
def DY(w:World)(b base:Nat)(vs:List Value):Prop:= ∀(j:Nat) (v:Value),vs[j]? =some v→w.cell? ⟨b,base+j,none⟩=some v
def scal:AV→Bool
 | .agg _=>false
 | .tup _=>false
 | .junk=>false
 |_=>true
def Rd:BW→Bool
 | .row _ _ _ _=>false
 |_=>true
mutual
def Gc(C:D4):AV→Value→Prop
 | .b x,v=>v= .bool x
 | .i k n,v=>v= .int k n
 | .s l,v=>v= .string ⟨l.toArray⟩
 | .agg cs,v=> ∃vs:List Value,v= .agg vs.toArray∧cs.all scal=true∧Bg C cs vs
 | .tup cs,v=> ∃vs:List Value,v= .tuple vs.toArray∧Bg C cs vs
 | .nilp,v=>v= .pointer none
 | .ptr id off,v=>(∃o,C.H[id]? =some o∧Rd o=true)∧v= .pointer (some ⟨(C.φ id).blk,off,none⟩)
 | .pe id n i off,v=>(∃p,v= .pointer (some p))∧ ∃fz sz els,rowAt C.H id=some (fz,sz,els)∧n≤els.length∧
   (n=els.length→v= .pointer (some ⟨(C.φ id).blk,(C.φ id).base+i*sz+off,none⟩))
 | .ip cs off,v=> ∃b base vs,v= .pointer (some ⟨b,base+off,none⟩)∧b<C.w.heap.size∧ ¬C.own b∧DY C.w b base vs∧cs.all scal=true∧Bg C cs vs
 | .nils,v=>v= .slice none 0 0
 | .sl sz els,v=>(∃b base cap vss,v= .slice (some ⟨b,base,none⟩) els.length cap∧els.length≤cap∧b<C.w.heap.size∧ ¬C.own b∧
   DY C.w b base vss.flatten∧(∀e∈els,e.length=sz∧e.all scal=true)∧AY C els vss)∨(els=[]∧ ∃p cap,v= .slice (some p) 0 cap)
 | .orow id n lo len,v=>(∃p c,v= .slice (some p) len c)∧ ∃fz sz els,rowAt C.H id=some (fz,sz,els)∧n≤els.length∧
   (n=els.length→lo+len≤n∧ ∃off cap,v= .slice (some ⟨(C.φ id).blk,off,none⟩) len cap∧len≤cap∧(0<len→off=(C.φ id).base+lo*sz)∧off+cap*sz≤(C.φ id).size∧(C.φ id).base≤off)
 | .ocel sz id off len,v=>(∃o,C.H[id]? =some o∧Rd o=true)∧ ∃o cap,v= .slice (some ⟨(C.φ id).blk,o,none⟩) len cap∧len≤cap∧(0<len→o=off)∧0<sz
 | .nilm,v=>v= .map none
 | .mp id,v=>(∃o,C.H[id]? =some o∧Rd o=true)∧v= .map (some (C.φ id).blk)
 | .nilf,v=>v= .nilFunc
 | .fn f a b,v=> ∃x y:List Value,v= .func f x.toArray y.toArray∧Bg C a x∧Bg C b y
 | .nili,v=>v= .nilIface
 | .ifc _ a,v=> ∃u x,v= .iface u x∧Gc C a x
 | .junk,_=>True
def Bg(C:D4):List AV→List Value→Prop
 |[],vs=>vs=[]
 |a::r,vs=> ∃v q,vs=v::q∧Gc C a v∧Bg C r q
def AY(C:D4):List (List AV)→List (List Value)→Prop
 |[],vss=>vss=[]
 |a::r,vss=> ∃v q,vss=v::q∧Bg C a v∧AY C r q
end
def Obj(C:D4)(p:Place):BW→Prop
 | .cells l cs=> ∃(vs:List Value) (arr:Array Value) (e:TypeId) (fr:Nat×Nat),(C.w.heap[p.blk]? =some (.cells arr e fr)∧ ∀k,l=some k→e=k)∧arr.size=cs.length∧cs.all scal=true∧Bg C cs vs∧
   DY C.w p.blk 0 vs∧(∀o,o<cs.length→C.w.frozen? ⟨p.blk,o,none⟩=false)
 | .row l fz sz els=> ∃(vss:List (List Value)) (arr:Array Value) (e:TypeId) (fr:Nat×Nat),(C.w.heap[p.blk]? =some (.cells arr e fr)∧fr.1≤fr.2∧ ∀k,l=some k→e=k)∧arr.size=p.size∧0<sz∧
   (∀x∈els,x.length=sz∧x.all scal=true)∧AY C els vss∧p.base+els.length*sz≤p.size∧DY C.w p.blk p.base vss.flatten∧
   (fz=false→ ∀o,o<p.size→C.w.frozen? ⟨p.blk,o,none⟩=false)∧(fz=false→ ∀o,p.base+els.length*sz≤o→o<p.size→C.w.frozen? ⟨p.blk,o,none⟩=false)
 | .map es=> ∃(ms:List MapEntry) (clock:Nat),C.w.heap[p.blk]? =some (.map ms.toArray clock)∧Bg C (es.map (·.1)) (ms.map (·.key))∧Bg C (es.map (·.2)) (ms.map (·.val))
 | .iter l pos=>C.w.heap[p.blk]? =some (.stringIter ⟨l.toArray⟩ pos)
structure Inv(tb:Dg)(C:D4):Prop where
 obj: ∀id o,C.H[id]? =some o→Obj C (C.φ id) o
 inj: ∀i j,i<C.H.length→j<C.H.length→(C.φ i).blk=(C.φ j).blk→i=j
 lt: ∀i,i<C.H.length→(C.φ i).blk<C.w.heap.size
 gl: ∀g cs,tb.gl g=some cs→g<C.w.heap.size∧ ¬C.own g∧cs.all scal=true∧ ∃vs,DY C.w g 0 vs∧Bg C cs vs
 it: ∀g∈tb.it,¬C.own g∧ ∃m:Int,C.w.cell? ⟨g,0,none⟩=some (.int .i64 m)
def Rest(w w':World):Prop:=w'.os=w.os∧w'.tape=w.tape∧w'.output=w.output
structure KM(C D:D4):Prop where
 rest:Rest C.w D.w
 size:C.w.heap.size≤D.w.heap.size
 len:C.H.length≤D.H.length
 same: ∀b,b<C.w.heap.size→ ¬C.own b→D.w.heap[b]? =C.w.heap[b]? ∧ ¬D.own b
 fixed: ∀id o,C.H[id]? =some o→Rd o=true→(∃o',D.H[id]? =some o'∧Rd o'=true)∧D.φ id=C.φ id
 row: ∀id fz sz els,rowAt C.H id=some (fz,sz,els)→ ∃fz' els',rowAt D.H id=some (fz',sz,els')∧els.length≤els'.length∧(els.length=els'.length→D.φ id=C.φ id)
theorem KM.refl(C:D4):KM C C:=
 ⟨⟨rfl,rfl,rfl⟩,Nat.le_refl _,Nat.le_refl _,fun _ _ h=>⟨rfl,h⟩,fun _ o h f=>⟨⟨o,h,f⟩,rfl⟩,fun _ fz _ els h=>⟨fz,els,h,Nat.le_refl _,fun _=>rfl⟩⟩
theorem KM.trans{C D E:D4}(a:KM C D)(b:KM D E):KM C E:=by
 refine⟨⟨b.rest.1.trans a.rest.1,b.rest.2.1.trans a.rest.2.1,b.rest.2.2.trans a.rest.2.2⟩,Nat.le_trans a.size b.size,Nat.le_trans a.len b.len,?_,?_,?_⟩
 ·intro x hx ho
  obtain⟨h1,h2⟩:=a.same x hx ho
  obtain⟨h3,h4⟩:=b.same x (Nat.lt_of_lt_of_le hx a.size) h2
  exact⟨h3.trans h1,h4⟩
 ·intro id o h f
  obtain⟨⟨o',h',f'⟩,e⟩:=a.fixed id o h f
  obtain⟨h2,e'⟩:=b.fixed id o' h' f'
  exact⟨h2,e'.trans e⟩
 ·intro id fz sz els h
  obtain⟨fz',els',h',l,e⟩:=a.row id fz sz els h
  obtain⟨fz'',els'',h'',l',e'⟩:=b.row id fz' sz els' h'
  exact⟨fz'',els'',h'',Nat.le_trans l l',fun q=>(e' (by omega)).trans (e (by omega))⟩
theorem lt_of_cell{w:World}{b o:Nat}{v:Value}(h:w.cell? ⟨b,o,none⟩=some v):b<w.heap.size:=by
 refine Nat.lt_of_not_le fun hn=> ?_
 simp only[World.cell?]at h
 rw[Array.getElem?_eq_none hn]at h
 cases h
theorem NS{w w':World}{b o:Nat}(h:w'.heap[b]? =w.heap[b]?):w'.cell? ⟨b,o,none⟩=w.cell? ⟨b,o,none⟩:=by
 simp only[World.cell?,h]
theorem DY.same{w w':World}{b base:Nat}{vs:List Value}(h:w'.heap[b]? =w.heap[b]?)(x:DY w b base vs):DY w' b base vs:=
 fun j v e=>by rw[NS h];exact x j v e
mutual
theorem Gc.ext{C D:D4}(X:KM C D): ∀{a:AV} {v:Value},Gc C a v→Gc D a v
 | .b _,_,h=>h
 | .i _ _,_,h=>h
 | .s _,_,h=>h
 | .agg _,_,⟨vs,e,s,h⟩=>⟨vs,e,s,Bg.ext X h⟩
 | .tup _,_,⟨vs,e,h⟩=>⟨vs,e,Bg.ext X h⟩
 | .nilp,_,h=>h
 | .ptr _ _,_,⟨⟨o,h,f⟩,e⟩=>by
  obtain⟨h',e'⟩:=X.fixed _ o h f
  exact⟨h',by rw[e'];exact e⟩
 | .pe _ _ _ _,_,⟨q0,fz,sz,els,h,l,e⟩=>by
  obtain⟨fz',els',h',l',e'⟩:=X.row _ fz sz els h
  exact⟨q0,fz',sz,els',h',by omega,fun q=>by rw[e' (by omega)];exact e (by omega)⟩
 | .ip _ _,_,⟨b,base,vs,e,lt,ho,hh,s,r⟩=>by
  obtain⟨h1,h2⟩:=X.same b lt ho
  exact⟨b,base,vs,e,Nat.lt_of_lt_of_le lt X.size,h2,hh.same h1,s,Bg.ext X r⟩
 | .nils,_,h=>h
 | .sl _ _,_, .inr h=> .inr h
 | .sl _ _,_, .inl ⟨b,base,cap,vss,e,l,lt,ho,hh,s,r⟩=>by
  obtain⟨h1,h2⟩:=X.same b lt ho
  exact .inl ⟨b,base,cap,vss,e,l,Nat.lt_of_lt_of_le lt X.size,h2,hh.same h1,s,AY.ext X r⟩
 | .orow _ _ _ _,_,⟨q0,fz,sz,els,h,l,e⟩=>by
  obtain⟨fz',els',h',l',e'⟩:=X.row _ fz sz els h
  exact⟨q0,fz',sz,els',h',by omega,fun q=>by rw[e' (by omega)];exact e (by omega)⟩
 | .ocel _ _ _ _,_,⟨⟨o,h,f⟩,e⟩=>by
  obtain⟨h',e'⟩:=X.fixed _ o h f
  exact⟨h',by rw[e'];exact e⟩
 | .nilm,_,h=>h
 | .mp _,_,⟨⟨o,h,f⟩,e⟩=>by
  obtain⟨h',e'⟩:=X.fixed _ o h f
  exact⟨h',by rw[e'];exact e⟩
 | .nilf,_,h=>h
 | .fn _ _ _,_,⟨x,y,e,h1,h2⟩=>⟨x,y,e,Bg.ext X h1,Bg.ext X h2⟩
 | .nili,_,h=>h
 | .ifc _ _,_,⟨u,x,e,h⟩=>⟨u,x,e,Gc.ext X h⟩
 | .junk,_,_=>trivial
theorem Bg.ext{C D:D4}(X:KM C D): ∀{l:List AV} {vs:List Value},Bg C l vs→Bg D l vs
 |[],_,h=>h
 |_::_,_,⟨v,q,e,h,r⟩=>⟨v,q,e,Gc.ext X h,Bg.ext X r⟩
theorem AY.ext{C D:D4}(X:KM C D): ∀{l:List (List AV)} {vs:List (List Value)},AY C l vs→AY D l vs
 |[],_,h=>h
 |_::_,_,⟨v,q,e,h,r⟩=>⟨v,q,e,Bg.ext X h,AY.ext X r⟩
end
theorem Ot{tb:Dg}{C D:D4}(I:Inv tb C)(X:KM C D): ∀g∈tb.it,¬D.own g∧ ∃m:Int,D.w.cell? ⟨g,0,none⟩=some (.int .i64 m):=by
 intro g hg
 obtain⟨h1,m,h2⟩:=I.it g hg
 obtain⟨h3,h4⟩:=X.same g (lt_of_cell h2) h1
 exact⟨h4,m,by rw[NS h3];exact h2⟩
def D4.cut(C:D4)(n:Nat):D4:=⟨C.φ,C.H.take n,C.w⟩
theorem PS{C:D4}{n id:Nat}(h:id<n):(C.cut n).H[id]? =C.H[id]? :=by
 simp only[D4.cut];rw[List.getElem?_take];simp[h]
theorem bL{C:D4}{n id:Nat}(h:id<n):rowAt (C.cut n).H id=rowAt C.H id:=by
 simp only[rowAt,PS h]
theorem Iv{H:Ax}{id:Nat}{fz:Bool}{sz:Nat}{els:List (List AV)}(h:rowAt H id=some (fz,sz,els)): ∃t,H[id]? =some (.row t fz sz els)∧E5 H id=t:=by
 simp only[rowAt]at h
 split at h
 ·rename_i t fz' sz' els' e
  cases h
  exact⟨t,e,by simp only[E5,e]⟩
 ·cases h
theorem Np{H:Ax}{id:Nat}{cs:List AV}(h:Cq H id=some cs): ∃t,H[id]? =some (.cells t cs)∧E5 H id=t:=by
 simp only[Cq]at h
 split at h
 ·rename_i t cs' e
  cases h
  exact⟨t,e,by simp only[E5,e]⟩
 ·cases h
theorem sL{H G:Ax}{id:Nat}(h:G[id]? =H[id]?):rowAt G id=rowAt H id:=by simp only[rowAt,h]
theorem jB{H:Ax}{id:Nat}{t:Option Nat}{fz:Bool}{sz:Nat}{els:List (List AV)}(h:H[id]? =some (.row t fz sz els)):rowAt H id=some (fz,sz,els):=by
 simp only[rowAt,h]
theorem PQ{C:D4}{n b:Nat}(h: ¬C.own b): ¬(C.cut n).own b:=by
 rintro⟨id,hl,e⟩
 exact h ⟨id,by simp only[D4.cut,List.length_take]at hl;omega,e⟩
mutual
theorem Gc.cut{C:D4}{n:Nat}: ∀{a:AV} {v:Value},BS a≤n→Gc C a v→Gc (C.cut n) a v
 | .b _,_,_,h=>h
 | .i _ _,_,_,h=>h
 | .s _,_,_,h=>h
 | .agg _,_,m,⟨vs,e,s,h⟩=>⟨vs,e,s,Bg.cut (by simpa [BS]using m) h⟩
 | .tup _,_,m,⟨vs,e,h⟩=>⟨vs,e,Bg.cut (by simpa [BS]using m) h⟩
 | .nilp,_,_,h=>h
 | .ptr _ _,_,m,⟨⟨o,h,f⟩,e⟩=>⟨⟨o,by rw[PS (by simp only[BS]at m;omega)];exact h,f⟩,e⟩
 | .pe _ _ _ _,_,m,⟨q0,fz,sz,els,h,l,e⟩=>⟨q0,fz,sz,els,by rw[bL (by simp only[BS]at m;omega)];exact h,l,e⟩
 | .ip _ _,_,m,⟨b,base,vs,e,lt,ho,hh,s,r⟩=>⟨b,base,vs,e,lt,PQ ho,hh,s,Bg.cut (by simpa [BS]using m) r⟩
 | .nils,_,_,h=>h
 | .sl _ _,_,_, .inr h=> .inr h
 | .sl _ _,_,m, .inl ⟨b,base,cap,vss,e,l,lt,ho,hh,s,r⟩=> .inl ⟨b,base,cap,vss,e,l,lt,PQ ho,hh,s,AY.cut (by simpa [BS]using m) r⟩
 | .orow _ _ _ _,_,m,⟨q0,fz,sz,els,h,l,e⟩=>⟨q0,fz,sz,els,by rw[bL (by simp only[BS]at m;omega)];exact h,l,e⟩
 | .ocel _ _ _ _,_,m,⟨⟨o,h,f⟩,e⟩=>⟨⟨o,by rw[PS (by simp only[BS]at m;omega)];exact h,f⟩,e⟩
 | .nilm,_,_,h=>h
 | .mp _,_,m,⟨⟨o,h,f⟩,e⟩=>⟨⟨o,by rw[PS (by simp only[BS]at m;omega)];exact h,f⟩,e⟩
 | .nilf,_,_,h=>h
 | .fn _ _ _,_,m,⟨x,y,e,h1,h2⟩=>⟨x,y,e,Bg.cut (by simp only[BS]at m;omega) h1,Bg.cut (by simp only[BS]at m;omega) h2⟩
 | .nili,_,_,h=>h
 | .ifc _ _,_,m,⟨u,x,e,h⟩=>⟨u,x,e,Gc.cut (by simpa [BS]using m) h⟩
 | .junk,_,_,_=>trivial
theorem Bg.cut{C:D4}{n:Nat}: ∀{l:List AV} {vs:List Value},Bu l≤n→Bg C l vs→Bg (C.cut n) l vs
 |[],_,_,h=>h
 |_::_,_,m,⟨v,q,e,h,r⟩=>⟨v,q,e,Gc.cut (by simp only[Bu]at m;omega) h,Bg.cut (by simp only[Bu]at m;omega) r⟩
theorem AY.cut{C:D4}{n:Nat}: ∀{l:List (List AV)} {vs:List (List Value)},Di l≤n→AY C l vs→AY (C.cut n) l vs
 |[],_,_,h=>h
 |_::_,_,m,⟨v,q,e,h,r⟩=>⟨v,q,e,Bg.cut (by simp only[Di]at m;omega) h,AY.cut (by simp only[Di]at m;omega) r⟩
end
theorem Bg.length{C:D4}: ∀{l:List AV} {vs:List Value},Bg C l vs→vs.length=l.length
 |[],_,h=>by rw[show _=[]from h];rfl
 |_::_,_,⟨v,q,e,_,r⟩=>by rw[e];simp[Bg.length r]
theorem AY.length{C:D4}: ∀{l:List (List AV)} {vs:List (List Value)},AY C l vs→vs.length=l.length
 |[],_,h=>by rw[show _=[]from h];rfl
 |_::_,_,⟨v,q,e,_,r⟩=>by rw[e];simp[AY.length r]
theorem Bg.get{C:D4}: ∀{l:List AV} {vs:List Value} {i:Nat} {a:AV},Bg C l vs→l[i]? =some a→ ∃v,vs[i]? =some v∧Gc C a v
 |[],_,_,_,_,h=>by simp at h
 |x::l,_,0,a,⟨v,q,e,h,r⟩,g=>by
  simp at g;subst g;exact⟨v,by rw[e];rfl,h⟩
 |x::l,_,i+1,a,⟨v,q,e,h,r⟩,g=>by
  obtain⟨u,h1,h2⟩:=Bg.get r (i:=i) (a:=a) (by simpa using g)
  exact⟨u,by rw[e];simpa using h1,h2⟩
theorem AY.get{C:D4}: ∀{l:List (List AV)} {vs:List (List Value)} {i:Nat} {a:List AV},AY C l vs→l[i]? =some a→ ∃v,vs[i]? =some v∧Bg C a v
 |[],_,_,_,_,h=>by simp at h
 |x::l,_,0,a,⟨v,q,e,h,r⟩,g=>by
  simp at g;subst g;exact⟨v,by rw[e];rfl,h⟩
 |x::l,_,i+1,a,⟨v,q,e,h,r⟩,g=>by
  obtain⟨u,h1,h2⟩:=AY.get r (i:=i) (a:=a) (by simpa using g)
  exact⟨u,by rw[e];simpa using h1,h2⟩
theorem Bg.app{C:D4}: ∀{l m:List AV} {vs us:List Value},Bg C l vs→Bg C m us→Bg C (l++m) (vs++us)
 |[],_,_,_,h,g=>by rw[show _=[]from h];exact g
 |_::_,_,_,_,⟨v,q,e,h,r⟩,g=>⟨v,q++_,by rw[e];rfl,h,Bg.app r g⟩
theorem AY.app{C:D4}: ∀{l m:List (List AV)} {vs us:List (List Value)},AY C l vs→AY C m us→AY C (l++m) (vs++us)
 |[],_,_,_,h,g=>by rw[show _=[]from h];exact g
 |_::_,_,_,_,⟨v,q,e,h,r⟩,g=>⟨v,q++_,by rw[e];rfl,h,AY.app r g⟩
theorem Bg.drop{C:D4}: ∀{n:Nat} {l:List AV} {vs:List Value},Bg C l vs→Bg C (l.drop n) (vs.drop n)
 |0,_,_,h=>h
 |n+1,[],_,h=>by rw[show _=[]from h];simp[Bg]
 |n+1,_::_,_,⟨v,q,e,h,r⟩=>by rw[e];simpa using Bg.drop (n:=n) r
theorem Bg.take{C:D4}: ∀{n:Nat} {l:List AV} {vs:List Value},Bg C l vs→Bg C (l.take n) (vs.take n)
 |0,_,_,_=>by simp[Bg]
 |n+1,[],_,h=>by rw[show _=[]from h];simp[Bg]
 |n+1,_::_,_,⟨v,q,e,h,r⟩=>by rw[e];exact⟨v,q.take n,rfl,h,Bg.take r⟩
theorem AY.drop{C:D4}: ∀{n:Nat} {l:List (List AV)} {vs:List (List Value)},AY C l vs→AY C (l.drop n) (vs.drop n)
 |0,_,_,h=>h
 |n+1,[],_,h=>by rw[show _=[]from h];simp[AY]
 |n+1,_::_,_,⟨v,q,e,h,r⟩=>by rw[e];simpa using AY.drop (n:=n) r
theorem AY.take{C:D4}: ∀{n:Nat} {l:List (List AV)} {vs:List (List Value)},AY C l vs→AY C (l.take n) (vs.take n)
 |0,_,_,_=>by simp[AY]
 |n+1,[],_,h=>by rw[show _=[]from h];simp[AY]
 |n+1,_::_,_,⟨v,q,e,h,r⟩=>by rw[e];exact⟨v,q.take n,rfl,h,AY.take r⟩
theorem AY.flat{C:D4}: ∀{l:List (List AV)} {vs:List (List Value)},AY C l vs→Bg C l.flatten vs.flatten
 |[],_,h=>by rw[show _=[]from h];simp[Bg]
 |_::_,_,⟨v,q,e,h,r⟩=>by rw[e];exact Bg.app h (AY.flat r)
theorem AY.set{C:D4}{a:List AV}{v:List Value}(ha:Bg C a v): ∀{l:List (List AV)} {vs:List (List Value)} {i:Nat},AY C l vs→AY C (l.set i a) (vs.set i v)
 |[],_,_,h=>by rw[show _=[]from h];simp[AY]
 |_::_,_,0,⟨_,q,e,_,r⟩=>by rw[e];exact⟨v,q,rfl,ha,r⟩
 |_::_,_,i+1,⟨u,q,e,h,r⟩=>by rw[e];exact⟨u,q.set i v,rfl,h,AY.set ha r⟩
theorem Bg.set{C:D4}{a:AV}{v:Value}(ha:Gc C a v): ∀{l:List AV} {vs:List Value} {i:Nat},Bg C l vs→Bg C (l.set i a) (vs.set i v)
 |[],_,_,h=>by rw[show _=[]from h];simp[Bg]
 |_::_,_,0,⟨_,q,e,_,r⟩=>by rw[e];exact⟨v,q,rfl,ha,r⟩
 |_::_,_,i+1,⟨u,q,e,h,r⟩=>by rw[e];exact⟨u,q.set i v,rfl,h,Bg.set ha r⟩
theorem AY.lens{C:D4}{sz:Nat}: ∀{l:List (List AV)} {vs:List (List Value)},(∀x∈l,x.length=sz)→AY C l vs→ ∀v∈vs,v.length=sz
 |[],_,_,h,v,hv=>by rw[show _=[]from h]at hv;cases hv
 |x::_,_,g,⟨u,q,e,h,r⟩,v,hv=>by
  rw[e]at hv
  rcases List.mem_cons.1 hv with e'|hv
  ·rw[e',h.length];exact g x List.mem_cons_self
  ·exact AY.lens (fun y hy=>g y (List.mem_cons_of_mem _ hy)) r v hv
theorem Inv.cut{tb:Dg}{C:D4}{n:Nat}(I:Inv tb C)(m:Dh (C.H.take n)≤n)(hg: ∀g cs,tb.gl g=some cs→Bu cs=0):Inv tb (C.cut n):=by
 have memH: ∀(l:Ax) (o:BW),o∈l→ED o≤Dh l:=by
  intro l
  induction l with
  |nil=>intro o h;cases h
  |cons x l ih=>
   intro o h
   simp only[Dh]
   rcases List.mem_cons.1 h with e|h
   ·subst e;omega
   ·have:=ih o h;omega
 have hl: ∀i,i<(C.cut n).H.length→i<C.H.length:=fun i h=>by simp only[D4.cut,List.length_take]at h;omega
 refine⟨?_,fun i j hi hj e=>I.inj i j (hl i hi) (hl j hj) e,fun i hi=>I.lt i (hl i hi),?_,fun g h=>⟨PQ (I.it g h).1,(I.it g h).2⟩⟩
 ·intro id o h
  have hm:ED o≤n:=Nat.le_trans (memH _ o (List.mem_of_getElem? h)) m
  have hid:id<n:=by
   rcases Nat.lt_or_ge id n with h'|h'
   ·exact h'
   ·simp only[D4.cut]at h;rw[List.getElem?_take]at h;simp[Nat.not_lt.2 h']at h
  rw[PS hid]at h
  have x:=I.obj id o h
  cases o with
  |cells t cs=>
   obtain⟨vs,arr,e,fr,h1,h2,h3,h4,h5⟩:=x
   exact⟨vs,arr,e,fr,h1,h2,h3,Bg.cut hm h4,h5⟩
  |row t fz sz els=>
   obtain⟨vss,arr,e,fr,h1,h2,h3,h4,h5,h6⟩:=x
   exact⟨vss,arr,e,fr,h1,h2,h3,h4,AY.cut hm h5,h6⟩
  |map es=>
   obtain⟨ms,c,h1,h2,h3⟩:=x
   simp only[ED]at hm
   exact⟨ms,c,h1,Bg.cut (by omega) h2,Bg.cut (by omega) h3⟩
  |iter l pos=>exact x
 ·intro g cs h
  obtain⟨h1,h2,h3,vs,h4,h5⟩:=I.gl g cs h
  exact⟨h1,PQ h2,h3,vs,h4,Bg.cut (by rw[hg g cs h];omega) h5⟩
theorem KM.cut{C D:D4}{n:Nat}(X:KM C D)(h:C.H.length≤n):KM C (D.cut n):=by
 have lt: ∀{id:Nat} {o:BW},C.H[id]? =some o→id<n:=fun{id o} e=>by
  have:=(List.getElem?_eq_some_iff.1 e).1;omega
 refine⟨X.rest,X.size,by simp only[D4.cut,List.length_take];have:=X.len;omega,fun b hb ho=>⟨(X.same b hb ho).1,PQ (X.same b hb ho).2⟩,?_,?_⟩
 ·intro id o e f
  obtain⟨⟨o',h',f'⟩,e'⟩:=X.fixed id o e f
  exact⟨⟨o',by rw[PS (lt e)];exact h',f'⟩,e'⟩
 ·intro id fz sz els e
  obtain⟨fz',els',h',r⟩:=X.row id fz sz els e
  obtain⟨t,e',_⟩:=Iv e
  exact⟨fz',els',by rw[bL (lt e')];exact h',r⟩
theorem NM{w w':World}{b o:Nat}(h:w'.heap[b]? =w.heap[b]?):w'.frozen? ⟨b,o,none⟩=w.frozen? ⟨b,o,none⟩:=by
 simp only[World.frozen?,h]
theorem Obj.ext{C D:D4}(X:KM C D){p:Place}{o:BW}(h:D.w.heap[p.blk]? =C.w.heap[p.blk]?)(x:Obj C p o):Obj D p o:=by
 cases o with
 |cells t cs=>
  obtain⟨vs,arr,e,fr,h1,h2,h3,h4,h5,h6⟩:=x
  exact⟨vs,arr,e,fr,⟨h.trans h1.1,h1.2⟩,h2,h3,Bg.ext X h4,h5.same h,fun o ho=>by rw[NM h];exact h6 o ho⟩
 |row t fz sz els=>
  obtain⟨vss,arr,e,fr,h1,h2,h3,h4,h5,h6,h7,h8,h9⟩:=x
  exact⟨vss,arr,e,fr,⟨h.trans h1.1,h1.2⟩,h2,h3,h4,AY.ext X h5,h6,h7.same h,fun f o ho=>by rw[NM h];exact h8 f o ho,fun f o ho hs=>by rw[NM h];exact h9 f o ho hs⟩
 |map es=>
  obtain⟨ms,c,h1,h2,h3⟩:=x
  exact⟨ms,c,h.trans h1,Bg.ext X h2,Bg.ext X h3⟩
 |iter l pos=>exact h.trans x
theorem Bb{α:Type}{l:List α}{i:Nat}{x:α}(h:l[i]? =some x):i<l.length:=(List.getElem?_eq_some_iff.1 h).1
theorem rO{tb:Dg}{C D:D4}(I:Inv tb C)(hrest:Rest C.w D.w){id:Nat}{o o':BW}(ho:C.H[id]? =some o)(hH:D.H=C.H.set id o')(hφ: ∀j,j≠id→D.φ j=C.φ j)
  (hs:C.w.heap.size≤D.w.heap.size) (hw: ∀b,b<C.w.heap.size→b≠(C.φ id).blk→D.w.heap[b]? =C.w.heap[b]?)
  (hb:(D.φ id).blk=(C.φ id).blk∨(C.w.heap.size≤(D.φ id).blk∧(D.φ id).blk<D.w.heap.size))
  (hf:Rd o=true→Rd o'=true∧D.φ id=C.φ id)
  (hr: ∀t fz sz els,o= .row t fz sz els→ ∃t' fz' els',o'= .row t' fz' sz els'∧els.length≤els'.length∧(els.length=els'.length→D.φ id=C.φ id)):
  KM C D∧(Obj D (D.φ id) o'→Inv tb D):=by
 have hid:=Bb ho
 have hlen:D.H.length=C.H.length:=by rw[hH];simp
 have get: ∀j,j≠id→D.H[j]? =C.H[j]? :=fun j hj=>by rw[hH,List.getElem?_set_ne (Ne.symm hj)]
 have geti:D.H[id]? =some o':=by rw[hH,List.getElem?_set_self hid]
 have hown: ∀b,b<C.w.heap.size→ ¬C.own b→ ¬D.own b:=by
  rintro b hlt hn ⟨j,hj,e⟩
  by_cases hji:j=id
  ·subst hji
   rcases hb with h|h
   ·exact hn ⟨j,hid,by rw[←h];exact e⟩
   ·omega
  ·exact hn ⟨j,by omega,by rw[←hφ j hji];exact e⟩
 have X:KM C D:=by
  refine⟨hrest,hs,by omega,fun b hlt hn=>⟨hw b hlt fun e=>hn ⟨id,hid,e.symm⟩,hown b hlt hn⟩,?_,?_⟩
  ·intro j x hj hx
   by_cases hji:j=id
   ·subst hji
    rw[ho]at hj
    obtain rfl:=Option.some.inj hj
    exact⟨⟨o',geti,(hf hx).1⟩,(hf hx).2⟩
   ·exact⟨⟨x,by rw[get j hji];exact hj,hx⟩,hφ j hji⟩
  ·intro j fz sz els hj
   by_cases hji:j=id
   ·subst hji
    obtain⟨t,hj,_⟩:=Iv hj
    rw[ho]at hj
    obtain⟨t',fz',els',h1,h2,h3⟩:=hr t fz sz els (Option.some.inj hj)
    exact⟨fz',els',jB (t:=t') (by rw[geti,h1]),h2,h3⟩
   ·exact⟨fz,els,by rw[sL (get j hji)];exact hj,Nat.le_refl _,fun _=>hφ j hji⟩
 refine⟨X,fun ob=>⟨?_,?_,?_,?_,?_⟩⟩
 ·intro j x hj
  by_cases hji:j=id
  ·subst hji
   rw[geti]at hj
   obtain rfl:=Option.some.inj hj
   exact ob
  ·rw[get j hji]at hj
   rw[hφ j hji]
   have hjl:=Bb hj
   exact Obj.ext X (hw _ (I.lt j hjl) fun e=>hji (I.inj j id hjl hid e)) (I.obj j x hj)
 ·intro i j hi hj e
  rw[hlen]at hi hj
  by_cases hii:i=id<;>by_cases hji:j=id
  ·rw[hii,hji]
  ·subst hii
   rw[hφ j hji]at e
   rcases hb with h|h
   ·exact I.inj i j hi hj (h.symm.trans e)
   ·have:=I.lt j hj;omega
  ·subst hji
   rw[hφ i hii]at e
   rcases hb with h|h
   ·exact I.inj i j hi hj (e.trans h)
   ·have:=I.lt i hi;omega
  ·rw[hφ i hii,hφ j hji]at e
   exact I.inj i j hi hj e
 ·intro i hi
  rw[hlen]at hi
  by_cases hii:i=id
  ·subst hii
   rcases hb with h|h
   ·rw[h];exact Nat.lt_of_lt_of_le (I.lt i hi) hs
   ·exact h.2
  ·rw[hφ i hii];exact Nat.lt_of_lt_of_le (I.lt i hi) hs
 ·intro g cs hg
  obtain⟨h1,h2,h3,vs,h4,h5⟩:=I.gl g cs hg
  obtain⟨h6,h7⟩:=X.same g h1 h2
  exact⟨Nat.lt_of_lt_of_le h1 hs,h7,h3,vs,h4.same h6,Bg.ext X h5⟩
 ·exact Ot I X
def D4.more(C:D4)(p:Place)(o:BW)(w:World):D4:=⟨fun j=>if j=C.H.length then p else C.φ j,C.H++[o],w⟩
theorem more{tb:Dg}{C:D4}(I:Inv tb C){p:Place}{o:BW}{w:World}(hrest:Rest C.w w)(hs:C.w.heap.size<w.heap.size)(hp:p.blk=C.w.heap.size)
  (hw: ∀b,b<C.w.heap.size→w.heap[b]? =C.w.heap[b]?):KM C (C.more p o w)∧(Obj (C.more p o w) p o→Inv tb (C.more p o w))∧(C.more p o w).φ C.H.length=p:=by
 have hφ: ∀j,j<C.H.length→(C.more p o w).φ j=C.φ j:=fun j hj=>if_neg (by omega)
 have hφn:(C.more p o w).φ C.H.length=p:=if_pos rfl
 have hlen:(C.more p o w).H.length=C.H.length+1:=by simp[D4.more]
 have get: ∀j,j<C.H.length→(C.more p o w).H[j]? =C.H[j]? :=fun j hj=>List.getElem?_append_left hj
 have getn:(C.more p o w).H[C.H.length]? =some o:=by simp[D4.more]
 have X:KM C (C.more p o w):=by
  refine⟨hrest,Nat.le_of_lt hs,by omega,fun b hlt hn=>⟨hw b hlt,?_⟩,?_,?_⟩
  ·rintro⟨j,hj,e⟩
   rw[hlen]at hj
   by_cases hji:j=C.H.length
   ·subst hji;rw[hφn,hp]at e;omega
   ·rw[hφ j (by omega)]at e;exact hn ⟨j,by omega,e⟩
  ·intro j x hj hx
   have:=Bb hj
   exact⟨⟨x,by rw[get j this];exact hj,hx⟩,hφ j this⟩
  ·intro j fz sz els hj
   obtain⟨t,hj',_⟩:=Iv hj
   have:=Bb hj'
   exact⟨fz,els,by rw[sL (get j this)];exact hj,Nat.le_refl _,fun _=>hφ j this⟩
 refine⟨X,fun ob=>⟨?_,?_,?_,?_,?_⟩,hφn⟩
 ·intro j x hj
  have:=Bb hj
  rw[hlen]at this
  by_cases hji:j=C.H.length
  ·subst hji
   rw[getn]at hj
   obtain rfl:=Option.some.inj hj
   rw[hφn]
   exact ob
  ·have hl:j<C.H.length:=by omega
   rw[get j hl]at hj
   rw[hφ j hl]
   exact Obj.ext X (hw _ (I.lt j hl)) (I.obj j x hj)
 ·intro i j hi hj e
  rw[hlen]at hi hj
  by_cases hii:i=C.H.length<;>by_cases hji:j=C.H.length
  ·rw[hii,hji]
  ·subst hii
   have hl:j<C.H.length:=by omega
   rw[hφ j hl,hφn,hp]at e
   have:=I.lt j hl;omega
  ·subst hji
   have hl:i<C.H.length:=by omega
   rw[hφ i hl,hφn,hp]at e
   have:=I.lt i hl;omega
  ·rw[hφ i (by omega),hφ j (by omega)]at e
   exact I.inj i j (by omega) (by omega) e
 ·intro i hi
  rw[hlen]at hi
  by_cases hii:i=C.H.length
  ·subst hii;rw[hφn,hp];exact hs
  ·rw[hφ i (by omega)];exact Nat.lt_trans (I.lt i (by omega)) hs
 ·intro g cs hg
  obtain⟨h1,h2,h3,vs,h4,h5⟩:=I.gl g cs hg
  obtain⟨h6,h7⟩:=X.same g h1 h2
  exact⟨Nat.lt_trans h1 hs,h7,h3,vs,h4.same h6,Bg.ext X h5⟩
 ·exact Ot I X
theorem drawn{tb:Dg}{C:D4}(I:Inv tb C){w:World}(hrest:Rest C.w w)(hw:w.heap=C.w.heap):KM C ⟨C.φ,C.H,w⟩∧Inv tb ⟨C.φ,C.H,w⟩:=by
 have X:KM C ⟨C.φ,C.H,w⟩:=⟨hrest,by simp only[hw];omega,Nat.le_refl _,fun b _ hn=>⟨by simp only[hw],hn⟩,fun _ o h f=>⟨⟨o,h,f⟩,rfl⟩,fun _ fz _ els h=>⟨fz,els,h,Nat.le_refl _,fun _=>rfl⟩⟩
 refine⟨X,fun j x hj=>Obj.ext X (by simp only[hw]) (I.obj j x hj),I.inj,fun i hi=>by simp only[hw];exact I.lt i hi,?_,Ot I X⟩
 intro g cs hg
 obtain⟨h1,h2,h3,vs,h4,h5⟩:=I.gl g cs hg
 exact⟨by simp only[hw];exact h1,h2,h3,vs,h4.same (by simp only[hw]),Bg.ext X h5⟩
theorem grown{tb:Dg}{C:D4}(I:Inv tb C){w:World}(hrest:Rest C.w w)(hs:C.w.heap.size≤w.heap.size)(hw: ∀b,b<C.w.heap.size→w.heap[b]? =C.w.heap[b]?):KM C ⟨C.φ,C.H,w⟩∧Inv tb ⟨C.φ,C.H,w⟩:=by
 have X:KM C ⟨C.φ,C.H,w⟩:=⟨hrest,hs,Nat.le_refl _,fun b hb hn=>⟨hw b hb,hn⟩,fun _ o h f=>⟨⟨o,h,f⟩,rfl⟩,fun _ fz _ els h=>⟨fz,els,h,Nat.le_refl _,fun _=>rfl⟩⟩
 refine⟨X,fun j x hj=>Obj.ext X (hw _ (I.lt j (Bb hj))) (I.obj j x hj),I.inj,fun i hi=>Nat.lt_of_lt_of_le (I.lt i hi) hs,?_,Ot I X⟩
 intro g cs hg
 obtain⟨h1,h2,h3,vs,h4,h5⟩:=I.gl g cs hg
 exact⟨Nat.lt_of_lt_of_le h1 hs,h2,h3,vs,h4.same (hw _ h1),Bg.ext X h5⟩
end Go.Proofs.YtobejhpigbllpaaGreatDoor.Am
namespace Go.Proofs.YtobejhpigbllpaaGreatDoor.Am
theorem WF{h:Ax}{n d:Nat}{v:AV}(hm:BS v≤n):frz h n d v=some v:=by
 cases d<;>simp[frz,hm]
theorem NE{h:Ax}{n d:Nat}: ∀{l:List AV},Bu l≤n→DL (frz h n d) l=some l
 |[],_=>rfl
 |v::l,hm=>by
  simp only[Bu]at hm
  simp only[DL,WF (show BS v≤n by omega),Option.bind_some,NE (show Bu l≤n by omega),Option.map_some]
theorem GG: ∀(a b:List AV),Bu (a++b)=max (Bu a) (Bu b)
 |[],b=>by simp[Bu]
 |x::a,b=>by simp only[List.cons_append,Bu,GG a b];omega
theorem NF{α:Type}{F:α→Option α}: ∀{a b a' b':List α},DL F a=some a'→DL F b=some b'→DL F (a++b)=some (a'++b')
 |[],b,a',b',h,g=>by simp only[DL,Option.some.injEq]at h;subst h;exact g
 |x::a,b,a',b',h,g=>by
  simp only[DL]at h
  obtain⟨y,hy,h⟩:=Option.bind_eq_some_iff.1 h
  obtain⟨l,hl,rfl⟩:=Option.map_eq_some_iff.1 h
  simp only[List.cons_append,DL,hy,Option.bind_some,NF hl g,Option.map_some]
structure T where
 α:Type
 sz:Nat
 agg:Bool
 dep:Nat
 R:(Nat→Prop)→Ax→List AV→α→Prop
 zc:List AV
 z:α
 hz: ∀(P:Nat→Prop) (H:Ax),R P H zc z
 one:agg=false→sz=1
 len: ∀{P:Nat→Prop} {H:Ax} {cs:List AV} {x:α},R P H cs x→cs.length=sz
 sca: ∀{P:Nat→Prop} {H:Ax} {cs:List AV} {x:α},R P H cs x→cs.all scal=true
 men: ∀{P:Nat→Prop} {H:Ax} {cs:List AV} {x:α} {m:Nat},R P H cs x→(∀i,P i→i<m)→Bu cs≤m
 mono: ∀{P Q:Nat→Prop} {H G:Ax} {cs:List AV} {x:α},(∀i,P i→Q i∧G[i]? =H[i]?)→R P H cs x→R Q G cs x
 cut: ∀{P Q:Nat→Prop} {H:Ax} {cs:List AV} {x:α} {n:Nat},R P H cs x→Bu cs≤n→Dh (H.take n)≤n→(∀i,P i→i<n→Q i)→R Q (H.take n) cs x
 frz: ∀{P Q:Nat→Prop} {H:Ax} {cs:List AV} {x:α} {n d:Nat},R P H cs x→dep≤d→d≤20→Dh (H.take n)≤n→(∀i,P i→i<n→Q i)→ ∃cs',DL (frz H n d) cs=some cs'∧R Q (H.take n) cs' x
def T.V(t:T)(P:Nat→Prop)(H:Ax)(v:AV)(x:t.α):Prop:=(t.agg=true∧ ∃cs,v= .agg cs∧t.R P H cs x)∨(t.agg=false∧t.R P H [v] x)
section
variable{t:T}{P Q:Nat→Prop}{H G:Ax}
theorem Js{v:AV}(h:scal v=true):cellsOf v=[v]:=by
 cases v<;>simp[scal]at h<;>rfl
theorem T.V.cells{v:AV}{x:t.α}(h:t.V P H v x):t.R P H (cellsOf v) x:=by
 rcases h with ⟨_,cs,rfl,h⟩|⟨_,h⟩
 ·exact h
 ·have:=t.sca h
  simp only[List.all_cons,List.all_nil,Bool.and_true]at this
  rw[Js this];exact h
theorem T.V.of{cs:List AV}{x:t.α}(h:t.R P H cs x): ∃v,HS t.agg cs=some v∧t.V P H v x:=by
 cases ha:t.agg with
 |true=>exact⟨.agg cs,by simp[HS], .inl ⟨ha,cs,rfl,h⟩⟩
 |false=>
  have:=t.len h
  rw[t.one ha]at this
  match cs,this with
  |[v],_=>exact⟨v,rfl, .inr ⟨ha,h⟩⟩
theorem T.V.mono{v:AV}{x:t.α}(m: ∀i,P i→Q i∧G[i]? =H[i]?)(h:t.V P H v x):t.V Q G v x:=by
 rcases h with ⟨a,cs,rfl,h⟩|⟨a,h⟩
 ·exact .inl ⟨a,cs,rfl,t.mono m h⟩
 ·exact .inr ⟨a,t.mono m h⟩
theorem T.V.men{v:AV}{x:t.α}{m:Nat}(h:t.V P H v x)(hp: ∀i,P i→i<m):BS v≤m:=by
 rcases h with ⟨a,cs,rfl,h⟩|⟨a,h⟩
 ·simpa [BS]using t.men h hp
 ·simpa [Bu]using t.men h hp
theorem T.V.frz{v:AV}{x:t.α}{n d:Nat}(h:t.V P H v x)(hd:t.dep≤d)(h20:d+1≤20)(hw:Dh (H.take n)≤n)(hp: ∀i,P i→i<n→Q i): ∃v',Am.frz H n (d+1) v=some v'∧t.V Q (H.take n) v' x:=by
 rcases h with ⟨a,cs,rfl,h⟩|⟨a,h⟩
 ·by_cases hm:Bu cs≤n
  ·exact⟨.agg cs,WF (by simpa [BS]using hm), .inl ⟨a,cs,rfl,t.cut h hm hw hp⟩⟩
  ·obtain⟨cs',e,r⟩:=t.frz h hd (by omega) hw hp
   exact⟨.agg cs',by simp[Am.frz,BS,hm,e], .inl ⟨a,cs',rfl,r⟩⟩
 ·obtain⟨cs',e,r⟩:=t.frz h (show t.dep≤d+1 by omega) h20 hw hp
  simp only[DL]at e
  obtain⟨v',hv,e⟩:=Option.bind_eq_some_iff.1 e
  simp only[Option.map_some,Option.some.injEq]at e
  subst e
  exact⟨v',hv, .inr ⟨a,r⟩⟩
end
def S2(α:Type)(c:α→AV)(z:α)(hs: ∀x,scal (c x)=true)(hm: ∀x,BS (c x)=0):T where
 α:=α
 sz:=1
 agg:=false
 dep:=0
 R:=fun _ _ cs x=>cs=[c x]
 zc:=[c z]
 z:=z
 hz:=fun _ _=>rfl
 one:=fun _=>rfl
 len:=fun h=>by rw[h];rfl
 sca:=fun{_ _ _ x} h=>by rw[h];simp[hs x]
 men:=fun{_ _ _ x _} h _=>by rw[h];simp[Bu,hm x]
 mono:=fun _ h=>h
 cut:=fun h _ _ _=>h
 frz:=fun{_ _ _ _ x _ _} h _ _ _ _=>⟨_,by rw[h,NE (by simp[Bu,hm x])],rfl⟩
theorem P3{α:Type}{c:α→AV}{z:α}{hs: ∀x,scal (c x)=true}{hm: ∀x,BS (c x)=0}{P:Nat→Prop}{H:Ax}{v:AV}{x:α}:(S2 α c z hs hm).V P H v x↔v=c x:=by
 constructor
 ·rintro(⟨a,_⟩|⟨_,h⟩)
  ·cases a
  ·exact(List.cons.inj h).1
 ·rintro rfl
  exact .inr ⟨rfl,rfl⟩
def T.b:T:=S2 Bool .b false (fun _=>rfl) (fun _=>rfl)
def T.int(k:IntKind):T:=S2 Int (.i k) 0 (fun _=>rfl) (fun _=>rfl)
def T.u8:T:=S2 UInt8 (fun x=> .i .u8 x.toNat) 0 (fun _=>rfl) (fun _=>rfl)
def T.u16:T:=S2 UInt16 (fun x=> .i .u16 x.toNat) 0 (fun _=>rfl) (fun _=>rfl)
def T.u32:T:=S2 UInt32 (fun x=> .i .u32 x.toNat) 0 (fun _=>rfl) (fun _=>rfl)
def T.u64:T:=S2 UInt64 (fun x=> .i .u64 x.toNat) 0 (fun _=>rfl) (fun _=>rfl)
abbrev AR:=List UInt8
def Ak:T:=S2 AR .s [] (fun _=>rfl) (fun _=>rfl)
def Hx(a b:T):T where
 α:=a.α×b.α
 sz:=a.sz+b.sz
 agg:=true
 dep:=max a.dep b.dep
 R:=fun P H cs x=> ∃c d,cs=c++d∧a.R P H c x.1∧b.R P H d x.2
 zc:=a.zc++b.zc
 z:=(a.z,b.z)
 hz:=fun P H=>⟨_,_,rfl,a.hz P H,b.hz P H⟩
 one:=fun h=>by cases h
 len:=fun⟨c,d,e,h,g⟩=>by rw[e,List.length_append,a.len h,b.len g]
 sca:=fun⟨c,d,e,h,g⟩=>by rw[e,List.all_append,a.sca h,b.sca g];rfl
 men:=fun⟨c,d,e,h,g⟩ hp=>by rw[e,GG];have:=a.men h hp;have:=b.men g hp;omega
 mono:=fun m ⟨c,d,e,h,g⟩=>⟨c,d,e,a.mono m h,b.mono m g⟩
 cut:=fun⟨c,d,e,h,g⟩ hm hw hp=>by
  rw[e,GG]at hm
  exact⟨c,d,e,a.cut h (by omega) hw hp,b.cut g (by omega) hw hp⟩
 frz:=fun⟨c,d,e,h,g⟩ hd h20 hw hp=>by
  have hd':=Nat.max_le.1 hd
  obtain⟨c',h1,h2⟩:=a.frz h hd'.1 h20 hw hp
  obtain⟨d',g1,g2⟩:=b.frz g hd'.2 h20 hw hp
  exact⟨c'++d',by rw[e,NF h1 g1],c',d',rfl,h2,g2⟩
def Xo(t:T)(β:Type)(f:β→t.α)(g:t.α→β)(hfg: ∀y,f (g y)=y):T where
 α:=β
 sz:=t.sz
 agg:=true
 dep:=t.dep
 R:=fun P H cs y=>t.R P H cs (f y)
 zc:=t.zc
 z:=g t.z
 hz:=fun P H=>by rw[hfg];exact t.hz P H
 one:=fun h=>by cases h
 len:=t.len
 sca:=t.sca
 men:=t.men
 mono:=t.mono
 cut:=t.cut
 frz:=t.frz
def Do(t:T)(P:Nat→Prop)(H:Ax):List (List AV)→List t.α→Prop
 |[],[]=>True
 |c::r,x::q=>t.R P H c x∧Do t P H r q
 |_,_=>False
section
variable{t:T}{P Q:Nat→Prop}{H G:Ax}
theorem Do.length: ∀{l:List (List AV)} {xs:List t.α},Do t P H l xs→l.length=xs.length
 |[],[],_=>rfl
 |_::_,_::_,h=>by simp[Do.length h.2]
theorem Do.lens: ∀{l:List (List AV)} {xs:List t.α},Do t P H l xs→ ∀e∈l,e.length=t.sz
 |[],[],_,e,he=>by cases he
 |c::_,_::_,h,e,he=>by
  rcases List.mem_cons.1 he with rfl|he
  ·exact t.len h.1
  ·exact Do.lens h.2 e he
theorem Do.sca: ∀{l:List (List AV)} {xs:List t.α},Do t P H l xs→l.flatten.all scal=true
 |[],[],_=>rfl
 |c::_,_::_,h=>by rw[List.flatten_cons,List.all_append,t.sca h.1,Do.sca h.2];rfl
theorem QQ: ∀(l:List (List AV)),Bu l.flatten=Di l
 |[]=>rfl
 |c::l=>by rw[List.flatten_cons,GG,QQ l,Di]
theorem Do.men{m:Nat}(hp: ∀i,P i→i<m): ∀{l:List (List AV)} {xs:List t.α},Do t P H l xs→Di l≤m
 |[],[],_=>by simp[Di]
 |c::_,_::_,h=>by simp only[Di];have:=t.men h.1 hp;have:=Do.men hp h.2;omega
theorem Do.mono(m: ∀i,P i→Q i∧G[i]? =H[i]?): ∀{l:List (List AV)} {xs:List t.α},Do t P H l xs→Do t Q G l xs
 |[],[],_=>trivial
 |_::_,_::_,h=>⟨t.mono m h.1,Do.mono m h.2⟩
theorem Do.cut{n:Nat}(hw:Dh (H.take n)≤n)(hp: ∀i,P i→i<n→Q i): ∀{l:List (List AV)} {xs:List t.α},Do t P H l xs→Di l≤n→Do t Q (H.take n) l xs
 |[],[],_,_=>trivial
 |_::_,_::_,h,hm=>by
  simp only[Di]at hm
  exact⟨t.cut h.1 (by omega) hw hp,Do.cut hw hp h.2 (by omega)⟩
theorem Do.frz{n d:Nat}(hd:t.dep≤d)(h20:d≤20)(hw:Dh (H.take n)≤n)(hp: ∀i,P i→i<n→Q i): ∀{l:List (List AV)} {xs:List t.α},Do t P H l xs→ ∃l',DL (DL (Am.frz H n d)) l=some l'∧Do t Q (H.take n) l' xs
 |[],[],_=>⟨[],rfl,trivial⟩
 |_::_,_::_,h=>by
  obtain⟨c',e,r⟩:=t.frz h.1 hd h20 hw hp
  obtain⟨l',e',r'⟩:=Do.frz hd h20 hw hp h.2
  exact⟨c'::l',by simp[DL,e,e'],r,r'⟩
theorem Do.get: ∀{l:List (List AV)} {xs:List t.α} {i:Nat} {x:t.α},Do t P H l xs→xs[i]? =some x→ ∃c,l[i]? =some c∧t.R P H c x
 |[],[],_,_,_,h=>by simp at h
 |c::_,y::_,0,x,h,e=>by
  simp only[List.getElem?_cons_zero,Option.some.injEq]at e
  subst e
  exact⟨c,rfl,h.1⟩
 |c::_,y::_,i+1,x,h,e=>by
  simp only[List.getElem?_cons_succ]at e
  obtain⟨c',e',r⟩:=Do.get h.2 e
  exact⟨c',by simpa using e',r⟩
theorem Do.drop: ∀{n:Nat} {l:List (List AV)} {xs:List t.α},Do t P H l xs→Do t P H (l.drop n) (xs.drop n)
 |0,_,_,h=>h
 |_+1,[],[],_=>trivial
 |n+1,_::_,_::_,h=>by simpa using Do.drop (n:=n) h.2
theorem Do.take: ∀{n:Nat} {l:List (List AV)} {xs:List t.α},Do t P H l xs→Do t P H (l.take n) (xs.take n)
 |0,_,_,_=>by simp[Do]
 |_+1,[],[],_=>trivial
 |n+1,_::_,_::_,h=>by simp only[List.take_succ_cons];exact⟨h.1,Do.take (n:=n) h.2⟩
theorem Do.app: ∀{l m:List (List AV)} {xs ys:List t.α},Do t P H l xs→Do t P H m ys→Do t P H (l++m) (xs++ys)
 |[],_,[],_,_,g=>g
 |_::_,_,_::_,_,h,g=>⟨h.1,Do.app h.2 g⟩
theorem Do.set{c:List AV}{y:t.α}(hc:t.R P H c y): ∀{l:List (List AV)} {xs:List t.α} {i:Nat},Do t P H l xs→Do t P H (l.set i c) (xs.set i y)
 |[],[],_,_=>trivial
 |_::_,_::_,0,h=>⟨hc,h.2⟩
 |_::_,_::_,i+1,h=>⟨h.1,Do.set hc (i:=i) h.2⟩
theorem Do.rep{c:List AV}{y:t.α}(hc:t.R P H c y): ∀n,Do t P H (List.replicate n c) (List.replicate n y)
 |0=>trivial
 |n+1=>⟨hc,Do.rep hc n⟩
end
structure Ar(α:Type)(n:Nat) where
 l:List α
 len:l.length=n
theorem Ar.ext{α:Type}{n:Nat}: ∀{a b:Ar α n},a.l=b.l→a=b
 |⟨_,_⟩,⟨_,_⟩,rfl=>rfl
instance {α:Type} {n:Nat} [DecidableEq α]:DecidableEq (Ar α n):=fun a b=>if h:a.l=b.l then isTrue (Ar.ext h)else isFalse fun e=>h (by rw[e])
theorem Tl{sz:Nat}: ∀{l:List (List AV)},(∀e∈l,e.length=sz)→l.flatten.length=l.length*sz
 |[],_=>by simp
 |c::l,h=>by
  rw[List.flatten_cons,List.length_append,h c List.mem_cons_self,Tl fun e he=>h e (List.mem_cons_of_mem _ he),List.length_cons,Nat.succ_mul];omega
theorem Wh{α:Type}{F:α→Option α}: ∀{l l':List (List α)},DL (DL F) l=some l'→DL F l.flatten=some l'.flatten
 |[],_,h=>by simp only[DL,Option.some.injEq]at h;subst h;rfl
 |c::l,_,h=>by
  simp only[DL]at h
  obtain⟨c',hc,h⟩:=Option.bind_eq_some_iff.1 h
  obtain⟨l',hl,rfl⟩:=Option.map_eq_some_iff.1 h
  exact NF hc (Wh hl)
def T.arr(n:Nat)(t:T):T where
 α:=Ar t.α n
 sz:=n*t.sz
 agg:=true
 dep:=t.dep
 R:=fun P H cs x=> ∃css,cs=css.flatten∧Do t P H css x.l
 zc:=(List.replicate n t.zc).flatten
 z:=⟨List.replicate n t.z,by simp⟩
 hz:=fun P H=>⟨_,rfl,Do.rep (t.hz P H) n⟩
 one:=fun h=>by cases h
 len:=fun{_ _ _ x} ⟨css,e,h⟩=>by rw[e,Tl h.lens,h.length,x.len]
 sca:=fun⟨css,e,h⟩=>by rw[e];exact h.sca
 men:=fun⟨css,e,h⟩ hp=>by rw[e,QQ];exact h.men hp
 mono:=fun m ⟨css,e,h⟩=>⟨css,e,h.mono m⟩
 cut:=fun⟨css,e,h⟩ hm hw hp=>⟨css,e,h.cut hw hp (by rwa [e,QQ]at hm)⟩
 frz:=fun⟨css,e,h⟩ hd h20 hw hp=>by
  obtain⟨l',e',r⟩:=h.frz hd h20 hw hp
  exact⟨l'.flatten,by rw[e];exact Wh e',l',rfl,r⟩
inductive GS(α:Type) where
 |nil
 |mk (l:List α)
 deriving DecidableEq,Inhabited
def GS.l{α:Type}:GS α→List α
 | .nil=>[]
 | .mk l=>l
def LV(P:Nat→Prop):AV→Prop
 | .sl _ _=>True
 | .orow id _ _ _=>P id
 | .ocel _ id _ _=>P id
 |_=>False
def S5(t:T)(P:Nat→Prop)(H:Ax)(v:AV):GS t.α→Prop
 | .nil=>v= .nils
 | .mk l=>LV P v∧ ∃els,EP H t.sz v=some els∧Do t P H els l
theorem N4{H G:Ax}{id:Nat}(h:G[id]? =H[id]?):rowAt G id=rowAt H id:=by simp only[rowAt,h]
theorem NR{H G:Ax}{id:Nat}(h:G[id]? =H[id]?):Cq G id=Cq H id:=by simp only[Cq,h]
section
variable{t:T}{P Q:Nat→Prop}{H G:Ax}{v:AV}
theorem qV{sz:Nat}(m: ∀i,P i→Q i∧G[i]? =H[i]?)(h:LV P v):EP G sz v=EP H sz v:=by
 cases v<;>simp only[LV]at h<;>simp only[EP]
 ·rw[N4 (m _ h).2]
 ·rw[NR (m _ h).2]
theorem lZ(m: ∀i,P i→Q i)(h:LV P v):LV Q v:=by
 cases v<;>simp only[LV]at h ⊢
 ·exact m _ h
 ·exact m _ h
theorem S5.mono(m: ∀i,P i→Q i∧G[i]? =H[i]?): ∀{g:GS t.α},S5 t P H v g→S5 t Q G v g
 | .nil,h=>h
 | .mk _,⟨b,els,e,h⟩=>⟨lZ (fun i hi=>(m i hi).1) b,els,by rw[qV m b];exact e,h.mono m⟩
theorem S5.sca: ∀{g:GS t.α},S5 t P H v g→scal v=true
 | .nil,h=>by rw[show v=_ from h];rfl
 | .mk _,⟨b,_,_,_⟩=>by cases v<;>simp only[LV]at b<;>rfl
theorem S5.men{m:Nat}(hp: ∀i,P i→i<m): ∀{g:GS t.α},S5 t P H v g→BS v≤m
 | .nil,h=>by rw[show v=_ from h];simp[BS]
 | .mk _,⟨b,els,e,h⟩=>by
  cases v<;>simp only[LV]at b
  ·simp only[EP]at e
   split at e
   ·simp only[Option.some.injEq]at e
    subst e
    simpa [BS]using h.men hp
   ·cases e
  ·simp only[BS];exact hp _ b
  ·simp only[BS];exact hp _ b
theorem VN{n id:Nat}(h:id<n):rowAt (H.take n) id=rowAt H id:=by
 simp only[rowAt];rw[List.getElem?_take];simp[h]
theorem Sj{n id:Nat}(h:id<n):Cq (H.take n) id=Cq H id:=by
 simp only[Cq];rw[List.getElem?_take];simp[h]
theorem YL: ∀{l:Ax} {o:BW},o∈l→ED o≤Dh l:=by
 intro l
 induction l with
 |nil=>intro o h;cases h
 |cons x l ih=>
  intro o h
  simp only[Dh]
  rcases List.mem_cons.1 h with e|h
  ·subst e;omega
  ·have:=ih h;omega
theorem TT: ∀(l:List (List AV)) (i:Nat),Di (l.drop i)≤Di l
 |[],i=>by simp
 |x::l,0=>by simp
 |x::l,i+1=>by simp only[List.drop_succ_cons,Di];have:=TT l i;omega
theorem TS: ∀(l:List (List AV)) (i:Nat),Di (l.take i)≤Di l
 |[],i=>by simp
 |x::l,0=>by simp[Di]
 |x::l,i+1=>by simp only[List.take_succ_cons,Di];have:=TS l i;omega
theorem Mn: ∀(l:List AV) (i:Nat),Bu (l.drop i)≤Bu l
 |[],i=>by simp
 |x::l,0=>by simp
 |x::l,i+1=>by simp only[List.drop_succ_cons,Bu];have:=Mn l i;omega
theorem OY: ∀(l:List AV) (i:Nat),Bu (l.take i)≤Bu l
 |[],i=>by simp
 |x::l,0=>by simp[Bu]
 |x::l,i+1=>by simp only[List.take_succ_cons,Bu];have:=OY l i;omega
theorem OZ(sz:Nat): ∀(n:Nat) (l:List AV),Di (BK sz n l)≤Bu l
 |0,_=>by simp[BK,Di]
 |n+1,l=>by
  simp only[BK,Di]
  have h1:=OY l sz
  have h2:=OZ sz n (l.drop sz)
  have h3:=Mn l sz
  omega
theorem jC{n id:Nat}{r:Bool×Nat×List (List AV)}(hw:Dh (H.take n)≤n)(h:id<n)(e:rowAt H id=some r):Di r.2.2≤n:=by
 rw[←VN h]at e
 simp only[rowAt]at e
 split at e
 ·rename_i fz sz els he
  cases e
  exact Nat.le_trans (YL (List.mem_of_getElem? he)) hw
 ·cases e
theorem bO{n id:Nat}{cs:List AV}(hw:Dh (H.take n)≤n)(h:id<n)(e:Cq H id=some cs):Bu cs≤n:=by
 rw[←Sj h]at e
 simp only[Cq]at e
 split at e
 ·rename_i els he
  cases e
  exact Nat.le_trans (YL (List.mem_of_getElem? he)) hw
 ·cases e
theorem S5.cut{n:Nat}(hw:Dh (H.take n)≤n)(hp: ∀i,P i→i<n→Q i)(hm:BS v≤n): ∀{g:GS t.α},S5 t P H v g→S5 t Q (H.take n) v g
 | .nil,h=>h
 | .mk _,⟨b,els,e,h⟩=>by
  cases v<;>simp only[LV]at b
  ·rename_i sz' els'
   refine⟨trivial,els,e,h.cut hw hp ?_⟩
   simp only[EP]at e
   split at e
   ·simp only[Option.some.injEq]at e
    subst e
    simpa [BS]using hm
   ·cases e
  ·rename_i id k lo len
   simp only[BS]at hm
   refine⟨hp _ b (by omega),els,?_,h.cut hw hp ?_⟩
   ·simp only[EP]at e ⊢
    rw[VN (by omega)];exact e
   ·simp only[EP]at e
    obtain⟨r,hr,e⟩:=Option.bind_eq_some_iff.1 e
    split at e
    ·simp only[Option.some.injEq]at e
     subst e
     exact Nat.le_trans (TS _ _) (Nat.le_trans (TT _ _) (jC hw (by omega) hr))
    ·cases e
  ·rename_i sz' id off len
   simp only[BS]at hm
   refine⟨hp _ b (by omega),els,?_,h.cut hw hp ?_⟩
   ·simp only[EP]at e ⊢
    rw[Sj (by omega)];exact e
   ·simp only[EP]at e
    obtain⟨r,hr,e⟩:=Option.bind_eq_some_iff.1 e
    split at e
    ·simp only[Option.some.injEq]at e
     subst e
     exact Nat.le_trans (OZ _ _ _) (Nat.le_trans (Mn _ _) (bO hw (by omega) hr))
    ·cases e
theorem S5.frz{n d:Nat}(hd:t.dep≤d)(h20:d≤20)(hw:Dh (H.take n)≤n)(hp: ∀i,P i→i<n→Q i){g:GS t.α}(h:S5 t P H v g): ∃v',Am.frz H n (d+1) v=some v'∧S5 t Q (H.take n) v' g:=by
 by_cases hm:BS v≤n
 ·exact⟨v,WF hm,h.cut hw hp hm⟩
 ·cases g with
  |nil=>rw[show v=_ from h]at hm;simp[BS]at hm
  |mk l=>
   obtain⟨b,els,e,h⟩:=h
   obtain⟨els',e',r⟩:=h.frz hd h20 hw hp
   refine⟨.sl t.sz els',?_,trivial,els',by simp[EP],r⟩
   cases v<;>simp only[LV]at b
   ·rename_i sz' els0
    simp only[EP]at e
    split at e
    ·rename_i hsz
     simp only[Option.some.injEq]at e
     subst e
     subst hsz
     simp only[Am.frz,if_neg hm,e',Option.map_some]
    ·cases e
   ·rename_i id k lo len
    simp only[EP]at e
    obtain⟨r0,hr,e⟩:=Option.bind_eq_some_iff.1 e
    split at e
    ·rename_i hc
     simp only[Option.some.injEq]at e
     subst e
     simp only[Am.frz,if_neg hm,hr,Option.bind_some,if_pos (show k=r0.2.2.length∧lo+len≤k from⟨hc.1,hc.2.2⟩),e',Option.map_some,hc.2.1]
    ·cases e
   ·rename_i sz' id off len
    simp only[EP]at e
    obtain⟨r0,hr,e⟩:=Option.bind_eq_some_iff.1 e
    split at e
    ·rename_i hc
     have he:some (BK t.sz len (r0.drop off))=some els:=e
     simp only[Option.some.injEq]at he
     subst he
     obtain⟨rfl,hc⟩:=hc
     simp only[Am.frz,if_neg hm,hr,Option.bind_some,if_pos hc,e',Option.map_some]
    ·cases e
end
def T.sl(t:T):T where
 α:=GS t.α
 sz:=1
 agg:=false
 dep:=t.dep+1
 R:=fun P H cs g=> ∃v,cs=[v]∧S5 t P H v g
 zc:=[.nils]
 z:= .nil
 hz:=fun _ _=>⟨_,rfl,rfl⟩
 one:=fun _=>rfl
 len:=fun⟨v,e,_⟩=>by rw[e];rfl
 sca:=fun⟨v,e,h⟩=>by rw[e];simp[h.sca]
 men:=fun⟨v,e,h⟩ hp=>by rw[e];simpa [Bu]using h.men hp
 mono:=fun m ⟨v,e,h⟩=>⟨v,e,h.mono m⟩
 cut:=fun⟨v,e,h⟩ hm hw hp=>⟨v,e,h.cut hw hp (by rw[e]at hm;simpa [Bu]using hm)⟩
 frz:=fun{_ _ _ _ _ _ d} ⟨v,e,h⟩ hd h20 hw hp=>by
  obtain⟨d,rfl⟩: ∃k,d=k+1:=⟨d-1,by omega⟩
  obtain⟨v',e',r⟩:=h.frz (d:=d) (by omega) (by omega) hw hp
  exact⟨[v'],by rw[e];simp[DL,e'],v',rfl,r⟩
theorem Ka{t:T}{P:Nat→Prop}{H:Ax}{v:AV}{g:GS t.α}:(T.sl t).V P H v g↔S5 t P H v g:=by
 constructor
 ·rintro(⟨a,_⟩|⟨_,w,h,r⟩)
  ·cases a
  ·cases h;exact r
 ·intro h
  exact .inr ⟨rfl,v,rfl,h⟩
end Go.Proofs.YtobejhpigbllpaaGreatDoor.Am
namespace Go.Proofs.YtobejhpigbllpaaGreatDoor.Am
inductive AL:Type 1 where
 |val (t:T) (x:t.α)
 |rp (t:T) (x:t.α)
 |cp (j off:Nat)
 |own (j:Nat)
 |ep (j i off:Nat)
 |tup (l:List (Σ t:T,t.α))
 |junk
 |con (v:AV)
 |kv (j:Nat)
 |fnv (f:Fn) (js ks:List Nat)
 |aggk (js:List Nat)
 |tupk (js:List Nat)
 |oc (j off sz len:Nat)
structure Dom where
 α:Type
 R:(Nat→Prop)→(Nat→Prop)→Ax→AV→α→Prop
 lt: ∀{F P:Nat→Prop} {H:Ax} {v:AV} {x:α},R F P H v x→ ∀i,F i→i<H.length
 men: ∀{F P:Nat→Prop} {H:Ax} {v:AV} {x:α} {m:Nat},R F P H v x→(∀i,P i→i<m)→(∀i,F i→i<m)→BS v≤m
 mono: ∀{F P Q:Nat→Prop} {H G:Ax} {v:AV} {x:α},(∀i,P i→Q i∧G[i]? =H[i]?)→(∀i,F i→G[i]? =H[i]?)→R F P H v x→R F Q G v x
inductive BM:Type 1 where
 |gone
 |cells (ps:List (Nat×AL))
 |row (t:T) (g:GS t.α)
 |dom (D:Dom) (x:D.α)
 |keep (φ:AL)
 |ghost (φ:AL)
 |rowk (sz:Nat) (els:List (List Nat))
abbrev Ts:=List (Nat×AL)
abbrev Ss:=List (Nat×BM)
structure Cx:Type 1 where
 ts:Ts
 ss:Ss
def BI:Ts→Nat→Option AL
 |[],_=>none
 |(u,φ)::r,t=>if u=t then some φ else BI r t
def AG:Ss→Nat→Option BM
 |[],_=>none
 |(u,φ)::r,t=>if u=t then some φ else AG r t
def uT:Option BM→Prop
 |none=>False
 |some .gone=>False
 |some (.ghost _)=>False
 |some _=>True
def D5:Option BM→Bool
 |some (.keep _)=>true
 |_=>false
def Bi(ss:Ss)(j:Nat):Prop:=uT (AG ss j)
structure P4 where
 h:Ax
 P0:Nat→Prop
 K:Nat→Prop
 lt: ∀i,P0 i→i<h.length
 pk: ∀i,P0 i→K i
 g:Nat→AV
abbrev Fp:=Nat→Nat→Prop
def ZR:Nat:=1000000
def Pf(E:P4)(ss:Ss)(fp:Fp)(H:Ax)(i:Nat):Prop:=
 (i<E.h.length∧E.P0 i)∨(E.h.length≤i∧i<H.length∧ ∀j,Bi ss j→ ¬fp j i)
def ZO(P:Nat→Prop):AV→Prop
 | .ptr id _=>P id
 | .pe id _ _ _=>P id
 | .ip _ _=>True
 |_=>False
def iU(t:T)(P:Nat→Prop)(H:Ax)(v:AV)(x:t.α):Prop:=
 ZO P v∧ ∃cs off,place H v=some (cs,off)∧off+t.sz≤cs.length∧t.R P H (sub cs off t.sz) x∧(∀m,(∀i,P i→i<m)→BS v≤m)
def UX(P:Nat→Prop)(H:Ax):List AV→List (Σ t:T,t.α)→Prop
 |[],[]=>True
 |v::r,p::q=>p.1.V P H v p.2∧UX P H r q
 |_,_=>False
def Mo(ss:Ss)(l:List Nat):Prop:= ∀j∈l,D5 (AG ss j)=true
def FR(rv:Nat→AV)(ss:Ss)(P:Nat→Prop)(H:Ax):AL→AV→Prop
 | .val t x,v=>t.V P H v x
 | .rp t x,v=>iU t P H v x
 | .cp j off,v=>Bi ss j∧ ∃id,rv j= .ptr id 0∧v= .ptr id off
 | .own j,v=>Bi ss j∧v=rv j
 | .ep j i off,v=>Bi ss j∧ ∃id n,rv j= .orow id n 0 n∧i<n∧v= .pe id n i off
 | .tup l,v=> ∃vs,v= .tup vs∧UX P H vs l
 | .junk,_=>True
 | .con c,v=>v=c∧BS c=0∧scal c=true
 | .kv j,v=>Mo ss [j]∧v=rv j
 | .fnv f js ks,v=>Mo ss (js++ks)∧v= .fn f (js.map rv) (ks.map rv)
 | .aggk js,v=>Mo ss js∧v= .agg (js.flatMap fun j=>cellsOf (rv j))
 | .tupk js,v=>Mo ss js∧v= .tup (js.map rv)
 | .oc j off sz len,v=>Bi ss j∧ ∃id,rv j= .ptr id 0∧v= .ocel sz id off len
def FC(rv:Nat→AV)(ss:Ss)(P:Nat→Prop)(H:Ax):AL→List AV→Prop
 | .val t x,c=>t.R P H c x
 | .tup _,_=>False
 | .junk,c=>Bu c≤H.length
 |φ,c=> ∃v,c=[v]∧FR rv ss P H φ v
def PR(rv:Nat→AV)(ss:Ss)(P:Nat→Prop)(H:Ax):List (Nat×AL)→List AV→Prop
 |[],cs=>cs=[]
 |(n,φ)::r,cs=> ∃c d,cs=c++d∧c.length=n∧FC rv ss P H φ c∧PR rv ss P H r d
def SR(rv:Nat→AV)(fp:Fp)(ss:Ss)(P:Nat→Prop)(H:Ax)(j:Nat):BM→Prop
 | .gone=>True
 | .cells ps=> ∃id cs,rv j= .ptr id 0∧(∀i,fp j i↔i=id)∧Cq H id=some cs∧PR rv ss P H ps cs
 | .row t .nil=>rv j= .nils∧ ∀i,¬fp j i
 | .row t (.mk l)=> ∃id els,rv j= .orow id els.length 0 els.length∧(∀i,fp j i↔i=id)∧rowAt H id=some (false,t.sz,els)∧Do t P H els l
 | .dom D x=>D.R (fp j) P H (rv j) x
 | .keep φ=>FR rv ss P H φ (rv j)∧ ∀i,¬fp j i
 | .ghost _=>True
 | .rowk sz els=>Mo ss els.flatten∧ ∃id,rv j= .orow id els.length 0 els.length∧(∀i,fp j i↔i=id)∧rowAt H id=some (false,sz,els.map fun js=>js.flatMap fun j=>cellsOf (rv j))
structure Bx(E:P4)(Γ:Cx)(rv:Nat→AV)(fp:Fp)(f:Fr)(H:Ax):Prop where
 le:E.h.length≤H.length
 base: ∀i,i<E.h.length→E.K i→H[i]? =E.h[i]?
 wf:Dh H≤H.length
 fplt: ∀j i,Bi Γ.ss j→fp j i→i<H.length∧(i<E.h.length→ ¬E.K i∧ZR≤j)
 rvlt: ∀j,Bi Γ.ss j→BS (rv j)≤H.length
 scal: ∀j,Bi Γ.ss j→D5 (AG Γ.ss j)=true∨scal (rv j)=true
 inj: ∀j k i,Bi Γ.ss j→Bi Γ.ss k→fp j i→fp k i→j=k
 slots: ∀j S,AG Γ.ss j=some S→SR rv fp Γ.ss (Pf E Γ.ss fp H) H j S
 temps: ∀t φ,BI Γ.ts t=some φ→FR rv Γ.ss (Pf E Γ.ss fp H) H φ (get f t)
 gh: ∀j φ,AG Γ.ss j=some (.ghost φ)→FR rv Γ.ss (Pf E Γ.ss fp H) H φ (E.g j)
def Rel(E:P4)(Γ:Cx)(f:Fr)(H:Ax):Prop:= ∃rv fp,Bx E Γ rv fp f H
theorem Pf.lt{E:P4}{ss:Ss}{fp:Fp}{H:Ax}(le:E.h.length≤H.length){i:Nat}(h:Pf E ss fp H i):i<H.length:=by
 rcases h with h|h
 ·omega
 ·exact h.2.1
section
variable{rv rv':Nat→AV}{fp fp':Fp}{ss ss':Ss}{P Q:Nat→Prop}{H G:Ax}
theorem UX.mono(m: ∀i,P i→Q i∧G[i]? =H[i]?): ∀{vs:List AV} {l:List (Σ t:T,t.α)},UX P H vs l→UX Q G vs l
 |[],[],_=>trivial
 |_::_,_::_,h=>⟨h.1.mono m,UX.mono m h.2⟩
theorem jI{v:AV}(m: ∀i,P i→Q i∧G[i]? =H[i]?)(h:ZO P v):place G v=place H v:=by
 cases v<;>simp only[ZO]at h<;>simp only[place]
 ·rw[NR (m _ h).2]
 ·rw[N4 (m _ h).2]
theorem pJ{v:AV}(m: ∀i,P i→Q i)(h:ZO P v):ZO Q v:=by
 cases v<;>simp only[ZO]at h ⊢
 ·exact m _ h
 ·exact m _ h
theorem iU.mono{t:T}{v:AV}{x:t.α}(m: ∀i,P i→Q i∧G[i]? =H[i]?)(h:iU t P H v x):iU t Q G v x:=by
 obtain⟨hp,cs,off,e,l,r,hm⟩:=h
 exact⟨pJ (fun i hi=>(m i hi).1) hp,cs,off,by rw[jI m hp];exact e,l,t.mono m r,fun k hk=>hm k fun i hi=>hk i (m i hi).1⟩
def EN(j:Nat):AL→Prop
 | .cp k _=>k≠j
 | .oc k _ _ _=>k≠j
 | .own k=>k≠j
 | .ep k _ _=>k≠j
 | .kv k=>k≠j
 | .fnv _ js ks=>j∉js++ks
 | .aggk js=>j∉js
 | .tupk js=>j∉js
 |_=>True
def TD(rv rv':Nat→AV)(ss ss':Ss)(φ:AL):Prop:= ∀j,¬EN j φ→Bi ss j→(Bi ss' j∧(D5 (AG ss j)=true→D5 (AG ss' j)=true))∧rv' j=rv j
theorem L5{ss:Ss}{j:Nat}(h:D5 (AG ss j)=true):Bi ss j:=by
 simp only[Bi]
 cases e:AG ss j with
 |none=>rw[e]at h;cases h
 |some S=>rw[e]at h;cases S<;>simp only[D5,Bool.false_eq_true]at h<;>trivial
theorem HE{ss ss':Ss}{l:List Nat}(h:Mo ss l)(s: ∀j∈l,Bi ss j→(Bi ss' j∧(D5 (AG ss j)=true→D5 (AG ss' j)=true))∧rv' j=rv j):Mo ss' l∧l.map rv'=l.map rv∧(l.flatMap fun j=>cellsOf (rv' j))=l.flatMap fun j=>cellsOf (rv j):=by
 induction l with
 |nil=>exact⟨fun j hj=>(by cases hj),rfl,rfl⟩
 |cons k l ih=>
  obtain⟨h1,h2,h3⟩:=ih (fun j hj=>h j (List.mem_cons_of_mem _ hj)) (fun j hj=>s j (List.mem_cons_of_mem _ hj))
  have hk:=h k List.mem_cons_self
  obtain⟨⟨_,a⟩,b⟩:=s k List.mem_cons_self (L5 hk)
  refine⟨fun j hj=> ?_,by simp only[List.map_cons,b,h2],by simp only[List.flatMap_cons,b,h3]⟩
  rcases List.mem_cons.1 hj with rfl|hj
  ·exact a hk
  ·exact h1 j hj
theorem FR.mono{φ:AL}{v:AV}(m: ∀i,P i→Q i∧G[i]? =H[i]?)(s:TD rv rv' ss ss' φ)(h:FR rv ss P H φ v):FR rv' ss' Q G φ v:=by
 cases φ with
 |val t x=>exact T.V.mono m h
 |rp t x=>exact iU.mono m h
 |cp j off=>
  obtain⟨l,id,e,hv⟩:=h
  obtain⟨⟨l',_⟩,e'⟩:=s j (by simp[EN]) l
  exact⟨l',id,e'.trans e,hv⟩
 |oc j off sz len=>
  obtain⟨l,id,e,hv⟩:=h
  obtain⟨⟨l',_⟩,e'⟩:=s j (by simp[EN]) l
  exact⟨l',id,e'.trans e,hv⟩
 |own j=>
  obtain⟨l,h⟩:=h
  obtain⟨⟨l',_⟩,e'⟩:=s j (by simp[EN]) l
  exact⟨l',h.trans e'.symm⟩
 |ep j i off=>
  obtain⟨l,id,n,e,hi,hv⟩:=h
  obtain⟨⟨l',_⟩,e'⟩:=s j (by simp[EN]) l
  exact⟨l',id,n,e'.trans e,hi,hv⟩
 |tup l=>
  obtain⟨vs,e,h⟩:=h
  exact⟨vs,e,h.mono m⟩
 |junk=>trivial
 |con c=>exact h
 |kv j=>
  obtain⟨h1,h2⟩:=h
  obtain⟨a,b,c⟩:=HE (rv:=rv) (rv':=rv') (ss':=ss') h1 fun k hk=>by
   obtain rfl:=List.mem_singleton.1 hk
   exact s k (by simp[EN])
  exact⟨a,h2.trans (by simpa using b.symm)⟩
 |fnv f js ks=>
  obtain⟨h1,h2⟩:=h
  obtain⟨a,b,c⟩:=HE (rv:=rv) (rv':=rv') (ss':=ss') h1 fun k hk=>s k (fun hn=>hn hk)
  have hj:js.map rv'=js.map rv∧ks.map rv'=ks.map rv:=by
   rw[List.map_append,List.map_append]at b
   exact List.append_inj b (by simp)
  exact⟨a,by rw[h2,hj.1,hj.2]⟩
 |aggk js=>
  obtain⟨h1,h2⟩:=h
  obtain⟨a,b,c⟩:=HE (rv:=rv) (rv':=rv') (ss':=ss') h1 fun k hk=>s k (fun hn=>hn hk)
  exact⟨a,by rw[h2,c]⟩
 |tupk js=>
  obtain⟨h1,h2⟩:=h
  obtain⟨a,b,c⟩:=HE (rv:=rv) (rv':=rv') (ss':=ss') h1 fun k hk=>s k (fun hn=>hn hk)
  exact⟨a,by rw[h2,b]⟩
theorem FC.mono{φ:AL}{c:List AV}(m: ∀i,P i→Q i∧G[i]? =H[i]?)(hl:H.length≤G.length)(s:TD rv rv' ss ss' φ)(h:FC rv ss P H φ c):FC rv' ss' Q G φ c:=by
 cases φ with
 |val t x=>exact t.mono m h
 |rp t x=>obtain⟨v,e,h⟩:=h;exact⟨v,e,FR.mono m s h⟩
 |cp j off=>obtain⟨v,e,h⟩:=h;exact⟨v,e,FR.mono m s h⟩
 |oc j off sz len=>obtain⟨v,e,h⟩:=h;exact⟨v,e,FR.mono m s h⟩
 |own j=>obtain⟨v,e,h⟩:=h;exact⟨v,e,FR.mono m s h⟩
 |ep j i off=>obtain⟨v,e,h⟩:=h;exact⟨v,e,FR.mono m s h⟩
 |tup l=>exact h
 |junk=>exact Nat.le_trans h hl
 |con c=>obtain⟨v,e,h⟩:=h;exact⟨v,e,FR.mono m s h⟩
 |kv j=>obtain⟨v,e,h⟩:=h;exact⟨v,e,FR.mono m s h⟩
 |fnv f js ks=>obtain⟨v,e,h⟩:=h;exact⟨v,e,FR.mono m s h⟩
 |aggk js=>obtain⟨v,e,h⟩:=h;exact⟨v,e,FR.mono m s h⟩
 |tupk js=>obtain⟨v,e,h⟩:=h;exact⟨v,e,FR.mono m s h⟩
theorem PR.mono(m: ∀i,P i→Q i∧G[i]? =H[i]?)(hl:H.length≤G.length): ∀{ps:List (Nat×AL)} {cs:List AV},(∀p∈ps,TD rv rv' ss ss' p.2)→PR rv ss P H ps cs→PR rv' ss' Q G ps cs
 |[],_,_,h=>h
 |(n,φ)::r,cs,s,⟨c,d,e,l,h,g⟩=>⟨c,d,e,l,FC.mono m hl (s _ List.mem_cons_self) h,PR.mono m hl (fun p hp=>s p (List.mem_cons_of_mem _ hp)) g⟩
theorem UX.men{n:Nat}(hp: ∀i,P i→i<n): ∀{vs:List AV} {l:List (Σ t:T,t.α)},UX P H vs l→Bu vs≤n
 |[],[],_=>by simp[Bu]
 |_::_,_::_,h=>by simp only[Bu];have:=h.1.men hp;have:=UX.men hp h.2;omega
theorem dY(v:AV):Bu (cellsOf v)≤BS v:=by
 cases v<;>simp[cellsOf,Bu,BS]
theorem L4{n:Nat}(hi: ∀j,Bi ss j→BS (rv j)≤n): ∀{l:List Nat},Mo ss l→Bu (l.map rv)≤n∧Bu (l.flatMap fun j=>cellsOf (rv j))≤n
 |[],_=>by simp[Bu]
 |k::l,h=>by
  obtain⟨h1,h2⟩:=L4 hi (l:=l) fun j hj=>h j (List.mem_cons_of_mem _ hj)
  have h3:=hi k (L5 (h k List.mem_cons_self))
  have h4:=dY (rv k)
  simp only[List.map_cons,Bu,List.flatMap_cons,GG]
  omega
theorem FR.men{φ:AL}{v:AV}{n:Nat}(hp: ∀i,P i→i<n)(hi: ∀j,Bi ss j→BS (rv j)≤n)(hj:φ≠ .junk)(h:FR rv ss P H φ v):BS v≤n:=by
 cases φ with
 |val t x=>exact T.V.men h hp
 |rp t x=>exact h.2.choose_spec.choose_spec.2.2.2 n hp
 |cp j off=>obtain⟨l,id,e,rfl⟩:=h;have:=hi j l;rw[e]at this;simpa [BS]using this
 |oc j off sz len=>obtain⟨l,id,e,rfl⟩:=h;have:=hi j l;rw[e]at this;simpa [BS]using this
 |own j=>obtain⟨l,rfl⟩:=h;exact hi j l
 |ep j i off=>obtain⟨l,id,m,e,_,rfl⟩:=h;have:=hi j l;rw[e]at this;simpa [BS]using this
 |tup l=>obtain⟨vs,rfl,h⟩:=h;simpa [BS]using h.men hp
 |junk=>exact absurd rfl hj
 |con c=>obtain⟨rfl,h,_⟩:=h;omega
 |kv j=>obtain⟨h,rfl⟩:=h;exact hi j (L5 (h j (by simp)))
 |fnv f js ks=>
  obtain⟨h,rfl⟩:=h
  have h1:=(L4 hi (l:=js) fun j hj=>h j (by simp[hj])).1
  have h2:=(L4 hi (l:=ks) fun j hj=>h j (by simp[hj])).1
  simp only[BS];omega
 |aggk js=>obtain⟨h,rfl⟩:=h;simpa [BS]using (L4 hi h).2
 |tupk js=>obtain⟨h,rfl⟩:=h;simpa [BS]using (L4 hi h).1
theorem FC.men{φ:AL}{c:List AV}(hp: ∀i,P i→i<H.length)(hi: ∀j,Bi ss j→BS (rv j)≤H.length)(h:FC rv ss P H φ c):Bu c≤H.length:=by
 have one: ∀{ψ:AL},ψ≠ .junk→(∃v,c=[v]∧FR rv ss P H ψ v)→Bu c≤H.length:=by
  rintro ψ hj ⟨v,rfl,h'⟩
  simpa [Bu]using FR.men hp hi hj h'
 cases φ with
 |val t x=>exact t.men h hp
 |tup l=>exact h.elim
 |junk=>exact h
 |rp t x=>exact one (by simp) h
 |cp j off=>exact one (by simp) h
 |oc j off sz len=>exact one (by simp) h
 |own j=>exact one (by simp) h
 |ep j i off=>exact one (by simp) h
 |con c=>exact one (by simp) h
 |kv j=>exact one (by simp) h
 |fnv f js ks=>exact one (by simp) h
 |aggk js=>exact one (by simp) h
 |tupk js=>exact one (by simp) h
theorem PR.men(hp: ∀i,P i→i<H.length)(hi: ∀j,Bi ss j→BS (rv j)≤H.length): ∀{ps:List (Nat×AL)} {cs:List AV},PR rv ss P H ps cs→Bu cs≤H.length
 |[],_,h=>by rw[show _=[]from h];simp[Bu]
 |(n,φ)::r,cs,⟨c,d,e,l,h,g⟩=>by
  rw[e,GG]
  have:=FC.men hp hi h
  have:=PR.men hp hi g
  omega
def TK:List (Nat×AL)→Nat
 |[]=>0
 |(n,_)::r=>n+TK r
theorem PR.length: ∀{ps:List (Nat×AL)} {cs:List AV},PR rv ss P H ps cs→cs.length=TK ps
 |[],_,h=>by rw[show _=[]from h];rfl
 |(n,φ)::r,cs,⟨c,d,e,l,h,g⟩=>by rw[e,List.length_append,l,PR.length g];rfl
theorem SR.keep{k:Nat}{S:BM}(h:SR rv fp ss P H k S)(hrv:rv' k=rv k)(hfp:fp' k=fp k)(m: ∀i,P i→Q i∧G[i]? =H[i]?)(hl:H.length≤G.length)
  (hg: ∀i,fp k i→G[i]? =H[i]?) (hs: ∀ps,S= .cells ps→ ∀p∈ps,TD rv rv' ss ss' p.2) (hsk: ∀φ,S= .keep φ→TD rv rv' ss ss' φ) (hse: ∀sz els,S= .rowk sz els→TD rv rv' ss ss' (.aggk els.flatten)):SR rv' fp' ss' Q G k S:=by
 cases S with
 |rowk sz els=>
  obtain⟨h0,id,h1,h2,h3⟩:=h
  have hs:=hse sz els rfl
  have h4:=(HE (rv:=rv) (rv':=rv') (ss':=ss') h0 fun j hj=>hs j (fun hn=>hn hj)).1
  have h5:(els.map fun js=>js.flatMap fun j=>cellsOf (rv' j))=els.map fun js=>js.flatMap fun j=>cellsOf (rv j):=by
   apply List.map_congr_left
   intro js hjs
   exact(HE (rv:=rv) (rv':=rv') (ss':=ss') (fun j hj=>h0 j (List.mem_flatten.2 ⟨js,hjs,hj⟩)) fun j hj=>hs j (fun hn=>hn (List.mem_flatten.2 ⟨js,hjs,hj⟩))).2.2
  exact⟨h4,id,hrv.trans h1,by rw[hfp];exact h2,by rw[h5,N4 (hg id ((h2 id).2 rfl))];exact h3⟩
 |gone=>trivial
 |ghost φ=>trivial
 |keep φ=>
  obtain⟨h1,h2⟩:=h
  exact⟨by rw[hrv];exact FR.mono m (hsk φ rfl) h1,by rw[hfp];exact h2⟩
 |cells ps=>
  obtain⟨id,cs,h1,h0,h2,h3⟩:=h
  exact⟨id,cs,hrv.trans h1,by rw[hfp];exact h0,by rw[NR (hg id ((h0 id).2 rfl))];exact h2,h3.mono m hl (hs ps rfl)⟩
 |row t g=>
  cases g with
  |nil=>exact⟨hrv.trans h.1,by rw[hfp];exact h.2⟩
  |mk l=>
   obtain⟨id,els,h1,h0,h2,h3⟩:=h
   exact⟨id,els,hrv.trans h1,by rw[hfp];exact h0,by rw[N4 (hg id ((h0 id).2 rfl))];exact h2,h3.mono m⟩
 |dom D x=>
  show D.R _ _ _ _ _
  rw[hrv,hfp]
  exact D.mono m hg h
end
def Cx.push(Γ:Cx)(d:Nat)(φ:AL):Cx:=⟨(d,φ)::Γ.ts,Γ.ss⟩
def Cx.all(Γ:Cx)(p:AL→Prop):Prop:=(∀t φ,BI Γ.ts t=some φ→p φ)∧(∀k ps,AG Γ.ss k=some (.cells ps)→ ∀q∈ps,p q.2)∧(∀k φ,(AG Γ.ss k=some (.keep φ)∨AG Γ.ss k=some (.ghost φ))→p φ)∧ ∀k sz els,AG Γ.ss k=some (.rowk sz els)→p (.aggk els.flatten)
theorem SX{ss:Ss}{j k:Nat}{S:BM}(hk:k≠j):Bi ((j,S)::ss) k↔Bi ss k:=by simp only[Bi,AG,if_neg (Ne.symm hk)]
def Q4:BM→Bool
 | .gone=>true
 | .ghost _=>true
 |_=>false
theorem pV{ss:Ss}{j:Nat}{S:BM}(hS:Q4 S=false):Bi ((j,S)::ss) j:=by
 simp only[Bi,AG,if_true]
 cases S<;>first|(simp[Q4]at hS;done)|trivial
theorem NH{ss:Ss}{j:Nat}{S:BM}(h:AG ss j=some S)(hS:Q4 S=false):Bi ss j:=by
 simp only[Bi,h]
 cases S<;>first|(simp[Q4]at hS;done)|trivial
theorem HY{ss:Ss}{j:Nat}(h:AG ss j=none): ¬Bi ss j:=by simp only[Bi,h];exact fun l=>l
theorem PH(a b:Ax):Dh (a++b)=max (Dh a) (Dh b):=by
 induction a with
 |nil=>simp[Dh]
 |cons x a ih=>simp only[List.cons_append,Dh,ih];omega
theorem HX{o:BW}{m:Nat}: ∀{l:Ax} {i:Nat},Dh l≤m→ED o≤m→Dh (l.set i o)≤m
 |[],i,h1,h2=>by simpa using h1
 |x::l,0,h1,h2=>by simp only[List.set_cons_zero,Dh]at h1 ⊢;omega
 |x::l,i+1,h1,h2=>by
  simp only[List.set_cons_succ,Dh]at h1 ⊢
  have:=HX (l:=l) (i:=i) (o:=o) (m:=m) (by omega) h2
  omega
section
variable{E:P4}{Γ:Cx}{rv:Nat→AV}{fp:Fp}{f:Fr}{H:Ax}
theorem Bx.ltP(I:Bx E Γ rv fp f H): ∀i,Pf E Γ.ss fp H i→i<H.length:=fun _ h=>h.lt I.le
theorem Bx.push(I:Bx E Γ rv fp f H){d:Nat}{φ:AL}{v:AV}(h:FR rv Γ.ss (Pf E Γ.ss fp H) H φ v):Bx E (Γ.push d φ) rv fp (put f (some d) v) H:=by
 refine⟨I.le,I.base,I.wf,I.fplt,I.rvlt,I.scal,I.inj,I.slots,?_,I.gh⟩
 intro t ψ e
 simp only[Cx.push,BI]at e
 simp only[put,get]
 split at e
 ·rename_i hd
  rw[if_pos hd]
  cases e
  exact h
 ·rename_i hd
  rw[if_neg hd]
  exact I.temps t ψ e
theorem Bx.fr(I:Bx E Γ rv fp f H){f':Fr}(h: ∀t φ,BI Γ.ts t=some φ→get f' t=get f t):Bx E Γ rv fp f' H:=
 ⟨I.le,I.base,I.wf,I.fplt,I.rvlt,I.scal,I.inj,I.slots,fun t φ e=>by rw[h t φ e];exact I.temps t φ e,I.gh⟩
theorem Bx.chg(I:Bx E Γ rv fp f H){j:Nat}{S:BM}{v:AV}{F:Nat→Prop}{G:Ax}(hnk:D5 (AG Γ.ss j)=false)(hS:Q4 S=false)(hl:H.length≤G.length)(hG: ∀i,i<H.length→(Bi Γ.ss j→ ¬fp j i)→G[i]? =H[i]?)
  (hF: ∀i,F i→(Bi Γ.ss j∧fp j i)∨(H.length≤i∧i<G.length)) (hk:Bi Γ.ss j→v=rv j∨Γ.all (EN j)) (hw:Dh G≤G.length) (hv:BS v≤G.length) (hsc:D5 (some S)=true∨Am.scal v=true)
  (hs: ∀(rv':Nat→AV) (fp':Fp),rv' j=v→fp' j=F→(∀i,Pf E Γ.ss fp H i→Pf E ((j,S)::Γ.ss) fp' G i∧G[i]? =H[i]?)→(∀φ,(Bi Γ.ss j→v=rv j∨EN j φ)→TD rv rv' Γ.ss ((j,S)::Γ.ss) φ)→
   SR rv' fp' ((j,S)::Γ.ss) (Pf E ((j,S)::Γ.ss) fp' G) G j S):
  ∃rv' fp',rv' j=v∧Bi ((j,S)::Γ.ss) j∧Bx E ⟨Γ.ts,(j,S)::Γ.ss⟩ rv' fp' f G:=by
 let rv':Nat→AV:=fun k=>if k=j then v else rv k
 let fp':Fp:=fun k=>if k=j then F else fp k
 have hrj:rv' j=v:=if_pos rfl
 have hfj:fp' j=F:=if_pos rfl
 have hr: ∀k,k≠j→rv' k=rv k:=fun k hk=>if_neg hk
 have hf: ∀k,k≠j→fp' k=fp k:=fun k hk=>if_neg hk
 have hlj:Bi ((j,S)::Γ.ss) j:=pV hS
 have hlv: ∀k,k≠j→(Bi ((j,S)::Γ.ss) k↔Bi Γ.ss k):=fun k hk=>SX hk
 have hnot: ∀i,Pf E Γ.ss fp H i→Bi Γ.ss j→ ¬fp j i:=by
  rintro i (⟨h1,h2⟩|⟨_,_,h⟩) l e
  ·exact((I.fplt j i l e).2 h1).1 (E.pk i h2)
  ·exact h j l e
 have hP: ∀i,Pf E Γ.ss fp H i→Pf E ((j,S)::Γ.ss) fp' G i∧G[i]? =H[i]? :=by
  intro i h
  refine⟨?_,hG i (h.lt I.le) (hnot i h)⟩
  rcases h with h|⟨h1,h2,h3⟩
  ·exact .inl h
  ·refine .inr ⟨h1,by omega,fun k l e=> ?_⟩
   by_cases hkj:k=j
   ·subst hkj
    rw[hfj]at e
    rcases hF i e with ⟨l',e'⟩|⟨h4,_⟩
    ·exact h3 k l' e'
    ·omega
   ·rw[hf k hkj]at e
    exact h3 k ((hlv k hkj).1 l) e
 have hsame: ∀φ,(Bi Γ.ss j→v=rv j∨EN j φ)→TD rv rv' Γ.ss ((j,S)::Γ.ss) φ:=by
  intro φ hφ k hkr l
  by_cases hkj:k=j
  ·subst hkj
   rcases hφ l with h|h
   ·exact⟨⟨hlj,fun e=>by rw[hnk]at e;cases e⟩,hrj.trans h⟩
   ·exact absurd h hkr
  ·exact⟨⟨(hlv k hkj).2 l,fun e=>by simp only[AG,if_neg (Ne.symm hkj)];exact e⟩,hr k hkj⟩
 refine⟨rv',fp',hrj,hlj,?_,?_,hw,?_,?_,?_,?_,?_,?_,?_⟩
 ·have:=I.le;omega
 ·intro i hi hK
  have hnf:Bi Γ.ss j→ ¬fp j i:=fun l e=>((I.fplt j i l e).2 hi).1 hK
  rw[hG i (by have:=I.le;omega) hnf];exact I.base i hi hK
 ·intro k i l e
  by_cases hkj:k=j
  ·subst hkj
   rw[hfj]at e
   rcases hF i e with ⟨l',e'⟩|⟨h1,h2⟩
   ·have:=I.fplt k i l' e'
    exact⟨by omega,this.2⟩
   ·exact⟨h2,fun h=>absurd h (by have:=I.le;omega)⟩
  ·rw[hf k hkj]at e
   have:=I.fplt k i ((hlv k hkj).1 l) e
   exact⟨by omega,this.2⟩
 ·intro k l
  by_cases hkj:k=j
  ·subst hkj;rw[hrj];exact hv
  ·rw[hr k hkj];have:=I.rvlt k ((hlv k hkj).1 l);omega
 ·intro k l
  by_cases hkj:k=j
  ·subst hkj;rw[hrj];exact hsc.imp (fun h=>by simp only[AG,if_true];exact h) id
  ·rw[hr k hkj];exact(I.scal k ((hlv k hkj).1 l)).imp (fun h=>by simp only[AG,if_neg (Ne.symm hkj)];exact h) id
 ·intro k k' i l l' e e'
  by_cases hkj:k=j<;>by_cases hkj':k'=j
  ·rw[hkj,hkj']
  ·subst hkj
   rw[hfj]at e
   rw[hf k' hkj']at e'
   rcases hF i e with ⟨l1,e1⟩|⟨h1,_⟩
   ·exact I.inj k k' i l1 ((hlv k' hkj').1 l') e1 e'
   ·have:=(I.fplt k' i ((hlv k' hkj').1 l') e').1;omega
  ·subst hkj'
   rw[hfj]at e'
   rw[hf k hkj]at e
   rcases hF i e' with ⟨l1,e1⟩|⟨h1,_⟩
   ·exact I.inj k k' i ((hlv k hkj).1 l) l1 e e1
   ·have:=(I.fplt k i ((hlv k hkj).1 l) e).1;omega
  ·rw[hf k hkj]at e
   rw[hf k' hkj']at e'
   exact I.inj k k' i ((hlv k hkj).1 l) ((hlv k' hkj').1 l') e e'
 ·intro k S' e
  rw[AG]at e
  split at e
  ·rename_i hkj
   cases e
   subst hkj
   exact hs rv' fp' hrj hfj hP hsame
  ·rename_i hkj
   by_cases hg:Q4 S'=true
   ·cases S'<;>first|trivial|(simp[Q4]at hg;done)
   ·have hlk:=NH e (by simpa using hg)
    refine(I.slots k S' e).keep (hr k (Ne.symm hkj)) (hf k (Ne.symm hkj)) hP hl (fun i hi=>hG i (I.fplt k i hlk hi).1 fun l e'=>hkj (I.inj j k i l hlk e' hi)) (fun ps hps p hp=>hsame p.2 fun l=> ?_) (fun φ hφ=>hsame φ fun l=> ?_) fun sz els he=>hsame _ fun l=> ?_
    ·subst hps
     exact(hk l).imp (fun h=>h) fun h=>h.2.1 k ps e p hp
    ·subst hφ
     exact(hk l).imp (fun h=>h) fun h=>h.2.2.1 k φ (.inl e)
    ·subst he
     exact(hk l).imp (fun h=>h) fun h=>h.2.2.2 k sz els e
 ·intro t φ e
  exact(I.temps t φ e).mono hP (hsame φ fun l=>(hk l).imp (fun h=>h) fun h=>h.1 t φ e)
 ·intro k φ e
  rw[AG]at e
  split at e
  ·rename_i hkj
   cases e
   simp[Q4]at hS
  ·exact(I.gh k φ e).mono hP (hsame φ fun l=>(hk l).imp (fun h=>h) fun h=>h.2.2.1 k φ (.inr e))
theorem Bx.more(I:Bx E Γ rv fp f H){j:Nat}{S:BM}{v:AV}{o:BW}(hj: ¬Bi Γ.ss j)(hm:ED o≤H.length+1)(hS:Q4 S=false)(hv:BS v≤H.length+1)(hsc:Am.scal v=true)
  (hr: ∀(rv':Nat→AV) (fp':Fp),rv' j=v→(∀i,fp' j i↔i=H.length)→(∀i,Pf E Γ.ss fp H i→Pf E ((j,S)::Γ.ss) fp' (H++[o]) i∧(H++[o])[i]? =H[i]?)→
   (∀φ,TD rv rv' Γ.ss ((j,S)::Γ.ss) φ)→SR rv' fp' ((j,S)::Γ.ss) (Pf E ((j,S)::Γ.ss) fp' (H++[o])) (H++[o]) j S):
  ∃rv' fp',rv' j=v∧Bi ((j,S)::Γ.ss) j∧Bx E ⟨Γ.ts,(j,S)::Γ.ss⟩ rv' fp' f (H++[o]):=
 I.chg (F:=fun i=>i=H.length) (by
   cases e:D5 (AG Γ.ss j)with
   |false=>rfl
   |true=>exact absurd (L5 e) hj) hS (by simp) (fun i hi _=>List.getElem?_append_left hi) (fun i hi=> .inr ⟨by omega,by simp;omega⟩) (fun l=>absurd l hj)
  (by rw[PH];have:=I.wf;simp only[Dh,List.length_append,List.length_cons,List.length_nil];omega) (by simpa using hv) (.inr hsc)
  fun rv' fp' h1 h2 hP hs=>hr rv' fp' h1 (fun i=>by rw[h2]) hP fun φ=>hs φ fun l=>absurd l hj
theorem Bx.set(I:Bx E Γ rv fp f H){j id:Nat}{S:BM}{v:AV}{o:BW}(hnk:D5 (AG Γ.ss j)=false)(hl:Bi Γ.ss j)(hid: ∀i,fp j i↔i=id)(hm:ED o≤H.length)(hS:Q4 S=false)(hv:BS v≤H.length)(hk:v=rv j∨Γ.all (EN j))
  (hsc:D5 (AG Γ.ss j)=true∨Am.scal v=true)
  (hs: ∀(rv':Nat→AV) (fp':Fp),rv' j=v→(∀i,fp' j i↔i=id)→(∀i,Pf E Γ.ss fp H i→Pf E ((j,S)::Γ.ss) fp' (H.set id o) i∧(H.set id o)[i]? =H[i]?)→
   (∀φ,v=rv j∨EN j φ→TD rv rv' Γ.ss ((j,S)::Γ.ss) φ)→SR rv' fp' ((j,S)::Γ.ss) (Pf E ((j,S)::Γ.ss) fp' (H.set id o)) (H.set id o) j S):
  ∃rv' fp',rv' j=v∧Bi ((j,S)::Γ.ss) j∧Bx E ⟨Γ.ts,(j,S)::Γ.ss⟩ rv' fp' f (H.set id o):=
 I.chg (F:=fp j) hnk hS (by simp) (fun i _ hn=>List.getElem?_set_ne fun e=>hn hl ((hid i).2 e.symm)) (fun i hi=> .inl ⟨hl,hi⟩) (fun _=>hk) (by simpa using HX I.wf hm) (by simpa using hv) (hsc.elim (fun h=>by rw[hnk]at h;cases h) .inr)
  fun rv' fp' h1 h2 hP hs'=>hs rv' fp' h1 (fun i=>by rw[h2];exact hid i) hP fun φ h=>hs' φ fun _=>h
end
end Go.Proofs.YtobejhpigbllpaaGreatDoor.Am
namespace Go.Proofs.YtobejhpigbllpaaGreatDoor.Am
def RI(F:AL→AL):BM→BM
 | .cells ps=> .cells (ps.map fun p=>(p.1,F p.2))
 | .keep φ=> .keep (F φ)
 | .ghost φ=> .ghost (F φ)
 |s=>s
theorem SZ{F:AL→AL}(o:Option BM):D5 (o.map (RI F))=D5 o:=by
 cases o with
 |none=>rfl
 |some S=>cases S<;>rfl
theorem Tm{F:AL→AL}: ∀{ts:Ts} {t:Nat},BI (ts.map fun p=>(p.1,F p.2)) t=(BI ts t).map F
 |[],_=>rfl
 |(u,φ)::r,t=>by
  simp only[List.map_cons,BI]
  split
  ·rfl
  ·exact Tm
theorem Hr{F:AL→AL}: ∀{ss:Ss} {j:Nat},AG (ss.map fun p=>(p.1,RI F p.2)) j=(AG ss j).map (RI F)
 |[],_=>rfl
 |(u,φ)::r,t=>by
  simp only[List.map_cons,AG]
  split
  ·rfl
  ·exact Hr
theorem RK{F:AL→AL}{ss:Ss}{j:Nat}:Bi (ss.map fun p=>(p.1,RI F p.2)) j↔Bi ss j:=by
 simp only[Bi,Hr]
 cases AG ss j with
 |none=>exact Iff.rfl
 |some S=>cases S<;>exact Iff.rfl
theorem PR.map{rv rv':Nat→AV}{ss ss':Ss}{P Q:Nat→Prop}{H:Ax}{F:AL→AL}: ∀{ps:List (Nat×AL)} {cs:List AV},(∀p∈ps,∀c,FC rv ss P H p.2 c→FC rv' ss' Q H (F p.2) c)→PR rv ss P H ps cs→
  PR rv' ss' Q H (ps.map fun p=>(p.1,F p.2)) cs
 |[],_,_,h=>h
 |(n,φ)::r,cs,s,⟨c,d,e,l,h,g⟩=>⟨c,d,e,l,s _ List.mem_cons_self c h,PR.map (fun p hp=>s p (List.mem_cons_of_mem _ hp)) g⟩
section
variable{E:P4}{Γ:Cx}{rv:Nat→AV}{fp:Fp}{f:Fr}{H:Ax}
theorem Pf.same{ss ss':Ss}(h: ∀k,Bi ss' k→Bi ss k){i:Nat}:Pf E ss fp H i→Pf E ss' fp H i
 | .inl h=> .inl h
 | .inr ⟨h1,h2,h3⟩=> .inr ⟨h1,h2,fun j l=>h3 j (h j l)⟩
theorem Bx.map(I:Bx E Γ rv fp f H){F:AL→AL}{ss':Ss}(hf: ∀k S,AG ss' k=some S→S≠ .gone→ ∃S0,AG Γ.ss k=some S0∧S=RI F S0)(hag: ∀l,F (.aggk l)= .aggk l)
  (hFR:(∀i,Pf E Γ.ss fp H i→Pf E ss' fp H i)→ ∀φ v,FR rv Γ.ss (Pf E Γ.ss fp H) H φ v→FR rv ss' (Pf E ss' fp H) H (F φ) v)
  (hFC:(∀i,Pf E Γ.ss fp H i→Pf E ss' fp H i)→ ∀φ c,FC rv Γ.ss (Pf E Γ.ss fp H) H φ c→FC rv ss' (Pf E ss' fp H) H (F φ) c):Bx E ⟨Γ.ts.map fun p=>(p.1,F p.2),ss'⟩ rv fp f H:=by
 have hlv: ∀k,Bi ss' k→Bi Γ.ss k:=by
  intro k l
  simp only[Bi]at l
  cases h:AG ss' k with
  |none=>rw[h]at l;exact l.elim
  |some S=>
   rw[h]at l
   have hg:S≠ .gone:=by rintro rfl;exact l
   obtain⟨S0,h0,rfl⟩:=hf k S h hg
   exact NH h0 (by cases S0<;>first|rfl|exact l.elim)
 have hP: ∀i,Pf E Γ.ss fp H i→Pf E ss' fp H i:=fun i=>Pf.same hlv
 refine⟨I.le,I.base,I.wf,fun k i l e=>I.fplt k i (hlv k l) e,fun k l=>I.rvlt k (hlv k l),fun k l=>(I.scal k (hlv k l)).imp (fun h=> ?_) id,fun k k' i l l' e e'=>I.inj k k' i (hlv k l) (hlv k' l') e e',?_,?_,?_⟩
 ·simp only[Bi]at l
  cases e:AG ss' k with
  |none=>rw[e]at l;exact l.elim
  |some S=>
   rw[e]at l
   obtain⟨S0,h0,rfl⟩:=hf k S e (by rintro rfl;exact l)
   rw[h0]at h
   cases S0<;>first|rfl|exact h
 ·intro k S e
  by_cases hg:S= .gone
  ·subst hg;trivial
  ·obtain⟨S0,h0,rfl⟩:=hf k S e hg
   have h:=I.slots k S0 h0
   cases S0 with
   |gone=>trivial
   |cells ps=>
    obtain⟨id,cs,h1,h2,h3,h4⟩:=h
    exact⟨id,cs,h1,h2,h3,h4.map fun p _ c=>hFC hP p.2 c⟩
   |row t g=>
    cases g with
    |nil=>exact h
    |mk l=>
     obtain⟨id,els,h1,h2,h3,h4⟩:=h
     exact⟨id,els,h1,h2,h3,h4.mono fun i hi=>⟨hP i hi,rfl⟩⟩
   |dom D x=>exact D.mono (fun i hi=>⟨hP i hi,rfl⟩) (fun _ _=>rfl) h
   |keep φ=>
    obtain⟨h1,h2⟩:=h
    exact⟨hFR hP φ _ h1,h2⟩
   |ghost φ=>trivial
   |rowk sz els=>
    obtain⟨g0,id,g1,g2,g3⟩:=h
    have:=hFR hP (.aggk els.flatten) _ ⟨g0,rfl⟩
    rw[hag]at this
    exact⟨this.1,id,g1,g2,g3⟩
 ·intro t φ e
  simp only[Tm]at e
  obtain⟨ψ,h,rfl⟩:=Option.map_eq_some_iff.1 e
  exact hFR hP ψ _ (I.temps t ψ h)
 ·intro k φ e
  obtain⟨S0,h0,e'⟩:=hf k _ e (by simp)
  cases S0<;>simp only[RI,BM.ghost.injEq,reduceCtorEq]at e'
  subst e'
  exact hFR hP _ _ (I.gh k _ h0)
theorem FR.weak{ss ss':Ss}{P Q:Nat→Prop}{φ:AL}{v:AV}(hP: ∀i,P i→Q i)(hl: ∀j,¬EN j φ→Bi ss j→Bi ss' j∧(D5 (AG ss j)=true→D5 (AG ss' j)=true))(h:FR rv ss P H φ v):FR rv ss' Q H φ v:=
 h.mono (fun i hi=>⟨hP i hi,rfl⟩) fun j hj l=>⟨hl j hj l,rfl⟩
theorem FC.weak{ss ss':Ss}{P Q:Nat→Prop}{φ:AL}{c:List AV}(hP: ∀i,P i→Q i)(hl: ∀j,¬EN j φ→Bi ss j→Bi ss' j∧(D5 (AG ss j)=true→D5 (AG ss' j)=true))(h:FC rv ss P H φ c):FC rv ss' Q H φ c:=
 h.mono (fun i hi=>⟨hP i hi,rfl⟩) (Nat.le_refl _) fun j hj l=>⟨hl j hj l,rfl⟩
def OH(j:Nat)(F:AL→AL):AL→AL
 | .own k=>if k=j then F (.own k)else .own k
 | .ep k i o=>if k=j then F (.ep k i o)else .ep k i o
 | .cp k o=>if k=j then F (.cp k o)else .cp k o
 | .oc k o s n=>if k=j then F (.oc k o s n)else .oc k o s n
 |φ=>φ
def NB(j:Nat):AL→Prop
 | .kv k=>k≠j
 | .fnv _ js ks=>j∉js++ks
 | .aggk js=>j∉js
 | .tupk js=>j∉js
 |_=>True
theorem FR.noKeep{rv:Nat→AV}{ss:Ss}{P:Nat→Prop}{H:Ax}{φ:AL}{v:AV}{j:Nat}(hj:D5 (AG ss j)=false)(h:FR rv ss P H φ v):NB j φ:=by
 have no: ∀{l:List Nat},Mo ss l→j∉l:=fun h hm=>by have:=h j hm;rw[hj]at this;cases this
 cases φ<;>try exact trivial
 ·exact fun e=>no h.1 (by simp[e])
 ·exact no h.1
 ·exact no h.1
 ·exact no h.1
theorem OG{j:Nat}{F:AL→AL}{φ:AL}(h:EN j φ):OH j F φ=φ:=by
 cases φ<;>simp only[EN]at h<;>simp only[OH]<;>first|rfl|(rw[if_neg h])
theorem MS{j:Nat}{F:AL→AL}{φ:AL}(hk:NB j φ)(h: ¬EN j φ):OH j F φ=F φ:=by
 cases φ<;>first
  |(simp only[EN,not_true_eq_false,ne_eq,Decidable.not_not]at h;simp only[OH,if_pos h];done)
  |exact absurd hk h
  |exact absurd trivial h
def Cx.kill(Γ:Cx)(j:Nat):Cx:=⟨Γ.ts.map fun p=>(p.1,OH j (fun _=> .junk) p.2),Γ.ss.map fun p=>(p.1,RI (OH j fun _=> .junk) p.2)⟩
theorem Nt(j:Nat)(φ:AL)(hk:NB j φ):EN j (OH j (fun _=> .junk) φ):=by
 by_cases h:EN j φ
 ·rw[OG h];exact h
 ·rw[MS hk h];trivial
theorem Bx.noKeepT(I:Bx E Γ rv fp f H){j:Nat}(hj:D5 (AG Γ.ss j)=false):Γ.all (NB j):=by
 refine⟨fun t φ e=>FR.noKeep hj (I.temps t φ e),fun k ps e p hp=> ?_,fun k φ e=> ?_,fun k sz els e=> ?_⟩
 ·obtain⟨id,cs,_,_,_,h⟩:=I.slots k _ e
  have key: ∀{ps:List (Nat×AL)} {cs:List AV},PR rv Γ.ss (Pf E Γ.ss fp H) H ps cs→ ∀p∈ps,NB j p.2:=by
   intro ps
   induction ps with
   |nil=>intro cs _ p hp;cases hp
   |cons q ps ih=>
    rintro cs ⟨c,d,_,_,h1,h2⟩ p hp
    rcases List.mem_cons.1 hp with rfl|hp
    ·obtain⟨n,φ⟩:=p
     cases φ<;>first|trivial|exact h1.elim|(obtain⟨v,_,h1⟩:=h1;exact FR.noKeep hj h1)
    ·exact ih h2 p hp
  exact key h p hp
 ·rcases e with e|e
  ·exact FR.noKeep hj (I.slots k _ e).1
  ·exact FR.noKeep hj (I.gh k φ e)
 ·have h0:=(I.slots k _ e).1
  exact fun hm=>by have:=h0 j hm;rw[hj]at this;cases this
theorem iS(I:Bx E Γ rv fp f H){j:Nat}(hj:D5 (AG Γ.ss j)=false):(Γ.kill j).all (EN j):=by
 have hn:=I.noKeepT hj
 refine⟨fun t φ e=> ?_,fun k ps e p hp=> ?_,fun k φ e=> ?_,fun k sz els e=> ?_⟩
 ·simp only[Cx.kill,Tm]at e
  obtain⟨ψ,h,rfl⟩:=Option.map_eq_some_iff.1 e
  exact Nt j ψ (hn.1 t ψ h)
 ·simp only[Cx.kill,Hr]at e
  obtain⟨S,h,e⟩:=Option.map_eq_some_iff.1 e
  cases S<;>simp only[RI,BM.cells.injEq,reduceCtorEq]at e
  subst e
  obtain⟨q,hq,rfl⟩:=List.mem_map.1 hp
  exact Nt j q.2 (hn.2.1 k _ h q hq)
 ·simp only[Cx.kill,Hr]at e
  rcases e with e|e
  ·obtain⟨S,h,e⟩:=Option.map_eq_some_iff.1 e
   cases S<;>simp only[RI,BM.keep.injEq,reduceCtorEq]at e
   subst e
   exact Nt j _ (hn.2.2.1 k _ (.inl h))
  ·obtain⟨S,h,e⟩:=Option.map_eq_some_iff.1 e
   cases S<;>simp only[RI,BM.ghost.injEq,reduceCtorEq]at e
   subst e
   exact Nt j _ (hn.2.2.1 k _ (.inr h))
 ·simp only[Cx.kill,Hr]at e
  obtain⟨S,h,e⟩:=Option.map_eq_some_iff.1 e
  cases S<;>simp only[RI,BM.rowk.injEq,reduceCtorEq]at e
  obtain⟨rfl,rfl⟩:=e
  exact hn.2.2.2 k _ _ h
theorem Bx.kill(I:Bx E Γ rv fp f H)(j:Nat)(hj:D5 (AG Γ.ss j)=false):Bx E (Γ.kill j) rv fp f H:=by
 have hl: ∀k,Bi Γ.ss k→Bi (Γ.kill j).ss k∧(D5 (AG Γ.ss k)=true→D5 (AG (Γ.kill j).ss k)=true):=fun k h=>⟨RK.2 h,fun e=>by rw[Cx.kill];simp only[Hr,SZ];exact e⟩
 refine I.map (F:=OH j fun _=> .junk) (fun k S e _=> ?_) (fun l=> ?_) (fun hP φ v h=> ?_) (fun hP φ c h=> ?_)
 ·rw[Hr]at e
  obtain⟨S0,h0,rfl⟩:=Option.map_eq_some_iff.1 e
  exact⟨S0,h0,rfl⟩
 ·rfl
 ·by_cases hk:EN j φ
  ·rw[OG hk];exact h.weak hP fun k _=>hl k
  ·rw[MS (FR.noKeep hj h) hk];trivial
 ·by_cases hk:EN j φ
  ·rw[OG hk];exact h.weak hP fun k _=>hl k
  ·have hk':NB j φ:=by
    cases φ<;>first|trivial|exact h.elim|(obtain⟨v,_,h⟩:=h;exact FR.noKeep hj h)
   rw[MS hk' hk]
   exact FC.men I.ltP I.rvlt h
def Cx.turn(Γ:Cx)(j:Nat)(F:AL→AL):Cx:=⟨Γ.ts.map fun p=>(p.1,OH j F p.2),(j, .gone)::Γ.ss.map fun p=>(p.1,RI (OH j F) p.2)⟩
theorem Pf.gone(I:Bx E Γ rv fp f H){j id:Nat}(hl:Bi Γ.ss j)(hid:fp j id){ss':Ss}(h: ∀k,Bi ss' k→k≠j∧Bi Γ.ss k)(hn:E.h.length≤id):Pf E ss' fp H id:=
 .inr ⟨hn,(I.fplt j id hl hid).1,fun k l e=>(h k l).1 (I.inj k j id (h k l).2 hl e hid)⟩
theorem PJ{F:AL→AL}{ss:Ss}{j:Nat}: ∀k,Bi ((j, .gone)::ss.map fun p=>(p.1,RI F p.2)) k↔k≠j∧Bi ss k:=by
 intro k
 by_cases hk:k=j
 ·subst hk
  simp only[Bi,AG,if_true,uT,false_iff]
  exact fun h=>h.1 rfl
 ·rw[SX hk,RK]
  exact⟨fun h=>⟨hk,h⟩,fun h=>h.2⟩
theorem qL{F:AL→AL}{ss:Ss}{j k:Nat}(hk:k≠j)(h:D5 (AG ss k)=true):D5 (AG ((j, .gone)::ss.map fun p=>(p.1,RI F p.2)) k)=true:=by
 simp only[AG,if_neg (Ne.symm hk),Hr,SZ];exact h
theorem Bx.turn(I:Bx E Γ rv fp f H){j:Nat}{F:AL→AL}(hj:D5 (AG Γ.ss j)=false)
  (hF:(∀i,Pf E Γ.ss fp H i→Pf E (Γ.turn j F).ss fp H i)→ ∀φ v,¬EN j φ→FR rv Γ.ss (Pf E Γ.ss fp H) H φ v→FR rv (Γ.turn j F).ss (Pf E (Γ.turn j F).ss fp H) H (F φ) v∧FC rv (Γ.turn j F).ss (Pf E (Γ.turn j F).ss fp H) H (F φ) [v]):
  Bx E (Γ.turn j F) rv fp f H:=by
 have hlv: ∀k,Bi (Γ.turn j F).ss k↔k≠j∧Bi Γ.ss k:=PJ
 have keep: ∀φ,EN j φ→ ∀k,¬EN k φ→Bi Γ.ss k→Bi (Γ.turn j F).ss k∧(D5 (AG Γ.ss k)=true→D5 (AG (Γ.turn j F).ss k)=true):=fun φ h k hk l=>
  have hkj:k≠j:=fun e=>hk (e▸h)
  ⟨(hlv k).2 ⟨hkj,l⟩,qL hkj⟩
 refine I.map (F:=OH j F) (fun k S e hg=> ?_) (fun _=>rfl) (fun hP φ v h=> ?_) (fun hP φ c h=> ?_)
 ·simp only[Cx.turn,AG]at e
  split at e
  ·cases e;exact absurd rfl hg
  ·rw[Hr]at e
   obtain⟨S0,h0,rfl⟩:=Option.map_eq_some_iff.1 e
   exact⟨S0,h0,rfl⟩
 ·by_cases hn:EN j φ
  ·rw[OG hn];exact h.weak hP (keep φ hn)
  ·rw[MS (FR.noKeep hj h) hn];exact(hF hP φ v hn h).1
 ·by_cases hn:EN j φ
  ·rw[OG hn];exact h.weak hP (keep φ hn)
  ·have: ∃v,c=[v]∧FR rv Γ.ss (Pf E Γ.ss fp H) H φ v:=by
    cases φ<;>first|exact h|exact h.elim|exact absurd trivial hn
   obtain⟨v,rfl,h'⟩:=this
   rw[MS (FR.noKeep hj h') hn]
   exact(hF hP φ v hn h').2
theorem FR.one{ss:Ss}{P:Nat→Prop}(hi: ∀j,Bi ss j→BS (rv j)≤H.length){φ:AL}{v:AV}{j:Nat}(hp: ∀i,P i→i<H.length)(hn: ¬EN j φ)(h:FR rv ss P H φ v):Bu [v]≤H.length:=by
 simpa [Bu]using FR.men hp hi (by rintro rfl;exact hn trivial) h
def sM(t:T)(g:GS t.α):AL→AL
 | .own _=> .val (T.sl t) g
 |_=> .junk
theorem Bx.new(I:Bx E Γ rv fp f H){j:Nat}(hl:Bi Γ.ss j)(hn:Nat.blt j ZR=true)(i:Nat)(h:fp j i):E.h.length≤i:=by
 rcases Nat.lt_or_ge i E.h.length with h'|h'
 ·have h1:=((I.fplt j i hl h).2 h').2
  have h2:j<ZR:=by rw[Nat.blt,Nat.ble_eq]at hn;exact hn
  omega
 ·exact h'
theorem Bx.frzRow(I:Bx E Γ rv fp f H){j:Nat}{t:T}{g:GS t.α}(hj:AG Γ.ss j=some (.row t g))(hnb:Nat.blt j ZR=true):Bx E (Γ.turn j (sM t g)) rv fp f H:=by
 have hl:Bi Γ.ss j:=NH hj rfl
 have hn:=I.new hl hnb
 have hs:=I.slots j _ hj
 have hlv: ∀k,Bi (Γ.turn j (sM t g)).ss k↔k≠j∧Bi Γ.ss k:=PJ
 refine I.turn (by rw[hj];rfl) fun hP φ v hr h=> ?_
 have hnk:NB j φ:=FR.noKeep (by rw[hj];rfl) h
 have hone:=FR.one I.rvlt I.ltP hr h
 cases φ with
 |own k=>
  simp only[EN,ne_eq,Decidable.not_not]at hr
  subst hr
  obtain⟨_,rfl⟩:=h
  have:S5 t (Pf E (Γ.turn k (sM t g)).ss fp H) H (rv k) g:=by
   cases g with
   |nil=>exact hs.1
   |mk l=>
    obtain⟨id,els,h1,h0,h2,h3⟩:=hs
    rw[h1]
    have hk:=(h0 id).2 rfl
    refine⟨Pf.gone I hl hk (fun k lk=>(hlv k).1 lk) (hn id hk),els,?_,h3.mono fun i hi=>⟨hP i hi,rfl⟩⟩
    simp[EP,h2]
  exact⟨Ka.2 this,_,rfl,this⟩
 |ep k i o=>exact⟨trivial,hone⟩
 |cp k o=>exact⟨trivial,hone⟩
 |oc k o s n=>exact⟨trivial,hone⟩
 |val t x=>exact absurd trivial hr
 |rp t x=>exact absurd trivial hr
 |tup l=>exact absurd trivial hr
 |junk=>exact absurd trivial hr
 |con c=>exact absurd trivial hr
 |kv k=>exact absurd hnk hr
 |fnv g js ks=>exact absurd hnk hr
 |aggk js=>exact absurd hnk hr
 |tupk js=>exact absurd hnk hr
def bP(t:T)(x:t.α):AL→AL
 | .cp _ 0=> .rp t x
 |_=> .junk
theorem Bx.frzCell(I:Bx E Γ rv fp f H){j n:Nat}{t:T}{x:t.α}(hj:AG Γ.ss j=some (.cells [(n, .val t x)]))(hnb:Nat.blt j ZR=true):Bx E (Γ.turn j (bP t x)) rv fp f H:=by
 have hl:Bi Γ.ss j:=NH hj rfl
 have hn:=I.new hl hnb
 have hs:=I.slots j _ hj
 have hlv: ∀k,Bi (Γ.turn j (bP t x)).ss k↔k≠j∧Bi Γ.ss k:=PJ
 refine I.turn (by rw[hj];rfl) fun hP φ v hr h=> ?_
 have hnk:NB j φ:=FR.noKeep (by rw[hj];rfl) h
 have hone:=FR.one I.rvlt I.ltP hr h
 cases φ with
 |cp k o=>
  simp only[EN,ne_eq,Decidable.not_not]at hr
  subst hr
  cases o with
  |succ o=>exact⟨trivial,hone⟩
  |zero=>
   obtain⟨_,id,e,rfl⟩:=h
   obtain⟨id',cs,h1,h0,h2,c,d,h3,h4,h5,h6⟩:=hs
   rw[e]at h1
   cases h1
   have h6':d=[]:=h6
   subst h6'
   simp only[List.append_nil]at h3
   subst h3
   have hk:=(h0 id).2 rfl
   have hp:=Pf.gone I hl hk (fun k lk=>(hlv k).1 lk) (hn id hk)
   have hlen:=t.len h5
   have:iU t (Pf E (Γ.turn k (bP t x)).ss fp H) H (.ptr id 0) x:=by
    refine⟨hp,cs,0,by simp[place,h2],by omega,?_,fun m hm=>by simp only[BS];exact hm _ hp⟩
    have:sub cs 0 t.sz=cs:=by simp only[sub,List.drop_zero];exact List.take_of_length_le (by omega)
    rw[this]
    exact t.mono (fun i hi=>⟨hP i hi,rfl⟩) h5
   exact⟨this,_,rfl,this⟩
 |own k=>exact⟨trivial,hone⟩
 |oc k o s n=>exact⟨trivial,hone⟩
 |ep k i o=>exact⟨trivial,hone⟩
 |val t x=>exact absurd trivial hr
 |rp t x=>exact absurd trivial hr
 |tup l=>exact absurd trivial hr
 |junk=>exact absurd trivial hr
 |con c=>exact absurd trivial hr
 |kv k=>exact absurd hnk hr
 |fnv g js ks=>exact absurd hnk hr
 |aggk js=>exact absurd hnk hr
 |tupk js=>exact absurd hnk hr
def vA:Option BM→Prop
 |some (.keep _)=>True
 |_=>False
def Pd(ss:Ss):List Nat→Prop
 |[]=>True
 |j::r=>vA (AG ss j)∧Pd ss r
theorem jY{o:Option BM}(h:vA o):D5 o=true:=by
 unfold vA at h
 split at h
 ·rfl
 ·exact h.elim
theorem Pc{ss:Ss}: ∀{l:List Nat},Pd ss l→Mo ss l
 |[],_,j,hj=>by cases hj
 |k::l,h,j,hj=>by
  rcases List.mem_cons.1 hj with rfl|hj
  ·exact jY h.1
  ·exact Pc h.2 j hj
def Mj(ss:Ss):AL→Prop
 | .own k=>Bi ss k
 | .ep k _ _=>Bi ss k
 | .cp k _=>Bi ss k
 | .oc k _ _ _=>Bi ss k
 | .kv k=>Pd ss [k]
 | .fnv _ js ks=>Pd ss (js++ks)
 | .aggk js=>Pd ss js
 | .tupk js=>Pd ss js
 |_=>True
def jD(ss:Ss):List (Nat×AL)→Prop
 |[]=>True
 |p::r=>Mj ss p.2∧jD ss r
def refS(ss:Ss):BM→Prop
 | .cells ps=>jD ss ps
 | .keep φ=>Mj ss φ
 | .ghost φ=>Mj ss φ
 | .rowk _ els=>Pd ss els.flatten
 |_=>True
def subT(Γ:Cx)(ss:Ss):Ts→Prop
 |[]=>True
 |(t,φ)::r=>(BI Γ.ts t=some φ∧Mj ss φ)∧subT Γ ss r
def rU(Γ:Cx)(ss:Ss):Ss→Prop
 |[]=>True
 |(j,S)::r=>(AG Γ.ss j=some S∧refS ss S)∧rU Γ ss r
def Sub(Γ' Γ:Cx):Prop:=subT Γ Γ'.ss Γ'.ts∧rU Γ Γ'.ss Γ'.ss
theorem Y2{ss:Ss}: ∀{ts:Ts} {t:Nat} {φ:AL},subT Γ ss ts→BI ts t=some φ→BI Γ.ts t=some φ∧Mj ss φ
 |[],_,_,_,e=>by simp[BI]at e
 |(u,ψ)::r,t,φ,h,e=>by
  simp only[BI]at e
  split at e
  ·rename_i hu;cases e;subst hu;exact h.1
  ·exact Y2 h.2 e
theorem IE{ss:Ss}: ∀{l:Ss} {j:Nat} {S:BM},rU Γ ss l→AG l j=some S→AG Γ.ss j=some S∧refS ss S
 |[],_,_,_,e=>by simp[AG]at e
 |(u,ψ)::r,t,φ,h,e=>by
  simp only[AG]at e
  split at e
  ·rename_i hu;cases e;subst hu;exact h.1
  ·exact IE h.2 e
theorem VR{ss:Ss}{φ:AL}(h:Mj ss φ): ∀j,¬EN j φ→Bi ss j∧(¬NB j φ→D5 (AG ss j)=true):=by
 intro j hj
 have key: ∀{l:List Nat},Pd ss l→j∈l→Bi ss j∧D5 (AG ss j)=true:=fun h hm=>⟨L5 (Pc h j hm),Pc h j hm⟩
 cases φ<;>first
  |exact absurd trivial hj
  |(simp only[EN,ne_eq,Decidable.not_not]at hj;subst hj;exact⟨h,fun hn=>absurd trivial hn⟩)
  |(simp only[EN,ne_eq,Decidable.not_not]at hj;exact⟨(key h (by simp[hj])).1,fun _=>(key h (by simp[hj])).2⟩)
  |exact⟨(key h (Decidable.not_not.1 hj)).1,fun _=>(key h (Decidable.not_not.1 hj)).2⟩
theorem VQ{ss:Ss}: ∀{ps:List (Nat×AL)},jD ss ps→ ∀p∈ps,Mj ss p.2
 |[],_,p,hp=>by cases hp
 |q::r,h,p,hp=>by
  rcases List.mem_cons.1 hp with rfl|hp
  ·exact h.1
  ·exact VQ h.2 p hp
theorem Bx.sub{Γ':Cx}(I:Bx E Γ rv fp f H)(h:Sub Γ' Γ):Bx E Γ' rv fp f H:=by
 have hlv: ∀k,Bi Γ'.ss k→Bi Γ.ss k:=by
  intro k l
  cases e:AG Γ'.ss k with
  |none=>simp only[Bi,e]at l;exact l.elim
  |some S=>
   have:=(IE h.2 e).1
   simp only[Bi,e]at l
   simp only[Bi,this];exact l
 have hP: ∀i,Pf E Γ.ss fp H i→Pf E Γ'.ss fp H i:=fun i=>Pf.same hlv
 have hsame: ∀φ,Mj Γ'.ss φ→TD rv rv Γ.ss Γ'.ss φ:=fun φ r j hj l=>by
  have hl:=(VR r j hj).1
  refine⟨⟨hl,fun e=> ?_⟩,rfl⟩
  cases e':AG Γ'.ss j with
  |none=>simp only[Bi,e']at hl;exact hl.elim
  |some S=>rw[(IE h.2 e').1]at e;exact e
 refine⟨I.le,I.base,I.wf,fun k i l e=>I.fplt k i (hlv k l) e,fun k l=>I.rvlt k (hlv k l),fun k l=>(I.scal k (hlv k l)).imp (fun e=> ?_) id,fun k k' i l l' e e'=>I.inj k k' i (hlv k l) (hlv k' l') e e',?_,?_,?_⟩
 ·cases e':AG Γ'.ss k with
  |none=>simp only[Bi,e']at l;exact l.elim
  |some S=>rw[(IE h.2 e').1]at e;exact e
 ·intro k S e
  obtain⟨e',r⟩:=IE h.2 e
  refine(I.slots k S e').keep rfl rfl (fun i hi=>⟨hP i hi,rfl⟩) (Nat.le_refl _) (fun _ _=>rfl) (fun ps hps p hp=> ?_) (fun φ hφ=> ?_) fun sz els he=> ?_
  ·subst hps
   exact hsame p.2 (VQ r p hp)
  ·subst hφ
   exact hsame φ r
  ·subst he
   exact hsame (.aggk els.flatten) r
 ·intro t φ e
  obtain⟨e',r⟩:=Y2 h.1 e
  exact(I.temps t φ e').mono (fun i hi=>⟨hP i hi,rfl⟩) (hsame φ r)
 ·intro k φ e
  obtain⟨e',r⟩:=IE h.2 e
  exact(I.gh k φ e').mono (fun i hi=>⟨hP i hi,rfl⟩) (hsame φ r)
end
end Go.Proofs.YtobejhpigbllpaaGreatDoor.Am
namespace Go.Proofs.YtobejhpigbllpaaGreatDoor.Am
def KA{σ β:Type}(F:σ→Option (σ⊕β)):Nat→σ→Option β
 |0,_=>none
 |n+1,s=>(F s).bind fun
  | .inl s'=>KA F n s'
  | .inr b=>some b
open Classical in
noncomputable def iter{σ β:Type}(F:σ→Option (σ⊕β))(s:σ):Option β:=
 if h: ∃n,(KA F n s).isSome=true then KA F (Classical.choose h) s else none
section
variable{σ β:Type}{F:σ→Option (σ⊕β)}
theorem QV: ∀{n m:Nat} {s:σ} {b:β},n≤m→KA F n s=some b→KA F m s=some b
 |0,_,_,_,_,h=>by simp[KA]at h
 |n+1,0,_,_,hm,_=>by omega
 |n+1,m+1,s,b,hm,h=>by
  simp only[KA]at h ⊢
  obtain⟨r,hr,h⟩:=Option.bind_eq_some_iff.1 h
  rw[hr]
  cases r with
  |inl s'=>exact QV (by omega) h
  |inr b'=>exact h
theorem aK{n:Nat}{s:σ}{b:β}(h:KA F n s=some b):iter F s=some b:=by
 unfold iter
 have hx: ∃n,(KA F n s).isSome=true:=⟨n,by rw[h];rfl⟩
 rw[dif_pos hx]
 obtain⟨b',hb⟩:=Option.isSome_iff_exists.1 (Classical.choose_spec hx)
 have h1:=QV (Nat.le_max_left n (Classical.choose hx)) h
 have h2:=QV (Nat.le_max_right n (Classical.choose hx)) hb
 rw[hb,←h2,h1]
theorem Te{s:σ}{b:β}(h:iter F s=some b): ∃n,KA F n s=some b:=by
 unfold iter at h
 split at h
 ·exact⟨_,h⟩
 ·cases h
theorem Hk{s s':σ}(h:F s=some (.inl s')):iter F s=iter F s':=by
 apply Option.ext
 intro b
 constructor
 ·intro e
  obtain⟨n,hn⟩:=Te e
  cases n with
  |zero=>simp[KA]at hn
  |succ n=>simp only[KA,h,Option.bind_some]at hn;exact aK hn
 ·intro e
  obtain⟨n,hn⟩:=Te e
  exact aK (n:=n+1) (by simp only[KA,h,Option.bind_some];exact hn)
theorem Dr{s:σ}{b:β}(h:F s=some (.inr b)):iter F s=some b:=
 aK (n:=1) (by simp only[KA,h,Option.bind_some])
end
inductive Kf where
 |seq (y:AC)
 |blk (id:Nat)
noncomputable def Ip(tb:Dg):List Kf→Ex×Fr×Ax→Option (Ex×Fr×Ax)
 |[],r=>some r
 | .seq y::ks,(.normal,f,h)=>(Bc tb (C1 tb) y f h).bind (Ip tb ks)
 | .seq _::ks,r=>Ip tb ks r
 | .blk id::ks,(.exit id',f,h)=>if id'=id then Ip tb ks (.normal,f,h)else Ip tb ks (.exit id',f,h)
 | .blk _::ks,r=>Ip tb ks r
abbrev MR(ρ:Type):=P4→ρ→Ex→Fr→Ax→Prop
structure Aa(tb:Dg)(Γ:Cx)(c:AC)(ks:List Kf){ρ:Type}(Q:MR ρ) where
 m:Option ρ
 ok: ∀E f H,Rel E Γ f H→ ∀r,m=some r→ ∃e f' H',(Bc tb (C1 tb) c f H).bind (Ip tb ks)=some (e,f',H')∧Q E r e f' H'
def rg(q:Bool)(l:List Bl):AC:=if q then .regq l else .reg l
section
variable{tb:Dg}{Γ:Cx}{ks:List Kf}{ρ:Type}{Q:MR ρ}
def Aa.of{c c':AC}{ks':List Kf}(h: ∀f H,(Bc tb (C1 tb) c' f H).bind (Ip tb ks')=(Bc tb (C1 tb) c f H).bind (Ip tb ks))(s:Aa tb Γ c ks Q):Aa tb Γ c' ks' Q:=
 ⟨s.m,fun E f H R r hr=>by rw[h];exact s.ok E f H R r hr⟩
def Aa.weak{c:AC}{Γ':Cx}(s:Aa tb Γ' c ks Q)(h:Sub Γ' Γ):Aa tb Γ c ks Q:=
 ⟨s.m,fun E f H ⟨rv,fp,I⟩ r hr=>s.ok E f H ⟨rv,fp,I.sub h⟩ r hr⟩
def Aa.turn{c:AC}{Γ':Cx}(h: ∀E f H,Rel E Γ f H→Rel E Γ' f H)(s:Aa tb Γ' c ks Q):Aa tb Γ c ks Q:=
 ⟨s.m,fun E f H R r hr=>s.ok E f H (h E f H R) r hr⟩
def Aa.frzRow{c:AC}(j:Nat){t:T}{g:GS t.α}(h:AG Γ.ss j=some (.row t g))(hn:Nat.blt j ZR=true)(s:Aa tb (Γ.turn j (sM t g)) c ks Q):Aa tb Γ c ks Q:=
 s.turn fun _ _ _ ⟨rv,fp,I⟩=>⟨rv,fp,I.frzRow h hn⟩
theorem DD{q:Bool}{f:Fr}{H:Ax}:Bc tb (C1 tb) (rg q []) f H=some (.normal,f,H):=by
 cases q<;>simp[rg,Bc,ops,Ir]
def Af{x y:AC}(s:Aa tb Γ x (.seq y::ks) Q):Aa tb Γ (.seq x y) ks Q:=
 s.of fun f H=>by
  simp only[Bc]
  cases Bc tb (C1 tb) x f H with
  |none=>rfl
  |some p=>obtain⟨e,f',H'⟩:=p;cases e<;>simp[Ip]
def A4{id:Nat}{x:AC}(s:Aa tb Γ x (.blk id::ks) Q):Aa tb Γ (.blk id x) ks Q:=
 s.of fun f H=>by
  simp only[Bc]
  cases Bc tb (C1 tb) x f H with
  |none=>rfl
  |some p=>
   obtain⟨e,f',H'⟩:=p
   cases e<;>simp[Ip]
   split<;>simp
def Ac{q:Bool}{y:AC}(s:Aa tb Γ y ks Q):Aa tb Γ (rg q []) (.seq y::ks) Q:=
 s.of fun f H=>by simp[DD,Ip]
def AB{q:Bool}{id:Nat}(s:Aa tb Γ (rg q []) ks Q):Aa tb Γ (rg q []) (.blk id::ks) Q:=
 s.of fun f H=>by simp[DD,Ip]
def Aa.skip(s:Aa tb Γ (rg false []) ks Q):Aa tb Γ .skip ks Q:=
 s.of fun f H=>by simp[DD,Bc]
def AH{id:Nat}{y:AC}(s:Aa tb Γ (.exit id) ks Q):Aa tb Γ (.exit id) (.seq y::ks) Q:=
 s.of fun f H=>by simp[Bc,Ip]
def Bd{id:Nat}(s:Aa tb Γ (rg false []) ks Q):Aa tb Γ (.exit id) (.blk id::ks) Q:=
 s.of fun f H=>by simp[Bc,Ip,DD]
theorem VI{f:Fr}{H:Ax}: ∀ks:List Kf,Ip tb ks (.ret,f,H)=some (.ret,f,H)
 |[]=>rfl
 | .seq _::ks=>by simp[Ip,VI ks]
 | .blk _::ks=>by simp[Ip,VI ks]
def Dd(tb:Dg)(Γ:Cx)(a:AO)(φ:AL):Prop:= ∀E rv fp f H,Bx E Γ rv fp f H→FR rv Γ.ss (Pf E Γ.ss fp H) H φ (eval tb f a)
def Gd(tb:Dg)(Γ:Cx)(o:Im){β:Type}(a:Option β)(φ:β→AL):Prop:=
 ∀E rv fp f H,Bx E Γ rv fp f H→ ∀b,a=some b→ ∃v u,Bz tb (C1 tb) (eval tb f) H o=some (v,u)∧u.getD H=H∧FR rv Γ.ss (Pf E Γ.ss fp H) H (φ b) v
theorem DW{q:Bool}{d:Option Nat}{o:Im}{l:List Bl}{f:Fr}{H:Ax}{v:AV}{u:Option Ax}(h:Bz tb (C1 tb) (eval tb f) H o=some (v,u))(hu:u.getD H=H):
  Bc tb (C1 tb) (rg q (⟨d,none,o⟩::l)) f H=Bc tb (C1 tb) (rg q l) (put f d v) H:=by
 cases q<;>simp[rg,Bc,ops,Ir,wanted,h,hu]
theorem Ki{d:Option Nat}{o:Im}{l:List Bl}{f:Fr}{H:Ax}{v:AV}{u:Option Ax}(h:Bz tb (C1 tb) (eval tb f) H o=some (v,u)):
  Bc tb (C1 tb) (rg false (⟨d,none,o⟩::l)) f H=Bc tb (C1 tb) (rg false l) (put f d v) (u.getD H):=by
 simp[rg,Bc,ops,wanted,h]
def Aa.op{q:Bool}{d:Nat}{o:Im}{l:List Bl}{β:Type}{a:Option β}{φ:β→AL}(h:Gd tb Γ o a φ)(k:(b:β)→Aa tb (Γ.push d (φ b)) (rg q l) ks Q):Aa tb Γ (rg q (⟨some d,none,o⟩::l)) ks Q:=
 ⟨a.bind fun b=>(k b).m,fun E f H ⟨rv,fp,I⟩ r hr=>by
  obtain⟨b,hb,hr⟩:=Option.bind_eq_some_iff.1 hr
  obtain⟨v,u,h1,h2,h3⟩:=h E rv fp f H I b hb
  obtain⟨e,f',H',h4,h5⟩:=(k b).ok E (put f (some d) v) H ⟨rv,fp,I.push h3⟩ r hr
  exact⟨e,f',H',by rw[DW h1 h2];exact h4,h5⟩⟩
def Ad{q:Bool}{d:Nat}{o:Im}{l:List Bl}{φ:AL}(h:Gd tb Γ o (some ()) fun _=>φ)(k:Aa tb (Γ.push d φ) (rg q l) ks Q):Aa tb Γ (rg q (⟨some d,none,o⟩::l)) ks Q:=
 ⟨k.m,fun E f H ⟨rv,fp,I⟩ r hr=>by
  obtain⟨v,u,h1,h2,h3⟩:=h E rv fp f H I () rfl
  obtain⟨e,f',H',h4,h5⟩:=k.ok E (put f (some d) v) H ⟨rv,fp,I.push h3⟩ r hr
  exact⟨e,f',H',by rw[DW h1 h2];exact h4,h5⟩⟩
def An{q:Bool}{d:Nat}{o:Im}{l:List Bl}{t:T}{x:t.α}(h:Gd tb Γ o (some ()) fun _=> .val t x)(k:(y:t.α)→Aa tb (Γ.push d (.val t y)) (rg q l) ks Q):Aa tb Γ (rg q (⟨some d,none,o⟩::l)) ks Q:=
 Ad h (k x)
def Xs(tb:Dg)(Γ:Cx)(d:Option Nat)(o:Im){β:Type}(a:Option β)(Γ':β→Cx):Prop:=
 ∀E rv fp f H,Bx E Γ rv fp f H→ ∀b,a=some b→ ∃v u,Bz tb (C1 tb) (eval tb f) H o=some (v,u)∧ ∃rv' fp',Bx E (Γ' b) rv' fp' (put f d v) (u.getD H)
def CS{d:Option Nat}{o:Im}{l:List Bl}{β:Type}{a:Option β}{Γ':β→Cx}(h:Xs tb Γ d o a Γ')(k:(b:β)→Aa tb (Γ' b) (rg false l) ks Q):Aa tb Γ (rg false (⟨d,none,o⟩::l)) ks Q:=
 ⟨a.bind fun b=>(k b).m,fun E f H ⟨rv,fp,I⟩ r hr=>by
  obtain⟨b,hb,hr⟩:=Option.bind_eq_some_iff.1 hr
  obtain⟨v,u,h1,rv',fp',h3⟩:=h E rv fp f H I b hb
  obtain⟨e,f',H',h4,h5⟩:=(k b).ok E _ _ ⟨rv',fp',h3⟩ r hr
  exact⟨e,f',H',by rw[Ki h1];exact h4,h5⟩⟩
def Aa.stop{c:AC}:Aa tb Γ c ks Q:=⟨Option.none,fun _ _ _ _ _ h=>(by cases h)⟩
theorem Fz{P:Nat→Prop}{H:Ax}{v:AV}{x:Bool}:T.b.V P H v x↔v= .b x:=P3
theorem Cr{k:IntKind}{P:Nat→Prop}{H:Ax}{v:AV}{x:Int}:(T.int k).V P H v x↔v= .i k x:=P3
theorem E2{P:Nat→Prop}{H:Ax}{v:AV}{x:AR}:Ak.V P H v x↔v= .s x:=P3
theorem TC{P:Nat→Prop}{H:Ax}{v:AV}{x:UInt8}:T.u8.V P H v x↔v= .i .u8 x.toNat:=P3
theorem bZ{P:Nat→Prop}{H:Ax}{v:AV}{x:UInt16}:T.u16.V P H v x↔v= .i .u16 x.toNat:=P3
theorem bY{P:Nat→Prop}{H:Ax}{v:AV}{x:UInt32}:T.u32.V P H v x↔v= .i .u32 x.toNat:=P3
theorem bX{P:Nat→Prop}{H:Ax}{v:AV}{x:UInt64}:T.u64.V P H v x↔v= .i .u64 x.toNat:=P3
def Aa.cond{a:AO}{b:Bool}{x y:AC}(h:Dd tb Γ a (.val T.b b))(s:Aa tb Γ x ks Q)(s':Aa tb Γ y ks Q):Aa tb Γ (.cond a x y) ks Q:=
 ⟨if b=true then s.m else s'.m,fun E f H ⟨rv,fp,I⟩ r hr=>by
  have hv:=Fz.1 (h E rv fp f H I)
  cases b with
  |true=>
   obtain⟨e,f',H',h4,h5⟩:=s.ok E f H ⟨rv,fp,I⟩ r (by simpa using hr)
   exact⟨e,f',H',by simp only[Bc,hv,if_true];exact h4,h5⟩
  |false=>
   obtain⟨e,f',H',h4,h5⟩:=s'.ok E f H ⟨rv,fp,I⟩ r (by simpa using hr)
   exact⟨e,f',H',by simp only[Bc,hv,Bool.false_eq_true,if_false];exact h4,h5⟩⟩
def iP(tb:Dg){σ τ:Type}(Γl:σ→Cx)(Γx:τ→Cx)(id:Nat)(ks:List Kf)(Q:MR ρ):MR (σ⊕(τ⊕ρ)):=fun E r e f H=>
 match r with
 | .inl s=>e= .normal∧Rel E (Γl s) f H
 | .inr (.inl p)=>e= .exit id∧Rel E (Γx p) f H
 | .inr (.inr r)=>e≠ .normal∧ ∃e' f' H',Ip tb ks (e,f,H)=some (e',f',H')∧Q E r e' f' H'
theorem QT: ∀{l:List Nat} {f:Fr} {t:Nat},t∈l→get (keepL l f) t=get f t
 |u::l,f,t,h=>by
  simp only[keepL,List.map_cons,get]
  by_cases e:u=t
  ·subst e;rw[if_pos rfl]
  ·rw[if_neg e]
   rcases List.mem_cons.1 h with e'|h
   ·exact absurd e'.symm e
   ·exact QT h
def eF(l:List Nat)(ts:Ts):Bool:=ts.all fun p=>l.any (Nat.beq p.1)
theorem Wj{l:List Nat}: ∀{ts:Ts} {t:Nat} {φ:AL},eF l ts=true→BI ts t=some φ→t∈l
 |[],_,_,_,e=>by simp[BI]at e
 |(u,ψ)::r,t,φ,h,e=>by
  simp only[eF,List.all_cons,Bool.and_eq_true]at h
  simp only[BI]at e
  split at e
  ·rename_i hu
   subst hu
   obtain⟨x,hx,hb⟩:=List.any_eq_true.1 h.1
   have hb':u=x:=Nat.eq_of_beq_eq_true hb
   exact hb'▸hx
  ·exact Wj h.2 e
theorem Rel.keep{E:P4}{f:Fr}{H:Ax}{l:List Nat}(h:eF l Γ.ts=true):Rel E Γ f H→Rel E Γ (keepL l f) H
 |⟨rv,fp,I⟩=>⟨rv,fp,I.fr fun _ _ e=>QT (Wj h e)⟩
noncomputable def Aa.loop{σ τ:Type}{lv:List Nat}{x:AC}{id:Nat}(Γl:σ→Cx)(Γx:τ→Cx)(s0:σ)(h0:Sub (Γl s0) Γ)(hl: ∀s,eF lv (Γl s).ts=true)
  (body:(s:σ)→Aa tb (Γl s) x [] (iP tb Γl Γx id ks Q)) (k:(p:τ)→Aa tb (Γx p) (.exit id) ks Q):Aa tb Γ (.loop lv x) ks Q:=
 ⟨(iter (fun s=>(body s).m) s0).bind (Sum.elim (fun p=>(k p).m) some),fun E f H ⟨rv,fp,I⟩ r hr=>by
  obtain⟨b,hb,hr⟩:=Option.bind_eq_some_iff.1 hr
  obtain⟨n,hn⟩:=Te hb
  have key: ∀n s f H,Rel E (Γl s) f H→KA (fun s=>(body s).m) n s=some b→ ∃e f' H',Q0 (K4 lv (Bc tb (C1 tb) x)) n f H=some (e,f',H')∧e≠ .normal∧iP tb Γl Γx id ks Q E (.inr b) e f' H':=by
   intro n
   induction n with
   |zero=>intro s f H _ h;simp[KA]at h
   |succ n ih=>
    intro s f H R h
    simp only[KA]at h
    obtain⟨r1,h1,h⟩:=Option.bind_eq_some_iff.1 h
    obtain⟨e,f',H',h2,h3⟩:=(body s).ok E (keepL lv f) H (R.keep (hl s)) r1 h1
    have h2':Bc tb (C1 tb) x (keepL lv f) H=some (e,f',H'):=by
     obtain⟨p,hp,h2⟩:=Option.bind_eq_some_iff.1 h2
     rw[hp,←h2];rfl
    cases r1 with
    |inl s'=>
     obtain⟨rfl,R'⟩:=h3
     obtain⟨e2,f2,H2,h4,h5⟩:=ih s' (keepL lv f') H' (R'.keep (hl s')) h
     exact⟨e2,f2,H2,by simp only[Q0,K4,h2',Option.map_some];exact h4,h5⟩
    |inr b'=>
     simp only[Option.some.injEq]at h
     subst h
     have hne:e≠ .normal:=by
      cases b' with
      |inl p=>rw[h3.1];simp
      |inr r=>exact h3.1
     refine⟨e,f',H',?_,hne,h3⟩
     simp only[Q0,K4,h2',Option.map_some]
     cases e<;>first|exact absurd rfl hne|rfl
  obtain⟨e,f1,H1,h1,h2,h3⟩:=key n s0 f H ⟨rv,fp,I.sub h0⟩ hn
  have hlp:Bc tb (C1 tb) (.loop lv x) f H=some (e,f1,H1):=by
   simp only[Bc]
   exact Wi _ h1
  rw[hlp]
  cases b with
  |inr r'=>
   simp only[Sum.elim_inr,Option.some.injEq]at hr
   subst hr
   exact h3.2
  |inl p=>
   obtain⟨rfl,R⟩:=h3
   simp only[Sum.elim_inl]at hr
   obtain⟨e2,f2,H2,h4,h5⟩:=(k p).ok E f1 H1 R r hr
   exact⟨e2,f2,H2,by simpa [Bc]using h4,h5⟩⟩
def Aa.next{q:Bool}{σ τ:Type}{Γl:σ→Cx}{Γx:τ→Cx}{id:Nat}(s:σ)(h:Sub (Γl s) Γ):Aa tb Γ (rg q []) [] (iP tb Γl Γx id ks Q):=
 ⟨some (.inl s),fun E f H ⟨rv,fp,I⟩ r hr=>by
  cases hr
  exact⟨.normal,f,H,by simp[DD,Ip],rfl,rv,fp,I.sub h⟩⟩
def DI{σ τ:Type}{Γl:σ→Cx}{Γx:τ→Cx}{id:Nat}(p:τ)(h:Sub (Γx p) Γ):Aa tb Γ (.exit id) [] (iP tb Γl Γx id ks Q):=
 ⟨some (.inr (.inl p)),fun E f H ⟨rv,fp,I⟩ r hr=>by
  cases hr
  exact⟨.exit id,f,H,by simp[Bc,Ip],rfl,rv,fp,I.sub h⟩⟩
def S3(s:Aa tb Γ .ret [] Q):Aa tb Γ .ret ks Q:=
 s.of fun f H=>by simp[Bc,VI,Ip]
def C2{σ τ:Type}{Γl:σ→Cx}{Γx:τ→Cx}{id:Nat}{ks':List Kf}(s:Aa tb Γ .ret ks Q):Aa tb Γ .ret ks' (iP tb Γl Γx id ks Q):=
 S3 ⟨s.m.map fun r=> .inr (.inr r),fun E f H R r hr=>by
  obtain⟨r',h1,rfl⟩:=Option.map_eq_some_iff.1 hr
  obtain⟨e,f',H',h2,h3⟩:=s.ok E f H R r' h1
  refine⟨.ret,f,H,by simp[Bc,Ip],by simp,e,f',H',?_,h3⟩
  simpa [Bc]using h2⟩
end
end Go.Proofs.YtobejhpigbllpaaGreatDoor.Am
namespace Go.Proofs.YtobejhpigbllpaaGreatDoor.Am
def CF:List T→Type
 |[]=>Unit
 |[a]=>a.α
 |a::b::r=>a.α×CF (b::r)
def Uw(P:Nat→Prop)(H:Ax):(l:List T)→List AV→CF l→Prop
 |[],vs,_=>vs=[]
 |[a],vs,x=> ∃v,vs=[v]∧a.V P H v x
 |a::b::r,vs,x=> ∃v q,vs=v::q∧a.V P H v x.1∧Uw P H (b::r) q x.2
def OutR(P:Nat→Prop)(H:Ax)(l:List T)(v:AV)(x:CF l):Prop:= ∃vs,v=GE vs∧Uw P H l vs x
structure CallR(tb:Dg)(g:Nat)(P:Nat→Prop)(h:Ax)(args:List AV)(Rs:List T)(r:CF Rs):Prop where
 call: ∃v u,B6 tb (C1 tb) h g args=some (v,u)∧u.getD h=h∧OutR P h Rs v r
def Spec(tb:Dg)(g:Nat)(As Rs:List T)(F:CF As→Option (CF Rs)):Prop:=
 ∀(P:Nat→Prop) (h:Ax) (args:List AV) (xs:CF As),(∀i,P i→i<h.length)→Dh h≤h.length→Uw P h As args xs→ ∀r,F xs=some r→CallR tb g P h args Rs r
section
variable{tb:Dg}
theorem Uw.mono{P Q:Nat→Prop}{H G:Ax}(m: ∀i,P i→Q i∧G[i]? =H[i]?): ∀{l:List T} {vs:List AV} {x:CF l},Uw P H l vs x→Uw Q G l vs x
 |[],_,_,h=>h
 |[a],_,_,⟨v,e,h⟩=>⟨v,e,h.mono m⟩
 |_::_::_,_,_,⟨v,q,e,h,g⟩=>⟨v,q,e,h.mono m,Uw.mono m g⟩
theorem Uw.frz{P Q:Nat→Prop}{H:Ax}{n:Nat}(hw:Dh (H.take n)≤n)(hp: ∀i,P i→i<n→Q i): ∀{l:List T} {vs:List AV} {x:CF l},(∀t∈l,t.dep≤11)→Uw P H l vs x→
  ∃vs',aS H n vs=some vs'∧Uw Q (H.take n) l vs' x
 |[],_,_,_,h=>by rw[show _=[]from h];exact⟨[],rfl,rfl⟩
 |[a],_,_,hd,⟨v,e,h⟩=>by
  obtain⟨v',e',r⟩:=h.frz (d:=11) (hd a List.mem_cons_self) (by omega) hw hp
  exact⟨[v'],by rw[e];simp[aS,DL,e'],v',rfl,r⟩
 |a::b::l,_,_,hd,⟨v,q,e,h,g⟩=>by
  obtain⟨v',e',r⟩:=h.frz (d:=11) (hd a List.mem_cons_self) (by omega) hw hp
  obtain⟨q',e2,r2⟩:=Uw.frz hw hp (fun t ht=>hd t (List.mem_cons_of_mem _ ht)) g
  refine⟨v'::q',?_,v',q',rfl,r,r2⟩
  have e2':DL (Am.frz H n 12) q=some q':=e2
  rw[e];simp[aS,DL,e',e2']
def ResR(E:P4)(Rs:List T)(res:List KK)(r:CF Rs)(f:Fr)(H:Ax):Prop:=
 ∃P vs,(∀i,P i→i<E.h.length→E.P0 i)∧results f H res=some vs∧Uw P H Rs vs r∧E.h.length≤H.length∧ ∀i,i<E.h.length→E.K i→H[i]? =E.h[i]?
def QRes(Rs:List T)(res:List KK):MR (CF Rs):=fun E r e f H=>(e= .ret∨e= .normal)∧ResR E Rs res r f H
def xB(Γ:Cx)(a:KK)(t:T)(x:t.α):Prop:=
 ∀E rv fp f H,Bx E Γ rv fp f H→ ∀r vs,results f H r=some vs→ ∃v,results f H (a::r)=some (v::vs)∧t.V (Pf E Γ.ss fp H) H v x
inductive iO(Γ:Cx):(Rs:List T)→List KK→CF Rs→Type 1 where
 |nil:iO Γ [] [] ()
 |one {a:KK} {t:T} {x:t.α}:xB Γ a t x→iO Γ [t] [a] x
 |cons {a:KK} {t u:T} {x:t.α} {Rs:List T} {l:List KK} {y:CF (u::Rs)}:xB Γ a t x→iO Γ (u::Rs) l y→iO Γ (t::u::Rs) (a::l) (x,y)
theorem iO.spec{Γ:Cx}{E:P4}{rv:Nat→AV}{fp:Fp}{f:Fr}{H:Ax}(I:Bx E Γ rv fp f H): ∀{Rs:List T} {l:List KK} {y:CF Rs},iO Γ Rs l y→ ∃vs,results f H l=some vs∧Uw (Pf E Γ.ss fp H) H Rs vs y
 |_,_,_, .nil=>⟨[],rfl,rfl⟩
 |_,_,_, .one h=>by
  obtain⟨v,h1,h2⟩:=h E rv fp f H I [] [] rfl
  exact⟨[v],h1,v,rfl,h2⟩
 |_,_,_, .cons h r=>by
  obtain⟨vs,g1,g2⟩:=r.spec I
  obtain⟨v,h1,h2⟩:=h E rv fp f H I _ vs g1
  exact⟨v::vs,h1,v,vs,rfl,h2,g2⟩
def Aa.ret{Γ:Cx}{ks:List Kf}{Rs:List T}{res:List KK}{r:CF Rs}(h:iO Γ Rs res r):Aa tb Γ .ret ks (QRes Rs res):=
 S3 ⟨some r,fun E f H ⟨rv,fp,I⟩ r' hr=>by
  cases hr
  obtain⟨vs,h1,h2⟩:=h.spec I
  refine⟨.ret,f,H,by simp[Bc,Ip], .inl rfl,Pf E Γ.ss fp H,vs,?_,h1,h2,I.le,I.base⟩
  rintro i (h|h) hi
  ·exact h.2
  ·omega⟩
def Aa.fin{Γ:Cx}{q:Bool}{Rs:List T}{res:List KK}{r:CF Rs}(h:iO Γ Rs res r):Aa tb Γ (rg q []) [] (QRes Rs res):=
 ⟨some r,fun E f H ⟨rv,fp,I⟩ r' hr=>by
  cases hr
  obtain⟨vs,h1,h2⟩:=h.spec I
  refine⟨.normal,f,H,by simp[DD,Ip], .inr rfl,Pf E Γ.ss fp H,vs,?_,h1,h2,I.le,I.base⟩
  rintro i (h|h) hi
  ·exact h.2
  ·omega⟩
theorem A8{Γ:Cx}{n:Nat}{t:T}{x:t.α}(h:BI Γ.ts n=some (.val t x)):xB Γ (.tmp n) t x:=by
 intro E rv fp f H I r vs hr
 exact⟨_,by simp[results,hr],I.temps n _ h⟩
def Uv:(l:List T)→Nat→CF l→Ts
 |[],_,_=>[]
 |[a],k,x=>[(k, .val a x)]
 |a::b::r,k,x=>(k, .val a x.1)::Uv (b::r) (k+1) x.2
theorem Zh{P:Nat→Prop}{H:Ax}{rv:Nat→AV}{ss:Ss}: ∀{l:List T} {vs:List AV} {k:Nat} {x:CF l},Uw P H l vs x→ ∀t φ,BI (Uv l k x) t=some φ→k≤t∧FR rv ss P H φ (get ((vs.zipIdx k).map fun p=>(p.2,p.1)) t)
 |[],_,_,_,_,t,φ,e=>by simp[Uv,BI]at e
 |[a],_,k,x,⟨v,rfl,h⟩,t,φ,e=>by
  simp only[Uv,BI]at e
  split at e
  ·rename_i hk
   cases e
   subst hk
   exact⟨Nat.le_refl _,by simpa [get,FR]using h⟩
  ·cases e
 |a::b::r,_,k,x,⟨v,q,rfl,h,g⟩,t,φ,e=>by
  simp only[Uv,BI]at e
  simp only[List.zipIdx_cons,List.map_cons,get]
  split at e
  ·rename_i hk
   cases e
   subst hk
   exact⟨Nat.le_refl _,by rw[if_pos rfl];exact h⟩
  ·rename_i hk
   obtain⟨h1,h2⟩:=Zh g t φ e
   exact⟨by omega,by rw[if_neg hk];exact h2⟩
theorem Uw.length{P:Nat→Prop}{H:Ax}: ∀{l:List T} {vs:List AV} {x:CF l},Uw P H l vs x→vs.length=l.length
 |[],_,_,h=>by rw[show _=[]from h];rfl
 |[a],_,_,⟨v,rfl,h⟩=>rfl
 |a::b::r,_,_,⟨v,q,rfl,h,g⟩=>by simp[Uw.length g]
theorem Spec.of{g:Nat}{fn:D7}{As Rs:List T}(hf:tb.prim g=none∧tb.fns g=some fn)(hw:fn.warm=false)(hn:fn.np=As.length)(hd:Rs.all (fun t=>Nat.ble t.dep 11)=true)
  (s:(xs:CF As)→Aa tb ⟨Uv As 0 xs,[]⟩ fn.body [] (QRes Rs fn.res)):Spec tb g As Rs fun xs=>(s xs).m:=by
 intro P h args xs hP hwf hargs r hr
 let E:P4:=⟨h,P,fun _=>True,hP,fun _ _=>trivial,fun _=> .junk⟩
 have hPf: ∀i,P i→Pf E [] (fun _ _=>False) h i∧h[i]? =h[i]? :=fun i hi=>⟨.inl ⟨hP i hi,hi⟩,rfl⟩
 have I:Bx E ⟨Uv As 0 xs,[]⟩ (fun _=> .junk) (fun _ _=>False) (args.zipIdx.map fun p=>(p.2,p.1)) h:=by
  refine⟨Nat.le_refl _,fun _ _ _=>rfl,hwf,fun j id l=>l.elim,fun j l=>l.elim,fun j l=>l.elim,fun j k id l=>l.elim,fun j S e=>by simp[AG]at e,fun t φ e=> ?_,fun j φ e=>by simp[AG]at e⟩
  exact(Zh (hargs.mono hPf) t φ e).2
 obtain⟨e,f',H',h1,he,P',vs,hP',h2,h3,hle,hbase⟩:=(s xs).ok E _ h ⟨_,_,I⟩ r hr
 have h4:H'.take h.length=h:=by
  apply List.ext_getElem?
  intro i
  rw[List.getElem?_take]
  split
  ·rename_i hi;exact hbase i hi trivial
  ·rename_i hi;rw[List.getElem?_eq_none (by omega)]
 have h1':Bc tb (C1 tb) fn.body (args.zipIdx.map fun p=>(p.2,p.1)) h=some (e,f',H'):=by
  obtain⟨p,hp,h1⟩:=Option.bind_eq_some_iff.1 h1
  rw[hp,←h1];rfl
 have hwf':Dh (H'.take h.length)≤h.length:=by rw[h4];exact hwf
 obtain⟨vs',h5,h6⟩:=h3.frz hwf' hP' fun t ht=>Nat.le_of_ble_eq_true (List.all_eq_true.1 hd t ht)
 have hbody:body tb (C1 tb) fn args h=some (GE vs',some h):=by
  have hnp:args.length=fn.np:=by rw[hn,hargs.length]
  simp only[body,hnp,if_true,h1',Option.bind_some]
  have hq:VU fn.warm h.length H' vs=(GE vs',some h):=by
   rw[hw]
   simp only[VU,Wl,h5]
   rw[if_pos hwf',h4]
  rcases he with rfl|rfl
  ·simp[h2,hq]
  ·simp[h2,hq]
 refine⟨GE vs',some h,?_,rfl,vs',rfl,by rw[h4]at h6;exact h6⟩
 simp only[B6,hf.1]
 rw[Pv,hf.2]
 simp only[Option.bind_some]
 exact hbody
end
end Go.Proofs.YtobejhpigbllpaaGreatDoor.Am
namespace Go.Proofs.YtobejhpigbllpaaGreatDoor.Am
section
variable{tb:Dg}{Γ:Cx}
theorem Ag{n:Nat}{φ:AL}(h:BI Γ.ts n=some φ):Dd tb Γ (.t n) φ:=fun _ _ _ _ _ I=>I.temps n φ h
theorem AK{k:IntKind}{n:Int}:Dd tb Γ (.k (.i k n)) (.val (T.int k) n):=fun _ _ _ _ _ _=>Cr.2 rfl
theorem En{x:Bool}:Dd tb Γ (.k (.b x)) (.val T.b x):=fun _ _ _ _ _ _=>Fz.2 rfl
theorem Df{x:AR}:Dd tb Γ (.k (.s x)) (.val Ak x):=fun _ _ _ _ _ _=>E2.2 rfl
theorem XI{n:Int}(x:UInt8)(h:n=x.toNat):Dd tb Γ (.k (.i .u8 n)) (.val T.u8 x):=fun _ _ _ _ _ _=>TC.2 (by rw[h];rfl)
theorem TQ{n:Int}(x:UInt16)(h:n=x.toNat):Dd tb Γ (.k (.i .u16 n)) (.val T.u16 x):=fun _ _ _ _ _ _=>bZ.2 (by rw[h];rfl)
theorem Gl{n:Int}(x:UInt32)(h:n=x.toNat):Dd tb Γ (.k (.i .u32 n)) (.val T.u32 x):=fun _ _ _ _ _ _=>bY.2 (by rw[h];rfl)
theorem EM{n:Int}(x:UInt64)(h:n=x.toNat):Dd tb Γ (.k (.i .u64 n)) (.val T.u64 x):=fun _ _ _ _ _ _=>bX.2 (by rw[h];rfl)
theorem HD{t:T}:Dd tb Γ (.k .nils) (.val (T.sl t) .nil):=fun _ _ _ _ _ _=>Ka.2 rfl
theorem Aq{a:AO}{φ:AL}(h:Dd tb Γ a φ):Gd tb Γ (.mv a) (some ()) fun _=>φ:=
 fun E rv fp f H I _ _=>⟨_,none,rfl,rfl,h E rv fp f H I⟩
structure IT where
 t:T
 k:IntKind
 toI:t.α→Int
 ofI:Int→t.α
 V: ∀{P:Nat→Prop} {H:Ax} {v:AV} {x:t.α},t.V P H v x↔v= .i k (toI x)
 h: ∀n,toI (ofI n)=k.wrap n
theorem mO(n:Int):IntKind.u8.wrap n=n%256:=by simp[IntKind.wrap,IntKind.bits,IntKind.signed]
theorem cK(n:Int):IntKind.u16.wrap n=n%65536:=by simp[IntKind.wrap,IntKind.bits,IntKind.signed]
theorem cJ(n:Int):IntKind.u32.wrap n=n%4294967296:=by simp[IntKind.wrap,IntKind.bits,IntKind.signed]
theorem cI(n:Int):IntKind.u64.wrap n=n%18446744073709551616:=by simp[IntKind.wrap,IntKind.bits,IntKind.signed]
def IT.int(k:IntKind):IT:=⟨T.int k,k,fun x=>x,k.wrap,Cr,fun _=>rfl⟩
def IT.u8:IT:=⟨T.u8, .u8,fun x:UInt8=>(x.toNat:Int),fun n=>UInt8.ofNat (n%256).toNat,TC,fun n=>by
 rw[mO,UInt8.toNat_ofNat'];omega⟩
def IT.u16:IT:=⟨T.u16, .u16,fun x:UInt16=>(x.toNat:Int),fun n=>UInt16.ofNat (n%65536).toNat,bZ,fun n=>by
 rw[cK,UInt16.toNat_ofNat'];omega⟩
def IT.u32:IT:=⟨T.u32, .u32,fun x:UInt32=>(x.toNat:Int),fun n=>UInt32.ofNat (n%4294967296).toNat,bY,fun n=>by
 rw[cJ,UInt32.toNat_ofNat'];omega⟩
def IT.u64:IT:=⟨T.u64, .u64,fun x:UInt64=>(x.toNat:Int),fun n=>UInt64.ofNat (n%18446744073709551616).toNat,bX,fun n=>by
 rw[cI,UInt64.toNat_ofNat'];omega⟩
theorem Ma{rv:Nat→AV}{ss:Ss}{P:Nat→Prop}{H:Ax}{I:IT}{x:I.t.α}{v:AV}(h:FR rv ss P H (.val I.t x) v):v= .i I.k (I.toI x):=I.V.1 h
theorem Q5{rv:Nat→AV}{ss:Ss}{P:Nat→Prop}{H:Ax}(I:IT){n:Int}:FR rv ss P H (.val I.t (I.ofI n)) (.i I.k (I.k.wrap n)):=I.V.2 (by rw[I.h])
section
variable{I J:IT}{x y:I.t.α}{a b:AO}
theorem Bf(ha:Dd tb Γ a (.val I.t x))(hb:Dd tb Γ b (.val I.t y)):Gd tb Γ (.bin .add a b) (some (I.ofI (I.toI x+I.toI y))) fun z=> .val I.t z:=by
 rintro E rv fp f H R z ⟨⟩
 exact⟨_,none,by simp only[Bz,Ma (ha E rv fp f H R),Ma (hb E rv fp f H R),bin,if_true];rfl,rfl,Q5 I⟩
theorem FG(ha:Dd tb Γ a (.val I.t x))(hb:Dd tb Γ b (.val I.t y)):Gd tb Γ (.bin .sub a b) (some (I.ofI (I.toI x-I.toI y))) fun z=> .val I.t z:=by
 rintro E rv fp f H R z ⟨⟩
 exact⟨_,none,by simp only[Bz,Ma (ha E rv fp f H R),Ma (hb E rv fp f H R),bin,if_true];rfl,rfl,Q5 I⟩
theorem JA(ha:Dd tb Γ a (.val I.t x))(hb:Dd tb Γ b (.val I.t y)):Gd tb Γ (.bin .mul a b) (some (I.ofI (I.toI x*I.toI y))) fun z=> .val I.t z:=by
 rintro E rv fp f H R z ⟨⟩
 exact⟨_,none,by simp only[Bz,Ma (ha E rv fp f H R),Ma (hb E rv fp f H R),bin,if_true];rfl,rfl,Q5 I⟩
theorem Pm(ha:Dd tb Γ a (.val I.t x))(hb:Dd tb Γ b (.val I.t y)):Gd tb Γ (.bin .quo a b) (if I.toI y=0 then none else some (I.ofI ((I.toI x).tdiv (I.toI y)))) fun z=> .val I.t z:=by
 intro E rv fp f H R z hz
 split at hz
 ·cases hz
 ·rename_i h0
  cases hz
  exact⟨_,none,by simp only[Bz,Ma (ha E rv fp f H R),Ma (hb E rv fp f H R),bin,if_true,if_neg h0];rfl,rfl,Q5 I⟩
def Fy(op:BinOp)(k:IntKind)(x y:Int):Int:=
 match op with
 | .and=>(BitVec.ofInt k.bits x&&&BitVec.ofInt k.bits y).toNat
 | .or=>(BitVec.ofInt k.bits x|||BitVec.ofInt k.bits y).toNat
 | .xor=>(BitVec.ofInt k.bits x^^^BitVec.ofInt k.bits y).toNat
 |_=>(BitVec.ofInt k.bits x&&& ~~~(BitVec.ofInt k.bits y)).toNat
theorem h_and(ha:Dd tb Γ a (.val I.t x))(hb:Dd tb Γ b (.val I.t y)):Gd tb Γ (.bin .and a b) (some (I.ofI (Fy .and I.k (I.toI x) (I.toI y)))) fun z=> .val I.t z:=by
 rintro E rv fp f H R z ⟨⟩
 exact⟨_,none,by simp only[Bz,Ma (ha E rv fp f H R),Ma (hb E rv fp f H R),bin,if_true];rfl,rfl,Q5 I⟩
theorem kP(ha:Dd tb Γ a (.val I.t x))(hb:Dd tb Γ b (.val I.t y)):Gd tb Γ (.bin .or a b) (some (I.ofI (Fy .or I.k (I.toI x) (I.toI y)))) fun z=> .val I.t z:=by
 rintro E rv fp f H R z ⟨⟩
 exact⟨_,none,by simp only[Bz,Ma (ha E rv fp f H R),Ma (hb E rv fp f H R),bin,if_true];rfl,rfl,Q5 I⟩
theorem YO{y:J.t.α}(ha:Dd tb Γ a (.val I.t x))(hb:Dd tb Γ b (.val J.t y)):Gd tb Γ (.bin .shl a b) (if J.toI y<0 then none else some (I.ofI (I.toI x*2^(min (J.toI y).toNat I.k.bits)))) fun z=> .val I.t z:=by
 intro E rv fp f H R z hz
 split at hz
 ·cases hz
 ·rename_i h0
  cases hz
  exact⟨_,none,by simp only[Bz,Ma (ha E rv fp f H R),Ma (hb E rv fp f H R),bin,if_neg h0];rfl,rfl,Q5 I⟩
def cmpI:BinOp→Int→Int→Bool
 | .eql,x,y=>decide (x=y)
 | .neq,x,y=> !decide (x=y)
 | .lss,x,y=>decide (x<y)
 | .leq,x,y=>decide (x≤y)
 | .gtr,x,y=>decide (y<x)
 |_,x,y=>decide (y≤x)
def nL:BinOp→Bool
 | .eql| .neq| .lss| .leq| .gtr| .geq=>true
 |_=>false
theorem bin_cmp{op:BinOp}{k:IntKind}{x y:Int}(h:nL op=true):bin op (.i k x) (.i k y)=some (.b (cmpI op x y)):=by
 cases op<;>simp only[nL,Bool.false_eq_true]at h<;>simp only[bin,if_true,cmpI]<;>rfl
theorem JC{op:BinOp}(h:nL op=true)(ha:Dd tb Γ a (.val I.t x))(hb:Dd tb Γ b (.val I.t y)):Gd tb Γ (.bin op a b) (some (cmpI op (I.toI x) (I.toI y))) fun z=> .val T.b z:=by
 rintro E rv fp f H R z ⟨⟩
 exact⟨_,none,by simp only[Bz,Ma (ha E rv fp f H R),Ma (hb E rv fp f H R),bin_cmp h];rfl,rfl,Fz.2 rfl⟩
theorem EO{k:IntKind}(hk:k=J.k)(ha:Dd tb Γ a (.val I.t x)):Gd tb Γ (.cvi k a) (some (J.ofI (I.toI x))) fun z=> .val J.t z:=by
 rintro E rv fp f H R z ⟨⟩
 subst hk
 exact⟨_,none,by simp only[Bz,Ma (ha E rv fp f H R)],rfl,Q5 J⟩
end
theorem vI{k:IntKind}{x y:Int}{a b:AO}(ha:Dd tb Γ a (.val (T.int k) x))(hb:Dd tb Γ b (.val (T.int k) y)):Gd tb Γ (.bin .rem a b) (if y=0 then none else some (x.tmod y)) fun z=> .val (T.int k) z:=by
 intro E rv fp f H R z hz
 split at hz
 ·cases hz
 ·rename_i h0
  cases hz
  exact⟨_,none,by simp only[Bz,Cr.1 (ha E rv fp f H R),Cr.1 (hb E rv fp f H R),bin,if_true,if_neg h0];rfl,rfl,Cr.2 rfl⟩
theorem h_shr{k:IntKind}{J:IT}{x:Int}{y:J.t.α}{a b:AO}(ha:Dd tb Γ a (.val (T.int k) x))(hb:Dd tb Γ b (.val J.t y)):Gd tb Γ (.bin .shr a b) (if J.toI y<0 then none else some (x.fdiv (2^(min (J.toI y).toNat k.bits)))) fun z=> .val (T.int k) z:=by
 intro E rv fp f H R z hz
 split at hz
 ·cases hz
 ·rename_i h0
  cases hz
  exact⟨_,none,by simp only[Bz,Cr.1 (ha E rv fp f H R),Ma (hb E rv fp f H R),bin,if_neg h0];rfl,rfl,Cr.2 rfl⟩
structure NT extends IT where
 lt: ∀x,0≤toI x∧toI x<2^k.bits
 w: ∀n,0≤n→n<2^k.bits→k.wrap n=n
def NT.u8:NT:=⟨IT.u8,fun x=>⟨by simp[IT.u8],by have:x.toNat<256:=UInt8.toNat_lt x;simp only[IT.u8,IntKind.bits];omega⟩,fun n h0 h1=>by simp only[IT.u8,IntKind.bits]at*;rw[mO];omega⟩
def NT.u16:NT:=⟨IT.u16,fun x=>⟨by simp[IT.u16],by have:x.toNat<65536:=UInt16.toNat_lt x;simp only[IT.u16,IntKind.bits];omega⟩,fun n h0 h1=>by simp only[IT.u16,IntKind.bits]at*;rw[cK];omega⟩
def NT.u32:NT:=⟨IT.u32,fun x=>⟨by simp[IT.u32],by have:x.toNat<4294967296:=UInt32.toNat_lt x;simp only[IT.u32,IntKind.bits];omega⟩,fun n h0 h1=>by simp only[IT.u32,IntKind.bits]at*;rw[cJ];omega⟩
def NT.u64:NT:=⟨IT.u64,fun x=>⟨by simp[IT.u64],by have:x.toNat<18446744073709551616:=UInt64.toNat_lt x;simp only[IT.u64,IntKind.bits];omega⟩,fun n h0 h1=>by simp only[IT.u64,IntKind.bits]at*;rw[cI];omega⟩
theorem Pk{I:NT}{x y:I.t.α}{a b:AO}(ha:Dd tb Γ a (.val I.t x))(hb:Dd tb Γ b (.val I.t y)):Gd tb Γ (.bin .rem a b) (if I.toI y=0 then none else some (I.ofI ((I.toI x).tmod (I.toI y)))) fun z=> .val I.t z:=by
 intro E rv fp f H R z hz
 split at hz
 ·cases hz
 ·rename_i h0
  cases hz
  have h1:=I.lt x
  have h2:=I.lt y
  have hm:(I.toI x).tmod (I.toI y)=(I.toI x)%(I.toI y):=Int.tmod_eq_emod_of_nonneg h1.1
  have hw:=I.w ((I.toI x).tmod (I.toI y)) (by rw[hm];exact Int.emod_nonneg _ h0) (by rw[hm];exact Int.lt_of_lt_of_le (Int.emod_lt_of_pos _ (by omega)) (by omega))
  refine⟨_,none,by simp only[Bz,Ma (I:=I.toIT) (ha E rv fp f H R),Ma (I:=I.toIT) (hb E rv fp f H R),bin,if_true,if_neg h0];rfl,rfl,?_⟩
  have:=Q5 (rv:=rv) (ss:=Γ.ss) (P:=Pf E Γ.ss fp H) (H:=H) I.toIT (n:=(I.toI x).tmod (I.toI y))
  rwa [hw]at this
theorem Ti{I:NT}{J:IT}{x:I.t.α}{y:J.t.α}{a b:AO}(ha:Dd tb Γ a (.val I.t x))(hb:Dd tb Γ b (.val J.t y)):Gd tb Γ (.bin .shr a b) (if J.toI y<0 then none else some (I.ofI ((I.toI x).fdiv (2^(min (J.toI y).toNat I.k.bits))))) fun z=> .val I.t z:=by
 intro E rv fp f H R z hz
 split at hz
 ·cases hz
 ·rename_i h0
  cases hz
  have h1:=I.lt x
  have hp:(0:Int)<2^(min (J.toI y).toNat I.k.bits):=by exact_mod_cast Nat.two_pow_pos _
  have hm:(I.toI x).fdiv (2^(min (J.toI y).toNat I.k.bits))=(I.toI x)/(2^(min (J.toI y).toNat I.k.bits)):=Int.fdiv_eq_ediv_of_nonneg _ (by omega)
  have hw:=I.w ((I.toI x).fdiv (2^(min (J.toI y).toNat I.k.bits))) (by rw[hm];exact Int.ediv_nonneg h1.1 (by omega)) (by rw[hm];exact Int.lt_of_le_of_lt (Int.ediv_le_self _ h1.1) h1.2)
  refine⟨_,none,by simp only[Bz,Ma (I:=I.toIT) (ha E rv fp f H R),Ma (hb E rv fp f H R),bin,if_neg h0];rfl,rfl,?_⟩
  have:=Q5 (rv:=rv) (ss:=Γ.ss) (P:=Pf E Γ.ss fp H) (H:=H) I.toIT (n:=(I.toI x).fdiv (2^(min (J.toI y).toNat I.k.bits)))
  rwa [hw]at this
section
variable{a b:AO}
theorem Gs{x:Bool}(ha:Dd tb Γ a (.val T.b x)):Gd tb Γ (.un .not a) (some (!x)) fun z=> .val T.b z:=by
 rintro E rv fp f H R z ⟨⟩
 exact⟨_,none,by simp only[Bz,Fz.1 (ha E rv fp f H R),un];rfl,rfl,Fz.2 rfl⟩
def Hb{α:Type}(l:List α)(i:Int):Option α:=if 0≤i then l[i.toNat]? else none
def PW(len:Nat)(lo hi:Option Int):Option (Nat×Nat):=
 (match hi with
  |none=>some len
  |some n=>if 0≤n∧n≤len then some n.toNat else none).bind fun h=>
 (match lo with
  |none=>some 0
  |some n=>if 0≤n∧n≤h then some n.toNat else none).bind fun l=>some (l,h)
def Nv{α:Type}(l:List α)(lo hi:Option Int):Option (List α):=(PW l.length lo hi).map fun p=>(l.take p.2).drop p.1
inductive rJ(tb:Dg)(Γ:Cx):Option AO→Option Int→Prop where
 |none:rJ tb Γ none none
 |some {a:AO} {k:IntKind} {n:Int}:Dd tb Γ a (.val (T.int k) n)→rJ tb Γ (some a) (some n)
theorem T6{lo hi:Option AO}{l h:Option Int}(hl:rJ tb Γ lo l)(hh:rJ tb Γ hi h){E:P4}{rv:Nat→AV}{fp:Fp}{f:Fr}{H:Ax}(R:Bx E Γ rv fp f H)(len:Nat):HR (eval tb f) len lo hi=PW len l h:=by
 cases hl with
 |none=>
  cases hh with
  |none=>rfl
  |some hh=>simp only[HR,PW,JW,Cr.1 (hh E rv fp f H R),Il,Option.bind_some]
 |some hl=>
  cases hh with
  |none=>simp only[HR,PW,JW,Cr.1 (hl E rv fp f H R),Il,Option.bind_some]
  |some hh=>simp only[HR,PW,JW,Cr.1 (hl E rv fp f H R),Cr.1 (hh E rv fp f H R),Il,Option.bind_some]
variable{x y:AR}
theorem CJ(ha:Dd tb Γ a (.val Ak x))(hb:Dd tb Γ b (.val Ak y)):Gd tb Γ (.bin .add a b) (if x.length+y.length≤2*B4 then some (x++y)else none) fun z=> .val Ak z:=by
 intro E rv fp f H R z hz
 split at hz
 ·rename_i h0
  cases hz
  exact⟨_,none,by simp only[Bz,E2.1 (ha E rv fp f H R),E2.1 (hb E rv fp f H R),bin,if_pos h0];rfl,rfl,E2.2 rfl⟩
 ·cases hz
theorem HG(ha:Dd tb Γ a (.val Ak x))(hb:Dd tb Γ b (.val Ak y)):Gd tb Γ (.bin .eql a b) (some (decide (x=y))) fun z=> .val T.b z:=by
 rintro E rv fp f H R z ⟨⟩
 exact⟨_,none,by simp only[Bz,E2.1 (ha E rv fp f H R),E2.1 (hb E rv fp f H R),bin];rfl,rfl,Fz.2 (by congr 1;rw[Bool.eq_iff_iff];simp)⟩
theorem Hu(ha:Dd tb Γ a (.val Ak x)):Gd tb Γ (.lens a) (some (x.length:Int)) fun z=> .val (T.int .i64) z:=by
 rintro E rv fp f H R z ⟨⟩
 exact⟨_,none,by simp only[Bz,E2.1 (ha E rv fp f H R)],rfl,Cr.2 rfl⟩
theorem H4{k:IntKind}{n:Int}(ha:Dd tb Γ a (.val Ak x))(hb:Dd tb Γ b (.val (T.int k) n)):Gd tb Γ (.ixs a b) (Hb x n) fun z=> .val T.u8 z:=by
 intro E rv fp f H R z hz
 simp only[Hb]at hz
 split at hz
 ·rename_i h0
  exact⟨_,none,by simp only[Bz,E2.1 (ha E rv fp f H R),Cr.1 (hb E rv fp f H R),Il,Option.bind_some,if_pos h0,hz,Option.map_some],rfl,TC.2 rfl⟩
 ·cases hz
theorem Pi{lo hi:Option AO}{l h:Option Int}(ha:Dd tb Γ a (.val Ak x))(hl:rJ tb Γ lo l)(hh:rJ tb Γ hi h):Gd tb Γ (.sls a lo hi) (Nv x l h) fun z=> .val Ak z:=by
 intro E rv fp f H R z hz
 obtain⟨p,hp,rfl⟩:=Option.map_eq_some_iff.1 hz
 exact⟨_,none,by simp only[Bz,E2.1 (ha E rv fp f H R),T6 hl hh R,hp,Option.map_some],rfl,E2.2 rfl⟩
end
def gd(g:Nat)(w:Bool)(o:Bl):Bl:=match o.g with
 |none=>{o with g:=some (g,w)}
 |some _=>o
def mS:List Nat→List Bl→Bool
 |_,[]=>true
 |seen,o::r=>(match o.g with
  |none=>true
  |some (t,_)=>seen.any (Nat.beq t))&&mS (match o.d with|some d=>d::seen|none=>seen) r
def HA(l:List Bl):List Nat:=l.filterMap (·.d)
structure Bt(tb:Dg)(Γ:Cx)(q:Bool)(l:List Bl)(t:Nat) where
 m:Option Bool
 ok: ∀E rv fp f H,Bx E Γ rv fp f H→ ∀b,m=some b→ ∃f',Bc tb (C1 tb) (rg q l) f H=some (.normal,f',H)∧get f' t= .b b∧ ∀u,u∉HA l→get f' u=get f u
def Bt.nil{q:Bool}{t:Nat}{b:Bool}(h:Dd tb Γ (.t t) (.val T.b b)):Bt tb Γ q [] t:=
 ⟨some b,fun E rv fp f H I _ hb=>by
  cases hb
  exact⟨f,DD,Fz.1 (h E rv fp f H I),fun _ _=>rfl⟩⟩
def Bt.op{q:Bool}{t d:Nat}{o:Im}{l:List Bl}{β:Type}{a:Option β}{φ:β→AL}(h:Gd tb Γ o a φ)(k:(b:β)→Bt tb (Γ.push d (φ b)) q l t):Bt tb Γ q (⟨some d,none,o⟩::l) t:=
 ⟨a.bind fun b=>(k b).m,fun E rv fp f H I r hr=>by
  obtain⟨b,hb,hr⟩:=Option.bind_eq_some_iff.1 hr
  obtain⟨v,u,h1,h2,h3⟩:=h E rv fp f H I b hb
  obtain⟨f',h4,h5,h6⟩:=(k b).ok E rv fp (put f (some d) v) H (I.push h3) r hr
  refine⟨f',by rw[DW h1 h2];exact h4,h5,fun u hu=> ?_⟩
  simp only[HA,List.filterMap_cons,List.mem_cons,not_or]at hu
  rw[h6 u hu.2]
  simp only[put,get]
  rw[if_neg (Ne.symm hu.1)]⟩
def BD{q:Bool}{t d:Nat}{o:Im}{l:List Bl}{u:T}{x:u.α}(h:Gd tb Γ o (some ()) fun _=> .val u x)(k:(y:u.α)→Bt tb (Γ.push d (.val u y)) q l t):Bt tb Γ q (⟨some d,none,o⟩::l) t:=
 ⟨(k x).m,(Bt.op (a:=some ()) (φ:=fun _=> .val u x) h fun _=>k x).ok⟩
def AX{q:Bool}{t d:Nat}{o:Im}{l:List Bl}{φ:AL}(h:Gd tb Γ o (some ()) fun _=>φ)(k:Bt tb (Γ.push d φ) q l t):Bt tb Γ q (⟨some d,none,o⟩::l) t:=
 ⟨k.m,(Bt.op (a:=some ()) (φ:=fun _=>φ) h fun _=>k).ok⟩
theorem E9{q:Bool}: ∀{l r:List Bl} {f f':Fr} {H H':Ax},Bc tb (C1 tb) (rg q l) f H=some (.normal,f',H')→Bc tb (C1 tb) (rg q (l++r)) f H=Bc tb (C1 tb) (rg q r) f' H'
 |[],r,f,f',H,H',h=>by rw[DD]at h;cases h;rfl
 |o::l,r,f,f',H,H',h=>by
  cases q with
  |true=>
   simp only[rg,if_true,Bc,List.cons_append,Ir]at h ⊢
   cases hw:wanted f o.g with
   |none=>rw[hw]at h;simp at h
   |some w=>
    rw[hw]at h
    simp only[Option.bind_some]at h ⊢
    cases w with
    |false=>
     simp only[Bool.false_eq_true,if_false]at h ⊢
     exact E9 (q:=true) (l:=l) (r:=r) (by simpa [rg,Bc]using h)
    |true=>
     simp only[if_true]at h ⊢
     cases hp:Bz tb (C1 tb) (eval tb f) H o.o with
     |none=>rw[hp]at h;simp at h
     |some p=>
      rw[hp]at h
      simp only[Option.bind_some]at h ⊢
      split at h
      ·rename_i hs
       rw[if_pos hs]
       exact E9 (q:=true) (l:=l) (r:=r) (by simpa [rg,Bc]using h)
      ·simp at h
  |false=>
   simp only[rg,Bool.false_eq_true,if_false,Bc,List.cons_append,ops]at h ⊢
   cases hw:wanted f o.g with
   |none=>rw[hw]at h;simp at h
   |some w=>
    rw[hw]at h
    simp only[Option.bind_some]at h ⊢
    cases w with
    |false=>
     simp only[Bool.false_eq_true,if_false]at h ⊢
     exact E9 (q:=false) (l:=l) (r:=r) (by simpa [rg,Bc]using h)
    |true=>
     simp only[if_true]at h ⊢
     cases hp:Bz tb (C1 tb) (eval tb f) H o.o with
     |none=>rw[hp]at h;simp at h
     |some p=>
      rw[hp]at h
      simp only[Option.bind_some]at h ⊢
      exact E9 (q:=false) (l:=l) (r:=r) (by simpa [rg,Bc]using h)
def JK(g:Nat)(w:Bool):Nat→List Bl→Option (List Bl×List Bl)
 |0,L=>some ([],L)
 |n+1,⟨d,some (g',w'),o⟩::r=>(JK g w n r).map fun p=>(if Nat.beq g' g&&(w'==w)then⟨d,none,o⟩::p.1 else⟨d,some (g',w'),o⟩::p.1,p.2)
 |_,_=>none
theorem G5{g:Nat}{w:Bool}: ∀{n:Nat} {L l R:List Bl},JK g w n L=some (l,R)→L=l.map (gd g w)++R
 |0,L,l,R,h=>by simp only[JK,Option.some.injEq,Prod.mk.injEq]at h;rw[←h.1,←h.2];rfl
 |n+1,[],l,R,h=>by simp[JK]at h
 |n+1,⟨d,none,o⟩::r,l,R,h=>by simp[JK]at h
 |n+1,⟨d,some (g',w'),o⟩::r,l,R,h=>by
  simp only[JK]at h
  obtain⟨p,hp,h⟩:=Option.map_eq_some_iff.1 h
  have ih:=G5 (l:=p.1) (R:=p.2) hp
  simp only[Prod.mk.injEq]at h
  obtain⟨h1,rfl⟩:=h
  split at h1
  ·rename_i hc
   simp only[Bool.and_eq_true,beq_iff_eq]at hc
   obtain⟨hc,rfl⟩:=hc
   have hc:=Nat.eq_of_beq_eq_true hc
   subst hc
   rw[←h1,ih];rfl
  ·rw[←h1,ih];rfl
theorem wanted_put{f:Fr}{g:Nat}{w:Bool}{v:AV}{d:Option Nat}(h:d≠some g):get (put f d v) g=get f g:=by
 cases d with
 |none=>rfl
 |some d=>simp only[put,get];rw[if_neg (fun e=>h (by rw[e]))]
theorem VK{q:Bool}{g:Nat}{w:Bool}: ∀{l:List Bl} {f:Fr} {H:Ax},get f g= .b w→g∉HA l→Bc tb (C1 tb) (rg q (l.map (gd g w))) f H=Bc tb (C1 tb) (rg q l) f H
 |[],_,_,_,_=>rfl
 |o::l,f,H,h,hn=>by
  have hd:o.d≠some g:=fun e=>hn (by simp[HA,e])
  have hn':g∉HA l:=fun e=>hn (by
   simp only[HA,List.filterMap_cons]at e ⊢
   cases o.d<;>simp[e])
  have hwt:wanted f (gd g w o).g=wanted f o.g:=by
   cases ho:o.g with
   |none=>simp[gd,ho,wanted,h]
   |some p=>simp[gd,ho]
  have hoo:(gd g w o).o=o.o:=by cases ho:o.g<;>simp[gd,ho]
  have hod:(gd g w o).d=o.d:=by cases ho:o.g<;>simp[gd,ho]
  have ih: ∀v H',Bc tb (C1 tb) (rg q (l.map (gd g w))) (put f o.d v) H'=Bc tb (C1 tb) (rg q l) (put f o.d v) H':=fun v H'=>VK (by rw[wanted_put (w:=w) hd];exact h) hn'
  cases q with
  |true=>
   have ih': ∀v H',Ir tb (C1 tb) H' (l.map (gd g w)) (put f o.d v)=Ir tb (C1 tb) H' l (put f o.d v):=fun v H'=>by
    have:=ih v H'
    simp only[rg,if_true,Bc]at this
    cases h1:Ir tb (C1 tb) H' (l.map (gd g w)) (put f o.d v)<;>cases h2:Ir tb (C1 tb) H' l (put f o.d v)<;>simp_all
   simp only[rg,if_true,Bc,List.map_cons,Ir,hwt,hoo,hod,ih']
  |false=>
   have ih': ∀v H',ops tb (C1 tb) (l.map (gd g w)) (put f o.d v) H'=ops tb (C1 tb) l (put f o.d v) H':=fun v H'=>by
    have:=ih v H'
    simp only[rg,Bool.false_eq_true,if_false,Bc]at this
    cases h1:ops tb (C1 tb) (l.map (gd g w)) (put f o.d v) H'<;>cases h2:ops tb (C1 tb) l (put f o.d v) H'<;>simp_all [Prod.ext_iff]
   simp only[rg,Bool.false_eq_true,if_false,Bc,List.map_cons,ops,hwt,hoo,hod,ih']
theorem Mh{q:Bool}{g:Nat}{w:Bool}: ∀{l:List Bl} {seen:List Nat} {f:Fr} {H:Ax},get f g= .b (!w)→g∉HA l→mS seen l=true→(∀t∈seen,get f t= .tup [])→
  ∃f',Bc tb (C1 tb) (rg q (l.map (gd g w))) f H=some (.normal,f',H)∧ ∀u,u∉HA l→get f' u=get f u
 |[],seen,f,H,_,_,_,_=>⟨f,DD,fun _ _=>rfl⟩
 |o::l,seen,f,H,h,hn,hs,hseen=>by
  have hd:o.d≠some g:=fun e=>hn (by simp[HA,e])
  have hn':g∉HA l:=fun e=>hn (by
   simp only[HA,List.filterMap_cons]at e ⊢
   cases o.d<;>simp[e])
  simp only[mS,Bool.and_eq_true]at hs
  have hwt:wanted f (gd g w o).g=some false:=by
   cases ho:o.g with
   |none=>simp[gd,ho,wanted,h]
   |some p=>
    obtain⟨t,b⟩:=p
    simp only[gd,ho,wanted]
    have:=hs.1
    rw[ho]at this
    obtain⟨x,hx,hb⟩:=List.any_eq_true.1 this
    have hb:=Nat.eq_of_beq_eq_true hb
    subst hb
    rw[hseen _ hx]
  have hod:(gd g w o).d=o.d:=by cases ho:o.g<;>simp[gd,ho]
  obtain⟨f',h1,h2⟩:=Mh (q:=q) (w:=w) (l:=l) (seen:=match o.d with|some d=>d::seen|none=>seen) (f:=put f o.d (.tup [])) (H:=H)
   (by rw[wanted_put (w:=w) hd];exact h) hn' hs.2 (fun t ht=>by
    cases hdd:o.d with
    |none=>rw[hdd]at ht;exact hseen t ht
    |some d=>
     rw[hdd]at ht
     simp only[put,get]
     by_cases e:d=t
     ·rw[if_pos e]
     ·rw[if_neg e]
      rcases List.mem_cons.1 ht with e'|ht
      ·exact absurd e'.symm e
      ·exact hseen t ht)
  refine⟨f',?_,fun u hu=> ?_⟩
  ·cases q with
   |true=>
    simp only[rg,if_true,Bc]at h1 ⊢
    simp only[List.map_cons,Ir,hwt,Option.bind_some,Bool.false_eq_true,if_false,hod];exact h1
   |false=>
    simp only[rg,Bool.false_eq_true,if_false,Bc]at h1 ⊢
    simp only[List.map_cons,ops,hwt,Option.bind_some,Bool.false_eq_true,if_false,hod];exact h1
  ·have hu':u∉HA l:=fun e=>hu (by
    simp only[HA,List.filterMap_cons]at e ⊢
    cases o.d<;>simp[e])
   rw[h2 u hu']
   exact wanted_put (w:=w) fun e=>hu (by simp[HA,e])
def XK(l:List Nat)(n:Nat):Bool:=l.any (Nat.beq n)
theorem II{l:List Nat}{n:Nat}(h:XK l n=false):n∉l:=by
 intro hm
 rw[XK,List.any_eq_false]at h
 exact h n hm (by simp)
def oM(l:List Nat)(ts:Ts):Bool:=ts.all fun p=> !XK l p.1
theorem HT{l:List Nat}: ∀{ts:Ts} {t:Nat} {φ:AL},oM l ts=true→BI ts t=some φ→t∉l
 |[],_,_,_,e=>by simp[BI]at e
 |(u,ψ)::r,t,φ,h,e=>by
  simp only[oM,List.all_cons,Bool.and_eq_true,Bool.not_eq_true']at h
  simp only[BI]at e
  split at e
  ·rename_i hu;subst hu;exact II h.1
  ·exact HT (by simpa [oM]using h.2) e
def Si(g:Nat)(l:List Bl)(ts:Ts):Bool:=mS [] l&&(!XK (HA l) g&&oM (HA l) ts)
theorem VX{f:Fr}{H:Ax}{E:P4}{rv:Nat→AV}{fp:Fp}(I:Bx E Γ rv fp f H){d:Nat}{z:Bool}:Bx E (Γ.push d (.val T.b z)) rv fp (put f (some d) (.b z)) H:=I.push (Fz.2 rfl)
def Cy(b:Bool)(m:Option Bool):Option Bool:=if b=true then m else some false
def PF(b:Bool)(m:Option Bool):Option Bool:=if b=true then some true else m
variable{ks:List Kf}{ρ:Type}{Q:MR ρ}
def Aa.and{q:Bool}{L l rest:List Bl}{g t d:Nat}{b:Bool}(n:Nat)(og:BI Γ.ts g=some (.val T.b b))(h:JK g true n L=some (l,⟨some d,none, .pick (.t g) (.t t) (.k (.b false))⟩::rest))(hc:Si g l Γ.ts=true)
  (L6:Bt tb Γ q l t) (k:(z:Bool)→Aa tb (Γ.push d (.val T.b z)) (rg q rest) ks Q):Aa tb Γ (rg q L) ks Q:=
 ⟨(Cy b L6.m).bind fun z=>(k z).m,fun E f H ⟨rv,fp,I⟩ r hr=>by
  obtain⟨z,hz,hr⟩:=Option.bind_eq_some_iff.1 hr
  have hL:=G5 h
  simp only[Si,Bool.and_eq_true,Bool.not_eq_true']at hc
  obtain⟨hc1,hc2,hc3⟩:=hc
  have hg:=Fz.1 (I.temps g _ og)
  have hng:=II hc2
  have fin: ∃f',Bc tb (C1 tb) (rg q (l.map (gd g true))) f H=some (.normal,f',H)∧(∀u,u∉HA l→get f' u=get f u)∧(if b then get f' t else .b false)= .b z:=by
   cases b with
   |true=>
    obtain⟨f',h1,h2,h3⟩:=L6.ok E rv fp f H I z (by simpa [Cy,PF]using hz)
    exact⟨f',by rw[VK hg hng];exact h1,h3,by simpa using h2⟩
   |false=>
    obtain⟨f',h1,h2⟩:=Mh (tb:=tb) (q:=q) (w:=true) (H:=H) hg hng hc1 (by simp)
    exact⟨f',h1,h2,by simpa [Cy,PF]using hz⟩
  obtain⟨f',h1,h2,h3⟩:=fin
  have hp:Bz tb (C1 tb) (eval tb f') H (.pick (.t g) (.t t) (.k (.b false)))=some (.b z,none):=by
   simp only[Bz,eval,h2 g hng,hg]
   rw[←h3]
  have I':Bx E Γ rv fp f' H:=I.fr fun u φ e=>h2 u (HT hc3 e)
  obtain⟨e,f2,H2,h4,h5⟩:=(k z).ok E _ H ⟨rv,fp,VX I'⟩ r hr
  exact⟨e,f2,H2,by rw[hL,E9 h1,DW hp rfl];exact h4,h5⟩⟩
def Aa.or{q:Bool}{L l rest:List Bl}{g t d:Nat}{b:Bool}(n:Nat)(og:BI Γ.ts g=some (.val T.b b))(h:JK g false n L=some (l,⟨some d,none, .pick (.t g) (.k (.b true)) (.t t)⟩::rest))(hc:Si g l Γ.ts=true)
  (L6:Bt tb Γ q l t) (k:(z:Bool)→Aa tb (Γ.push d (.val T.b z)) (rg q rest) ks Q):Aa tb Γ (rg q L) ks Q:=
 ⟨(PF b L6.m).bind fun z=>(k z).m,fun E f H ⟨rv,fp,I⟩ r hr=>by
  obtain⟨z,hz,hr⟩:=Option.bind_eq_some_iff.1 hr
  have hL:=G5 h
  simp only[Si,Bool.and_eq_true,Bool.not_eq_true']at hc
  obtain⟨hc1,hc2,hc3⟩:=hc
  have hg:=Fz.1 (I.temps g _ og)
  have hng:=II hc2
  have fin: ∃f',Bc tb (C1 tb) (rg q (l.map (gd g false))) f H=some (.normal,f',H)∧(∀u,u∉HA l→get f' u=get f u)∧(if b then .b true else get f' t)= .b z:=by
   cases b with
   |false=>
    obtain⟨f',h1,h2,h3⟩:=L6.ok E rv fp f H I z (by simpa [Cy,PF]using hz)
    exact⟨f',by rw[VK hg hng];exact h1,h3,by simpa using h2⟩
   |true=>
    obtain⟨f',h1,h2⟩:=Mh (tb:=tb) (q:=q) (w:=false) (H:=H) hg hng hc1 (by simp)
    exact⟨f',h1,h2,by simpa [Cy,PF]using hz⟩
  obtain⟨f',h1,h2,h3⟩:=fin
  have hp:Bz tb (C1 tb) (eval tb f') H (.pick (.t g) (.k (.b true)) (.t t))=some (.b z,none):=by
   simp only[Bz,eval,h2 g hng,hg]
   rw[←h3]
  have I':Bx E Γ rv fp f' H:=I.fr fun u φ e=>h2 u (HT hc3 e)
  obtain⟨e,f2,H2,h4,h5⟩:=(k z).ok E _ H ⟨rv,fp,VX I'⟩ r hr
  exact⟨e,f2,H2,by rw[hL,E9 h1,DW hp rfl];exact h4,h5⟩⟩
def Bt.and{q:Bool}{L l rest:List Bl}{g t t' d:Nat}{b:Bool}(n:Nat)(og:BI Γ.ts g=some (.val T.b b))(h:JK g true n L=some (l,⟨some d,none, .pick (.t g) (.t t) (.k (.b false))⟩::rest))(hc:Si g l Γ.ts=true)
  (hd:(HA l).all (XK (HA L))=true) (hd':(d::HA rest).all (XK (HA L))=true)
  (L6:Bt tb Γ q l t) (k:(z:Bool)→Bt tb (Γ.push d (.val T.b z)) q rest t'):Bt tb Γ q L t':=
 ⟨(Cy b L6.m).bind fun z=>(k z).m,fun E rv fp f H I r hr=>by
  obtain⟨z,hz,hr⟩:=Option.bind_eq_some_iff.1 hr
  have hL:=G5 h
  simp only[Si,Bool.and_eq_true,Bool.not_eq_true']at hc
  obtain⟨hc1,hc2,hc3⟩:=hc
  have hg:=Fz.1 (I.temps g _ og)
  have hng:=II hc2
  have sub: ∀{m:List Nat},m.all (XK (HA L))=true→ ∀u,u∉HA L→u∉m:=fun hm u hu hum=>by
   have:=List.all_eq_true.1 hm u hum
   obtain⟨x,hx,hb⟩:=List.any_eq_true.1 this
   exact hu (Nat.eq_of_beq_eq_true hb▸hx)
  have fin: ∃f',Bc tb (C1 tb) (rg q (l.map (gd g true))) f H=some (.normal,f',H)∧(∀u,u∉HA l→get f' u=get f u)∧(if b then get f' t else .b false)= .b z:=by
   cases b with
   |true=>
    obtain⟨f',h1,h2,h3⟩:=L6.ok E rv fp f H I z (by simpa [Cy,PF]using hz)
    exact⟨f',by rw[VK hg hng];exact h1,h3,by simpa using h2⟩
   |false=>
    obtain⟨f',h1,h2⟩:=Mh (tb:=tb) (q:=q) (w:=true) (H:=H) hg hng hc1 (by simp)
    exact⟨f',h1,h2,by simpa [Cy,PF]using hz⟩
  obtain⟨f',h1,h2,h3⟩:=fin
  have hp:Bz tb (C1 tb) (eval tb f') H (.pick (.t g) (.t t) (.k (.b false)))=some (.b z,none):=by
   simp only[Bz,eval,h2 g hng,hg]
   rw[←h3]
  have I':Bx E Γ rv fp f' H:=I.fr fun u φ e=>h2 u (HT hc3 e)
  obtain⟨f2,h4,h5,h6⟩:=(k z).ok E rv fp _ H (VX I') r hr
  refine⟨f2,by rw[hL,E9 h1,DW hp rfl];exact h4,h5,fun u hu=> ?_⟩
  have hu':=sub hd' u hu
  rw[h6 u fun e=>hu' (List.mem_cons_of_mem _ e),wanted_put (w:=true) (fun e=>hu' (by cases e;exact List.mem_cons_self)),h2 u (sub hd u hu)]⟩
def Bt.or{q:Bool}{L l rest:List Bl}{g t t' d:Nat}{b:Bool}(n:Nat)(og:BI Γ.ts g=some (.val T.b b))(h:JK g false n L=some (l,⟨some d,none, .pick (.t g) (.k (.b true)) (.t t)⟩::rest))(hc:Si g l Γ.ts=true)
  (hd:(HA l).all (XK (HA L))=true) (hd':(d::HA rest).all (XK (HA L))=true)
  (L6:Bt tb Γ q l t) (k:(z:Bool)→Bt tb (Γ.push d (.val T.b z)) q rest t'):Bt tb Γ q L t':=
 ⟨(PF b L6.m).bind fun z=>(k z).m,fun E rv fp f H I r hr=>by
  obtain⟨z,hz,hr⟩:=Option.bind_eq_some_iff.1 hr
  have hL:=G5 h
  simp only[Si,Bool.and_eq_true,Bool.not_eq_true']at hc
  obtain⟨hc1,hc2,hc3⟩:=hc
  have hg:=Fz.1 (I.temps g _ og)
  have hng:=II hc2
  have sub: ∀{m:List Nat},m.all (XK (HA L))=true→ ∀u,u∉HA L→u∉m:=fun hm u hu hum=>by
   have:=List.all_eq_true.1 hm u hum
   obtain⟨x,hx,hb⟩:=List.any_eq_true.1 this
   exact hu (Nat.eq_of_beq_eq_true hb▸hx)
  have fin: ∃f',Bc tb (C1 tb) (rg q (l.map (gd g false))) f H=some (.normal,f',H)∧(∀u,u∉HA l→get f' u=get f u)∧(if b then .b true else get f' t)= .b z:=by
   cases b with
   |false=>
    obtain⟨f',h1,h2,h3⟩:=L6.ok E rv fp f H I z (by simpa [Cy,PF]using hz)
    exact⟨f',by rw[VK hg hng];exact h1,h3,by simpa using h2⟩
   |true=>
    obtain⟨f',h1,h2⟩:=Mh (tb:=tb) (q:=q) (w:=false) (H:=H) hg hng hc1 (by simp)
    exact⟨f',h1,h2,by simpa [Cy,PF]using hz⟩
  obtain⟨f',h1,h2,h3⟩:=fin
  have hp:Bz tb (C1 tb) (eval tb f') H (.pick (.t g) (.k (.b true)) (.t t))=some (.b z,none):=by
   simp only[Bz,eval,h2 g hng,hg]
   rw[←h3]
  have I':Bx E Γ rv fp f' H:=I.fr fun u φ e=>h2 u (HT hc3 e)
  obtain⟨f2,h4,h5,h6⟩:=(k z).ok E rv fp _ H (VX I') r hr
  refine⟨f2,by rw[hL,E9 h1,DW hp rfl];exact h4,h5,fun u hu=> ?_⟩
  have hu':=sub hd' u hu
  rw[h6 u fun e=>hu' (List.mem_cons_of_mem _ e),wanted_put (w:=true) (fun e=>hu' (by cases e;exact List.mem_cons_self)),h2 u (sub hd u hu)]⟩
end
end Go.Proofs.YtobejhpigbllpaaGreatDoor.Am
namespace Go.Proofs.YtobejhpigbllpaaGreatDoor.Am
structure AZ(t u:T)(off:Nat) where
 get:t.α→u.α
 put:t.α→u.α→t.α
 le:off+u.sz≤t.sz
 getR: ∀{P:Nat→Prop} {H:Ax} {cs:List AV} {x:t.α},t.R P H cs x→u.R P H (sub cs off u.sz) (get x)
 putR: ∀{P:Nat→Prop} {H:Ax} {cs:List AV} {x:t.α} {c:List AV} {y:u.α},t.R P H cs x→u.R P H c y→t.R P H (B2 cs off c) (put x y)
def At(t:T):AZ t t 0 where
 get:=fun x=>x
 put:=fun _ y=>y
 le:=by omega
 getR:=fun{P H cs x} h=>by
  have:=t.len h
  rw[show sub cs 0 t.sz=cs by simp only[sub,List.drop_zero];exact List.take_of_length_le (by omega)];exact h
 putR:=fun{P H cs x c y} h g=>by
  have h1:=t.len h
  have h2:=t.len g
  rw[show B2 cs 0 c=c by simp[B2,List.drop_eq_nil_of_le (show cs.length≤c.length by omega)]];exact g
def KJ{a b u:T}{off:Nat}(F:AZ a u off):AZ (Hx a b) u off where
 get:=fun x=>F.get x.1
 put:=fun x y=>(F.put x.1 y,x.2)
 le:=Nat.le_trans F.le (Nat.le_add_right _ _)
 getR:=fun{P H cs x} ⟨c,d,e,h,g⟩=>by
  have h1:=a.len h
  have h2:=F.le
  have:=F.getR h
  rw[show sub cs off u.sz=sub c off u.sz by
   subst e
   simp only[sub]
   rw[List.drop_append_of_le_length (by omega),List.take_append_of_le_length (by simp;omega)]]
  exact this
 putR:=fun{P H cs x c' y} ⟨c,d,e,h,g⟩ k=>by
  have h1:=a.len h
  have h2:=F.le
  have h3:=u.len k
  refine⟨B2 c off c',d,?_,F.putR h k,g⟩
  subst e
  simp only[B2]
  rw[List.take_append_of_le_length (by omega),List.drop_append_of_le_length (by omega)]
  simp
def Ey{a b u:T}{off:Nat}(F:AZ b u off):AZ (Hx a b) u (a.sz+off) where
 get:=fun x=>F.get x.2
 put:=fun x y=>(x.1,F.put x.2 y)
 le:=by have:=F.le;show a.sz+off+u.sz≤a.sz+b.sz;omega
 getR:=fun{P H cs x} ⟨c,d,e,h,g⟩=>by
  have h1:=a.len h
  have:=F.getR g
  rw[show sub cs (a.sz+off) u.sz=sub d off u.sz by
   subst e
   simp only[sub]
   rw[←List.drop_drop,List.drop_left' h1]]
  exact this
 putR:=fun{P H cs x c' y} ⟨c,d,e,h,g⟩ k=>by
  have h1:=a.len h
  refine⟨c,B2 d off c',?_,h,F.putR g k⟩
  subst e
  simp only[B2]
  rw[List.take_append,List.take_of_length_le (by omega),show a.sz+off-c.length=off by omega]
  rw[show a.sz+off+c'.length=c.length+(off+c'.length) by omega,←List.drop_drop,List.drop_left' rfl]
  simp
def I3{t u:T}{off:Nat}{β:Type}{f:β→t.α}{g:t.α→β}{hfg: ∀y,f (g y)=y}(F:AZ t u off):AZ (Xo t β f g hfg) u off where
 get:=fun x=>F.get (f x)
 put:=fun x y=>g (F.put (f x) y)
 le:=F.le
 getR:=fun h=>F.getR h
 putR:=fun{P H cs x c y} h k=>by
  show t.R P H _ (f (g _))
  rw[hfg]
  exact F.putR h k
def Ar.set{α:Type}{n:Nat}(a:Ar α n)(i:Nat)(x:α):Ar α n:=⟨a.l.set i x,by rw[List.length_set];exact a.len⟩
section
variable{tb:Dg}{Γ:Cx}{a b:AO}
theorem S5.len{t:T}{P:Nat→Prop}{H:Ax}{v:AV}: ∀{g:GS t.α},S5 t P H v g→Pb v=some g.l.length
 | .nil,h=>by rw[show v=_ from h];rfl
 | .mk l,⟨bp,els,e,h⟩=>by
  have hl:=h.length
  cases v<;>simp only[LV]at bp<;>simp only[EP]at e<;>simp only[Pb,GS.l,Option.some.injEq]
  ·split at e
   ·cases e;exact hl
   ·cases e
  ·obtain⟨r,hr,e⟩:=Option.bind_eq_some_iff.1 e
   split at e
   ·rename_i hc
    cases e
    rw[List.length_take,List.length_drop]at hl
    omega
   ·cases e
  ·obtain⟨r,hr,e⟩:=Option.bind_eq_some_iff.1 e
   split at e
   ·cases e
    rename_i hc
    rw[←hl]
    have: ∀(n:Nat) (l:List AV) (sz:Nat),(BK sz n l).length=n:=by
     intro n
     induction n with
     |zero=>intro l sz;rfl
     |succ n ih=>intro l sz;simp[BK,ih]
    exact(this _ _ _).symm
   ·cases e
theorem S5.els{t:T}{P:Nat→Prop}{H:Ax}{v:AV}: ∀{g:GS t.α},S5 t P H v g→ ∃els,EP H t.sz v=some els∧Do t P H els g.l
 | .nil,h=>by rw[show v=_ from h];exact⟨[],rfl,trivial⟩
 | .mk l,⟨_,els,e,h⟩=>⟨els,e,h⟩
theorem Gb{t:T}{g:GS t.α}(ha:Dd tb Γ a (.val (T.sl t) g)):Gd tb Γ (.len a) (some (g.l.length:Int)) fun z=> .val (T.int .i64) z:=by
 rintro E rv fp f H R z ⟨⟩
 exact⟨_,none,by simp only[Bz,(Ka.1 (ha E rv fp f H R)).len,Option.map_some],rfl,Cr.2 rfl⟩
theorem Sh{sz:Nat}: ∀{n i:Nat} {l c:List AV},n*sz≤l.length→(BK sz n l)[i]? =some c→sub l (i*sz) sz=c∧i*sz+sz≤l.length
 |0,i,l,c,_,h=>by simp[BK]at h
 |n+1,0,l,c,hl,h=>by
  simp only[BK,List.getElem?_cons_zero,Option.some.injEq]at h
  rw[Nat.succ_mul]at hl
  exact⟨by simpa [sub]using h,by omega⟩
 |n+1,i+1,l,c,hl,h=>by
  simp only[BK,List.getElem?_cons_succ]at h
  rw[Nat.succ_mul]at hl
  obtain⟨h1,h2⟩:=Sh (l:=l.drop sz) (by simp;omega) h
  simp only[List.length_drop]at h2
  refine⟨?_,by rw[Nat.succ_mul];omega⟩
  simp only[sub,List.drop_drop]at h1 ⊢
  rw[show(i+1)*sz=sz+i*sz by rw[Nat.succ_mul];omega];exact h1
theorem Tx{els:List (List AV)}{i:Nat}{c:List AV}(hc:els[i]? =some c):(els.drop i).flatten=c++(els.drop (i+1)).flatten:=by
 obtain⟨hi,rfl⟩:=List.getElem?_eq_some_iff.1 hc
 rw[List.drop_eq_getElem_cons hi,List.flatten_cons]
theorem cS{c d:List AV}{o k:Nat}(h:o+k≤c.length):sub (c++d) o k=sub c o k:=by
 simp only[sub]
 rw[List.drop_append_of_le_length (by omega),List.take_append_of_le_length (by simp;omega)]
theorem S5.addr{t:T}{P:Nat→Prop}{H:Ax}{v:AV}{i:Nat}{x:t.α}: ∀{g:GS t.α},S5 t P H v g→g.l[i]? =some x→ ∃p,W8 H t.sz v i=some p∧iU t P H p x
 | .nil,_,h=>by simp[GS.l]at h
 | .mk l,⟨bp,els,e,h⟩,hx=>by
  obtain⟨c,hc,hr⟩:=h.get hx
  have hi:i<els.length:=(List.getElem?_eq_some_iff.1 hc).1
  have hlen:=t.len hr
  have hsub: ∀cs:List AV,cs=c→sub cs 0 t.sz=c:=fun cs e=>by
   subst e;simp only[sub,List.drop_zero];exact List.take_of_length_le (by omega)
  simp only[W8,e,Option.bind_some,if_pos hi]
  cases v<;>simp only[LV]at bp
  ·refine⟨.ip c 0,by simp[hc],trivial,c,0,rfl,by omega,by rw[hsub c rfl];exact hr,fun m hm=> ?_⟩
   simpa [BS]using t.men hr hm
  ·rename_i id k lo len
   simp only[EP]at e
   obtain⟨r,hrow,e⟩:=Option.bind_eq_some_iff.1 e
   split at e
   ·rename_i hcd
    cases e
    have hc':r.2.2[lo+i]? =some c:=by
     rw[List.getElem?_take]at hc
     split at hc
     ·rwa [List.getElem?_drop]at hc
     ·cases hc
    refine⟨.pe id k (lo+i) 0,rfl,bp,_,0,by simp only[place,hrow,Option.bind_some,if_pos hcd.1];rfl,by rw[Tx hc'];simp;omega,by rw[Tx hc',cS (by omega),hsub c rfl];exact hr,fun m hm=>by simp only[BS];exact hm _ bp⟩
   ·cases e
  ·rename_i sz' id off len
   simp only[EP]at e
   obtain⟨r,hrow,e⟩:=Option.bind_eq_some_iff.1 e
   split at e
   ·rename_i hcd
    cases e
    obtain⟨h1,h2⟩:=Sh (by simp;omega) hc
    simp only[List.length_drop]at h2
    refine⟨.ptr id (off+i*t.sz),rfl,bp,r,off+i*t.sz,by simp[place,hrow],by omega,?_,fun m hm=>by simp only[BS];exact hm _ bp⟩
    have:sub r (off+i*t.sz) t.sz=c:=by
     simp only[sub,List.drop_drop]at h1 ⊢;exact h1
    rw[this];exact hr
   ·cases e
theorem HH{t:T}{g:GS t.α}{k:IntKind}{i:Int}{sz:Nat}(hs:sz=t.sz)(ha:Dd tb Γ a (.val (T.sl t) g))(hb:Dd tb Γ b (.val (T.int k) i)):Gd tb Γ (.ias sz a b) (Hb g.l i) fun x=> .rp t x:=by
 intro E rv fp f H R x hx
 simp only[Hb]at hx
 split at hx
 ·rename_i h0
  obtain⟨p,h1,h2⟩:=(Ka.1 (ha E rv fp f H R)).addr hx
  subst hs
  exact⟨p,none,by simp only[Bz,Cr.1 (hb E rv fp f H R),Il,Option.bind_some,if_pos h0,h1,val,Option.map_some],rfl,h2⟩
 ·cases hx
theorem iU.load{t:T}{P:Nat→Prop}{H:Ax}{p:AV}{x:t.α}(h:iU t P H p x): ∃v,load H t.agg t.sz p=some v∧t.V P H v x:=by
 obtain⟨_,cs,off,e,l,r,_⟩:=h
 obtain⟨v,h1,h2⟩:=T.V.of r
 exact⟨v,by simp only[Am.load,e,Option.bind_some,if_pos l,h1],h2⟩
theorem KU{t:T}{x:t.α}{ag:Bool}{n:Nat}(hag:ag=t.agg)(hn:n=t.sz)(ha:Dd tb Γ a (.rp t x)):Gd tb Γ (.ld ag n a) (some ()) fun _=> .val t x:=by
 rintro E rv fp f H R z ⟨⟩
 obtain⟨v,h1,h2⟩:=iU.load (ha E rv fp f H R)
 subst hag hn
 exact⟨v,none,by simp only[Bz,h1,val,Option.map_some],rfl,h2⟩
theorem iU.shift{t u:T}{off:Nat}(F:AZ t u off){P:Nat→Prop}{H:Ax}{p:AV}{x:t.α}(h:iU t P H p x): ∃v,shift off p=some v∧iU u P H v (F.get x):=by
 obtain⟨hp,cs,o,e,l,r,hm⟩:=h
 have hle:=F.le
 have hr:=F.getR r
 have hsub:sub (sub cs o t.sz) off u.sz=sub cs (o+off) u.sz:=by
  simp only[sub]
  rw[List.drop_take,List.take_take,List.drop_drop,Nat.min_eq_left (by omega)]
 rw[hsub]at hr
 cases p<;>simp only[ZO]at hp<;>simp only[place]at e
 ·rename_i id o'
  obtain⟨cs',hc,e⟩:=Option.map_eq_some_iff.1 e
  cases e
  refine⟨_,rfl,hp,cs,o+off,by simp[place,hc],by omega,hr,fun m hm=>by simp only[BS];exact hm _ hp⟩
 ·rename_i id n i o'
  obtain⟨row,hrow,e⟩:=Option.bind_eq_some_iff.1 e
  split at e
  ·rename_i hn
   cases e
   refine⟨_,rfl,hp,_,_,by simp only[place,hrow,Option.bind_some];rw[if_pos hn],by omega,hr,fun m hm=>by simp only[BS];exact hm _ hp⟩
  ·cases e
 ·rename_i cs' o'
  cases e
  exact⟨_,rfl,hp,cs,o+off,rfl,by omega,hr,fun m h=>by simpa [BS]using hm m h⟩
end
end Go.Proofs.YtobejhpigbllpaaGreatDoor.Am
namespace Go.Proofs.YtobejhpigbllpaaGreatDoor.Am
def KF:List (Nat×AL)→Nat→Option (Nat×AL×Nat)
 |[],_=>none
 |(n,φ)::r,o=>if Nat.blt o n then some (n,φ,o)else KF r (o-n)
def UE:List (Nat×AL)→Nat→AL→List (Nat×AL)
 |[],_,_=>[]
 |(n,φ)::r,o,ψ=>if Nat.blt o n then(n,ψ)::r else(n,φ)::UE r (o-n) ψ
theorem Su{a b:Nat}:Nat.blt a b=true↔a<b:=by
 rw[Nat.blt,Nat.ble_eq];exact Iff.rfl
section
variable{rv:Nat→AV}{ss:Ss}{P:Nat→Prop}{H:Ax}
theorem GO: ∀{ps:List (Nat×AL)} {o o' N:Nat} {φ:AL} {cs:List AV},PR rv ss P H ps cs→KF ps o=some (N,φ,o')→
  ∃b c,c.length=N∧o=b+o'∧o'<c.length∧b+c.length≤cs.length∧FC rv ss P H φ c∧(∀m k,m+k≤c.length→sub cs (b+m) k=sub c m k)∧
   (∀m d ψ,m+d.length≤c.length→FC rv ss P H ψ (B2 c m d)→PR rv ss P H (UE ps o ψ) (B2 cs (b+m) d))
 |[],o,o',N,φ,cs,_,h=>by simp[KF]at h
 |(n,ψ)::r,o,o',N,φ,cs,⟨c,d,e,hl,hc,hr⟩,h=>by
  simp only[KF]at h
  split at h
  ·rename_i ho
   rw[Su]at ho
   cases h
   subst e
   refine⟨0,c,hl,by omega,by omega,by simp,hc,?_,?_⟩
   ·intro m k hm
    simp only[sub,Nat.zero_add]
    rw[List.drop_append_of_le_length (by omega),List.take_append_of_le_length (by simp;omega)]
   ·intro m d' χ hm hf
    simp only[UE,Su.2 ho,if_true]
    refine⟨B2 c m d',d,?_,?_,hf,hr⟩
    ·simp only[B2,Nat.zero_add]
     rw[List.take_append_of_le_length (by omega),List.drop_append_of_le_length (by omega)]
     simp
    ·simp only[B2,List.length_append,List.length_take,List.length_drop];omega
  ·rename_i ho
   have ho': ¬o<n:=fun e=>ho (Su.2 e)
   obtain⟨b,c',h0,h1,h2,h3,h4,h5,h6⟩:=GO hr h
   subst e
   refine⟨n+b,c',h0,by omega,h2,by simp;omega,h4,?_,?_⟩
   ·intro m k hm
    rw[←h5 m k hm]
    simp only[sub]
    rw[show n+b+m=c.length+(b+m) by omega,←List.drop_drop,List.drop_left' rfl]
   ·intro m d' χ hm hf
    have:=h6 m d' χ hm hf
    simp only[UE,if_neg ho]
    refine⟨c,_,?_,hl,hc,this⟩
    simp only[B2]
    rw[List.take_append,List.take_of_length_le (by omega),show n+b+m-c.length=b+m by omega]
    rw[show n+b+m+d'.length=c.length+(b+m+d'.length) by omega,←List.drop_drop,List.drop_left' rfl]
    simp
end
def Cx.setS(Γ:Cx)(j:Nat)(S:BM):Cx:=⟨Γ.ts,(j,S)::Γ.ss⟩
section
variable{tb:Dg}{Γ:Cx}{a b:AO}
theorem A6{j o off:Nat}(ha:Dd tb Γ a (.cp j o)):Gd tb Γ (.fa off a) (some ()) fun _=> .cp j (o+off):=by
 rintro E rv fp f H R z ⟨⟩
 obtain⟨l,id,e,hv⟩:=ha E rv fp f H R
 exact⟨.ptr id (o+off),none,by simp only[Bz,hv,shift,val,Option.map_some],rfl,l,id,e,rfl⟩
theorem Hh{E:P4}{rv:Nat→AV}{fp:Fp}{f:Fr}{H:Ax}(R:Bx E Γ rv fp f H){j:Nat}{ps:List (Nat×AL)}(hj:AG Γ.ss j=some (.cells ps)){id:Nat}(e:rv j= .ptr id 0):
  ∃cs,(∀i,fp j i↔i=id)∧Cq H id=some cs∧PR rv Γ.ss (Pf E Γ.ss fp H) H ps cs:=by
 obtain⟨id',cs,h1,h0,h2,h3⟩:=R.slots j _ hj
 rw[e]at h1;cases h1
 exact⟨cs,h0,h2,h3⟩
theorem AE{t u:T}{x:t.α}{j o o' n N:Nat}{ag:Bool}{ps:List (Nat×AL)}(ha:Dd tb Γ a (.cp j o))(hj:AG Γ.ss j=some (.cells ps))(hp:KF ps o=some (N, .val t x,o'))(F:AZ t u o')(hag:ag=u.agg)(hn:n=u.sz):
  Gd tb Γ (.ld ag n a) (some ()) fun _=> .val u (F.get x):=by
 rintro E rv fp f H R z ⟨⟩
 obtain⟨l,id,e,hv⟩:=ha E rv fp f H R
 obtain⟨cs,h0,h2,h3⟩:=Hh R hj e
 obtain⟨b',c,e0,e1,e2,e3,e4,e5,_⟩:=GO h3 hp
 have hle:=F.le
 have hl:=t.len e4
 have hr:=F.getR e4
 rw[←e5 o' u.sz (by omega),←e1]at hr
 obtain⟨v,g1,g2⟩:=T.V.of hr
 subst hag hn
 exact⟨v,none,by simp only[Bz,hv,Am.load,place,h2,Option.map_some,Option.bind_some,if_pos (show o+u.sz≤cs.length by omega),g1,val],rfl,g2⟩
def vC:AL→Bool
 | .own _=>true
 | .cp _ _=>true
 | .ep _ _ _=>true
 | .rp _ _=>true
 | .oc _ _ _ _=>true
 | .con _=>true
 | .fnv _ _ _=>true
 | .kv _=>true
 |_=>false
theorem qD{φ:AL}(h:vC φ=true){rv:Nat→AV}{ss:Ss}{P:Nat→Prop}{H:Ax}{c:List AV}:FC rv ss P H φ c↔ ∃v,c=[v]∧FR rv ss P H φ v:=by
 cases φ<;>simp only[vC,Bool.false_eq_true]at h<;>exact Iff.rfl
theorem Bp{φ:AL}{j o N:Nat}{ps:List (Nat×AL)}(ha:Dd tb Γ a (.cp j o))(hj:AG Γ.ss j=some (.cells ps))(hp:KF ps o=some (N,φ,0))(hφ:vC φ=true):
  Gd tb Γ (.ld false 1 a) (some ()) fun _=>φ:=by
 rintro E rv fp f H R z ⟨⟩
 obtain⟨l,id,e,hv⟩:=ha E rv fp f H R
 obtain⟨cs,h0,h2,h3⟩:=Hh R hj e
 obtain⟨b',c,e0,e1,e2,e3,e4,e5,_⟩:=GO h3 hp
 obtain⟨v,rfl,hr⟩:=(qD hφ).1 e4
 have hs:=e5 0 1 (by simp)
 rw[Nat.add_zero]at e1 hs
 subst e1
 simp only[List.length_cons,List.length_nil]at e3
 exact⟨v,none,by simp only[Bz,hv,Am.load,place,h2,Option.map_some,Option.bind_some,if_pos (show o+1≤cs.length by omega),hs,val];rfl,rfl,hr⟩
theorem Vx{cs d:List AV}{o:Nat}(h:o+d.length≤cs.length):(B2 cs o d).length=cs.length:=by
 simp only[B2,List.length_append,List.length_take,List.length_drop];omega
theorem NC{cs d:List AV}{o m:Nat}(h:Bu cs≤m)(g:Bu d≤m):Bu (B2 cs o d)≤m:=by
 simp only[B2,GG]
 have:=OY cs o
 have:=Mn cs (o+d.length)
 omega
theorem M_st{φ ψ:AL}{j o o' n N:Nat}{ps:List (Nat×AL)}(ha:Dd tb Γ a (.cp j o))(hj:AG Γ.ss j=some (.cells ps))(hp:KF ps o=some (N,φ,o'))
  (hb: ∀E rv fp f H,Bx E Γ rv fp f H→ ∀c,FC rv Γ.ss (Pf E Γ.ss fp H) H φ c→c.length=N→o'<c.length→(cellsOf (eval tb f b)).length=n∧o'+n≤c.length∧Bu (cellsOf (eval tb f b))≤H.length∧FC rv Γ.ss (Pf E Γ.ss fp H) H ψ (B2 c o' (cellsOf (eval tb f b)))):
  Xs tb Γ none (.st n a b) (some ()) fun _=>Γ.setS j (.cells (UE ps o ψ)):=by
 rintro E rv fp f H R z ⟨⟩
 obtain⟨l,id,e,hv⟩:=ha E rv fp f H R
 obtain⟨cs,h0,h2,h3⟩:=Hh R hj e
 obtain⟨b',c,e0,e1,e2,e3,e4,e5,e6⟩:=GO h3 hp
 obtain⟨g1,g2,g3,g4⟩:=hb E rv fp f H R c e4 e0 e2
 have hpr:=e6 o' _ ψ (by omega) g4
 rw[←e1]at hpr
 have hmen:=PR.men R.ltP R.rvlt h3
 have hlt:=(R.fplt j id l ((h0 id).2 rfl)).1
 have hv0:=R.rvlt j l
 obtain⟨rv',fp',_,_,R'⟩:=R.set (j:=j) (S:= .cells (UE ps o ψ)) (v:=rv j) (o:= .cells (E5 H id) (B2 cs o (cellsOf (eval tb f b)))) (by rw[hj];rfl) l h0 (by simp only[ED];exact NC hmen g3) rfl hv0 (.inl rfl) (R.scal j l) fun rv' fp' e1 e2 hP hs=>
  ⟨id,_,by rw[e1,e],e2,by simp[Cq,hlt],PR.mono hP (by simp) (fun p _=>hs p.2 (.inl rfl)) hpr⟩
 refine⟨.junk,some (H.set id (BW.cells (E5 H id) (B2 cs o (cellsOf (eval tb f b))))),?_,rv',fp',R'⟩
 simp only[Bz,hv,store,h2,Option.bind_some]
 rw[if_pos ⟨g1,by omega⟩]
 rfl
theorem Bj{t u:T}{x:t.α}{y:u.α}{j o o' n N:Nat}{ps:List (Nat×AL)}(ha:Dd tb Γ a (.cp j o))(hb:Dd tb Γ b (.val u y))(hj:AG Γ.ss j=some (.cells ps))(hp:KF ps o=some (N, .val t x,o'))(F:AZ t u o')(hn:n=u.sz):
  Xs tb Γ none (.st n a b) (some (F.put x y)) fun z=>Γ.setS j (.cells (UE ps o (.val t z))):=by
 have:=M_st (n:=n) (ψ:= .val t (F.put x y)) ha hj hp (b:=b) fun E rv fp f H R c hc _ _=>by
  have hv:=T.V.cells (hb E rv fp f H R)
  have hle:=F.le
  have h1:=u.len hv
  have h2:=t.len hc
  exact⟨by rw[h1,hn],by omega,u.men hv R.ltP,F.putR hc hv⟩
 intro E rv fp f H R z hz
 cases hz
 exact this E rv fp f H R () rfl
theorem CH{t:T}{d t0:Nat}{z:List AV}(j:Nat)(hz:z=t.zc)(hj:AG Γ.ss j=none):Xs tb Γ (some d) (.alloc t0 z) (some t.z) fun z=>⟨(d, .cp j 0)::Γ.ts,(j, .cells [(t.sz, .val t z)])::Γ.ss⟩:=by
 intro E rv fp f H R _ hz0
 cases hz0
 subst hz
 have hzm:Bu t.zc≤0:=t.men (t.hz (fun _=>False) []) (fun _ h=>h.elim)
 obtain⟨rv',fp',h1,h2,h3⟩:=R.more (j:=j) (S:= .cells [(t.sz, .val t t.z)]) (v:= .ptr H.length 0) (o:= .cells (some t0) t.zc) (HY hj) (by simp only[ED];omega) rfl (by simp[BS]) rfl fun rv' fp' e1 e2 hP hs=>
  ⟨_,t.zc,e1,e2,by simp[Cq],t.zc,[],(List.append_nil _).symm,t.len (t.hz (fun _=>False) []),t.hz _ _,rfl⟩
 exact⟨_,_,rfl,rv',fp',h3.push (φ:= .cp j 0) ⟨h2,_,h1,rfl⟩⟩
theorem Eo{t:T}{x:t.α}{d n t0:Nat}(j:Nat)(hn:n=t.sz)(hj:AG Γ.ss j=none)(ha:Dd tb Γ a (.val t x)):Xs tb Γ (some d) (.box t0 n a) (some ()) fun _=>⟨(d, .cp j 0)::Γ.ts,(j, .cells [(t.sz, .val t x)])::Γ.ss⟩:=by
 rintro E rv fp f H R _ ⟨⟩
 have hv:=T.V.cells (ha E rv fp f H R)
 have hl:=t.len hv
 have hm:=t.men hv R.ltP
 obtain⟨rv',fp',h1,h2,h3⟩:=R.more (j:=j) (S:= .cells [(t.sz, .val t x)]) (v:= .ptr H.length 0) (o:= .cells (some t0) (cellsOf (eval tb f a))) (HY hj) (by simp only[ED];omega) rfl (by simp[BS]) rfl fun rv' fp' e1 e2 hP hs=>
  ⟨_,cellsOf (eval tb f a),e1,e2,by simp[Cq],cellsOf (eval tb f a),[],(List.append_nil _).symm,hl,t.mono hP hv,rfl⟩
 refine⟨.ptr H.length 0,some (H++[BW.cells (some t0) (cellsOf (eval tb f a))]),by simp only[Bz];rw[if_pos (by rw[hl,hn])],rv',fp',h3.push (φ:= .cp j 0) ⟨h2,_,h1,rfl⟩⟩
def appG{α:Type}:GS α→List α→GS α
 | .nil,[]=> .nil
 | .nil,l=> .mk l
 | .mk a,l=> .mk (a++l)
theorem Bx.moreNil{E:P4}{rv:Nat→AV}{fp:Fp}{f:Fr}{H:Ax}(R:Bx E Γ rv fp f H){j:Nat}(t:T)(hj: ¬Bi Γ.ss j): ∃rv' fp',rv' j= .nils∧Bi ((j, .row t .nil)::Γ.ss) j∧Bx E ⟨Γ.ts,(j, .row t .nil)::Γ.ss⟩ rv' fp' f H:=
 R.chg (F:=fun _=>False) (v:= .nils) (G:=H) (by
   cases e:D5 (AG Γ.ss j)with
   |false=>rfl
   |true=>exact absurd (L5 e) hj) rfl (Nat.le_refl _) (fun _ _ _=>rfl) (fun _ h=>h.elim) (fun l=>absurd l hj) R.wf (by simp[BS]) (.inr rfl) fun rv' fp' e1 e2 _ _=>⟨e1,fun i h=>by rw[e2]at h;exact h⟩
theorem born{t:T}{n j:Nat}(hj:AG Γ.ss j=none)(ha:BI Γ.ts n=some (.val (T.sl t) .nil)): ∀E f H,Rel E Γ f H→Rel E ⟨(n, .own j)::Γ.ts,(j, .row t .nil)::Γ.ss⟩ f H:=by
 rintro E f H ⟨rv,fp,R⟩
 obtain⟨rv',fp',h1,h2,I⟩:=R.moreNil t (HY hj)
 have hv:get f n= .nils:=Ka.1 (R.temps n _ ha)
 refine⟨rv',fp',I.le,I.base,I.wf,I.fplt,I.rvlt,I.scal,I.inj,I.slots,fun u φ e=> ?_,I.gh⟩
 simp only[BI]at e
 split at e
 ·rename_i hu
  cases e
  subst hu
  exact⟨h2,by rw[h1,hv]⟩
 ·exact I.temps u φ e
end
end Go.Proofs.YtobejhpigbllpaaGreatDoor.Am
namespace Go.Proofs.YtobejhpigbllpaaGreatDoor.Am
section
variable{tb:Dg}{Γ:Cx}{a b:AO}
def xD(tb:Dg)(Γ:Cx)(a:AO)(t:T)(l:List t.α):Prop:= ∀E rv fp f H,Bx E Γ rv fp f H→ ∃els,dX H t.sz (eval tb f a)=some els∧Do t (Pf E Γ.ss fp H) H els l
theorem RH{t:T}{g:GS t.α}(ha:Dd tb Γ a (.val (T.sl t) g)):xD tb Γ a t g.l:=by
 intro E rv fp f H R
 have hv:=Ka.1 (ha E rv fp f H R)
 obtain⟨els,e,h⟩:=hv.els
 refine⟨els,?_,h⟩
 have hs:=hv.sca
 cases hx:eval tb f a<;>rw[hx]at e hv<;>first
  |exact e
  |(cases g<;>first|(have hv':=hv;cases hv';done)|(have:=hv.1;simp only[LV]at this;done))
theorem Zl{P:Nat→Prop}{H:Ax}: ∀l:AR,Do T.u8 P H (B1 l) l
 |[]=>trivial
 |c::l=>⟨rfl,Zl l⟩
def Sx{α:Type}(bytes:Nat)(g:GS α)(l:List α):Option (GS α):=if(g.l.length+l.length)*bytes≤B4 then some (appG g l)else none
theorem Qy: ∀(x y:List (List AV)),Di (x++y)=max (Di x) (Di y)
 |[],y=>by simp[Di]
 |z::x,y=>by simp only[List.cons_append,Di,Qy x y];omega
theorem M9{t:T}{g:GS t.α}{l:List t.α}{d j t0 sz bytes:Nat}(hs:sz=t.sz)(ha:Dd tb Γ a (.own j))(hj:AG Γ.ss j=some (.row t g))(hb:xD tb Γ b t l):
  Xs tb Γ (some d) (.app t0 sz bytes a b) (Sx bytes g l) fun g'=>⟨(d, .own j)::(Γ.kill j).ts,(j, .row t g')::(Γ.kill j).ss⟩:=by
 intro E rv fp f H R g' hg
 simp only[Sx]at hg
 split at hg
 ·rename_i hle
  cases hg
  subst hs
  obtain⟨els,e,hels⟩:=hb E rv fp f H R
  have hel:=hels.length
  have hlive:Bi Γ.ss j:=NH hj rfl
  have hnk:D5 (AG Γ.ss j)=false:=by rw[hj];rfl
  have hka:=iS R hnk
  have K:=R.kill j hnk
  have hkk:D5 (AG (Γ.kill j).ss j)=false:=by rw[Cx.kill];simp only[Hr,SZ];exact hnk
  have hkl:Bi (Γ.kill j).ss j:=RK.2 hlive
  have hslot:=R.slots j _ hj
  have hPk: ∀i,Pf E Γ.ss fp H i→Pf E (Γ.kill j).ss fp H i:=fun i=>Pf.same fun k l=>RK.1 l
  have hels':=hels.mono (Q:=Pf E (Γ.kill j).ss fp H) (G:=H) fun i hi=>⟨hPk i hi,rfl⟩
  have hmen:=hels'.men K.ltP
  obtain⟨_,hv⟩:=ha E rv fp f H R
  simp only[Bz,e,Option.bind_some,hv]
  cases g with
  |nil=>
   obtain⟨hr,hf⟩:=hslot
   rw[hr]
   simp only[GS.l,List.length_nil,Nat.zero_add]at hle
   cases l with
   |nil=>
    have:els=[]:=List.length_eq_zero_iff.1 hel
    subst this
    obtain⟨rv',fp',h1,h2,h3⟩:=K.chg (j:=j) (S:= .row t .nil) (v:= .nils) (F:=fp j) (G:=H) hkk rfl (Nat.le_refl _) (fun _ _ _=>rfl) (fun i hi=>absurd hi (hf i)) (fun _=> .inr hka) K.wf (by simp[BS]) (.inr rfl)
     fun rv' fp' e1 e2 _ _=>⟨e1,fun i=>by rw[e2];exact hf i⟩
    exact⟨.nils,none,rfl,rv',fp',h3.push (φ:= .own j) ⟨h2,h1.symm⟩⟩
   |cons x l=>
    have hne: ¬els.length=0:=by rw[hel];simp
    obtain⟨rv',fp',h1,h2,h3⟩:=K.chg (j:=j) (S:= .row t (.mk (x::l))) (v:= .orow H.length els.length 0 els.length) (F:=fun i=>i=H.length) (G:=H++[.row (some t0) false t.sz els]) hkk rfl (by simp) (fun i hi _=>List.getElem?_append_left hi)
     (fun i hi=> .inr ⟨by omega,by simp;omega⟩) (fun _=> .inr hka) (by rw[PH];have:=K.wf;simp only[Dh,ED,List.length_append,List.length_cons,List.length_nil];omega) (by simp[BS]) (.inr rfl)
     fun rv' fp' e1 e2 hP _=>⟨_,els,e1,fun i=>by rw[e2],by simp[rowAt],hels'.mono hP⟩
    refine⟨.orow H.length els.length 0 els.length,some (H++[BW.row (some t0) false t.sz els]),?_,rv',fp',h3.push (φ:= .own j) ⟨h2,h1.symm⟩⟩
    simp only[T9,if_neg hne]
    rw[if_pos (by rw[hel];exact hle)]
  |mk q=>
   obtain⟨id,old,hr,hf,h2,h3⟩:=hslot
   rw[hr]
   have hlen:=h3.length
   have h3':=h3.mono (Q:=Pf E (Γ.kill j).ss fp H) (G:=H) fun i hi=>⟨hPk i hi,rfl⟩
   have hm3:=h3'.men K.ltP
   have hidlt:=(K.fplt j id hkl ((hf id).2 rfl)).1
   simp only[GS.l]at hle
   simp only[T9,h2,Option.bind_some]
   rw[if_pos ⟨trivial,trivial,trivial,trivial,by rw[hlen,hel];exact hle,trivial⟩]
   by_cases h0:els.length=0
   ·rw[if_pos h0]
    have hnil:els=[]:=List.length_eq_zero_iff.1 h0
    subst hnil
    have hl0:l=[]:=List.length_eq_zero_iff.1 hel.symm
    subst hl0
    obtain⟨rv',fp',g1,g2,g3⟩:=K.chg (j:=j) (S:= .row t (.mk q)) (v:=rv j) (F:=fp j) (G:=H) hkk rfl (Nat.le_refl _) (fun _ _ _=>rfl) (fun i hi=> .inl ⟨hkl,hi⟩) (fun _=> .inl rfl) K.wf (K.rvlt j hkl) (.inr (by rw[hr];rfl))
     fun rv' fp' e1 e2 hP _=>⟨id,old,by rw[e1];exact hr,by rw[e2];exact hf,h2,h3'.mono hP⟩
    refine⟨.orow id old.length 0 old.length,none,rfl,rv',fp',?_⟩
    have:=g3.push (d:=d) (φ:= .own j) (v:=rv j) ⟨g2,g1.symm⟩
    rw[hr]at this
    simpa [appG,Cx.push]using this
   ·rw[if_neg h0]
    obtain⟨rv',fp',g1,g2,g3⟩:=K.set (j:=j) (S:= .row t (.mk (q++l))) (v:= .orow id (old++els).length 0 (old++els).length) (o:= .row (TU (E5 H id) t0) false t.sz (old++els)) hkk hkl hf (by simp only[ED,Qy];omega) rfl (by simp only[BS];omega) (.inr hka) (.inr rfl)
     fun rv' fp' e1 e2 hP _=>⟨id,old++els,e1,e2,by simp[rowAt,hidlt],(h3'.app hels').mono hP⟩
    refine⟨.orow id (old++els).length 0 (old++els).length,some (H.set id (.row (TU (E5 H id) t0) false t.sz (old++els))),by rw[List.length_append],rv',fp',g3.push (φ:= .own j) ⟨g2,g1.symm⟩⟩
 ·cases hg
theorem own_v{t:T}{g:GS t.α}{j:Nat}(ha:Dd tb Γ a (.own j))(hj:AG Γ.ss j=some (.row t g)){E:P4}{rv:Nat→AV}{fp:Fp}{f:Fr}{H:Ax}(R:Bx E Γ rv fp f H):
  (g= .nil∧eval tb f a= .nils)∨ ∃id els l,g= .mk l∧rv j= .orow id els.length 0 els.length∧(∀i,fp j i↔i=id)∧rowAt H id=some (false,t.sz,els)∧Do t (Pf E Γ.ss fp H) H els l∧eval tb f a= .orow id els.length 0 els.length:=by
 obtain⟨_,hv⟩:=ha E rv fp f H R
 have hs:=R.slots j _ hj
 cases g with
 |nil=>exact .inl ⟨rfl,hv.trans hs.1⟩
 |mk l=>
  obtain⟨id,els,h1,h0,h2,h3⟩:=hs
  exact .inr ⟨id,els,l,rfl,h1,h0,h2,h3,hv.trans h1⟩
def Dl(n:Nat)(i:Int):Option Nat:=if 0≤i∧i.toNat<n then some i.toNat else none
end
end Go.Proofs.YtobejhpigbllpaaGreatDoor.Am
namespace Go.Proofs.YtobejhpigbllpaaGreatDoor.Am
section
variable{tb:Dg}{Γ:Cx}{a b:AO}
theorem T4{P:Nat→Prop}{H:Ax}: ∀{els:List (List AV)} {l:AR},Do T.u8 P H els l→EL els=some l
 |[],[],_=>rfl
 |c::els,x::l,h=>by
  have hc:c=[.i .u8 x.toNat]:=h.1
  subst hc
  simp only[EL,T4 h.2,Option.map_some]
  congr 2
  simp
theorem vM{g:GS UInt8}(ha:Dd tb Γ a (.val (T.sl T.u8) g)):Gd tb Γ (.cvs a) (some g.l) fun z=> .val Ak z:=by
 rintro E rv fp f H R z ⟨⟩
 obtain⟨els,e,h⟩:=(Ka.1 (ha E rv fp f H R)).els
 refine⟨.s g.l,none,?_,rfl,E2.2 rfl⟩
 have e':EP H 1 (eval tb f a)=some els:=e
 simp only[Bz,e',Option.bind_some,T4 h,val];rfl
theorem h_cvsO{g:GS UInt8}{j:Nat}(ha:Dd tb Γ a (.own j))(hj:AG Γ.ss j=some (.row T.u8 g)):Gd tb Γ (.cvs a) (some g.l) fun z=> .val Ak z:=by
 rintro E rv fp f H R z ⟨⟩
 refine⟨.s g.l,none,?_,rfl,E2.2 rfl⟩
 rcases own_v ha hj R with ⟨rfl,hv⟩|⟨id,els,l,rfl,_,_,hr,h,hv⟩
 ·simp only[Bz,hv,EP,Option.bind_some,EL,val];rfl
 ·have e':EP H 1 (eval tb f a)=some els:=by
   have hr':rowAt H id=some (false,1,els):=hr
   simp[hv,EP,hr']
  simp only[Bz,e',Option.bind_some,T4 h,val];rfl
def Wa{α:Type}(g:GS α)(c d:Nat):GS α:=match g with
 | .nil=> .nil
 | .mk l=> .mk ((l.take d).drop c)
def slG{α:Type}(g:GS α)(lo hi:Option Int):Option (GS α):=(PW g.l.length lo hi).map fun p=>Wa g p.1 p.2
theorem wS{n:Nat}{lo hi:Option Int}{p:Nat×Nat}(h:PW n lo hi=some p):p.1≤p.2∧p.2≤n:=by
 unfold PW at h
 obtain⟨u,hu,h⟩:=Option.bind_eq_some_iff.1 h
 obtain⟨l,hl,h⟩:=Option.bind_eq_some_iff.1 h
 cases h
 have h1:u≤n:=by
  cases hi with
  |none=>cases hu;omega
  |some m=>simp only[]at hu;split at hu<;>cases hu;omega
 have h2:l≤u:=by
  cases lo with
  |none=>cases hl;omega
  |some m=>simp only[]at hl;split at hl<;>cases hl;omega
 exact⟨h2,h1⟩
theorem LR{sz:Nat}: ∀{len c d:Nat} {l:List AV},c≤d→d≤len→((BK sz len l).take d).drop c=BK sz (d-c) (l.drop (c*sz))
 |len,0,0,l,_,_=>by simp[BK]
 |len,c+1,0,l,h,_=>by omega
 |0,c,d+1,l,_,h=>by omega
 |len+1,0,d+1,l,_,h=>by
  have:=LR (sz:=sz) (len:=len) (c:=0) (d:=d) (l:=l.drop sz) (by omega) (by omega)
  simp only[List.drop_zero,Nat.zero_mul,Nat.sub_zero]at this
  simp[BK,this]
 |len+1,c+1,d+1,l,h1,h2=>by
  have:=LR (sz:=sz) (len:=len) (c:=c) (d:=d) (l:=l.drop sz) (by omega) (by omega)
  simp only[BK,List.take_succ_cons,List.drop_succ_cons,this,List.drop_drop,Nat.succ_mul]
  rw[show d+1-(c+1)=d-c by omega,Nat.add_comm sz]
theorem S5.resl{t:T}{P:Nat→Prop}{H:Ax}{v:AV}{c d:Nat}(h1:c≤d): ∀{g:GS t.α},d≤g.l.length→S5 t P H v g→ ∃w,Am.resl H t.sz v c d=some w∧S5 t P H w (Wa g c d)
 | .nil,_,h=>by rw[show v=_ from h];exact⟨.nils,rfl,rfl⟩
 | .mk l,hd,⟨bp,els,e,h⟩=>by
  have hl:=h.length
  simp only[GS.l]at hd
  have hall:=h.take (n:=d) |>.drop (n:=c)
  cases v<;>simp only[LV]at bp<;>simp only[EP]at e
  ·split at e
   ·rename_i hs
    cases e
    subst hs
    exact⟨.sl t.sz ((els.take d).drop c),by simp[Am.resl],trivial,_,by simp[EP],hall⟩
   ·cases e
  ·rename_i id k lo len
   obtain⟨r,hr,e⟩:=Option.bind_eq_some_iff.1 e
   split at e
   ·rename_i hc
    cases e
    rw[List.length_take,List.length_drop]at hl
    refine⟨.orow id k (lo+c) (d-c),by simp only[Am.resl,hr,Option.bind_some];rw[if_pos hc],bp,(r.2.2.drop (lo+c)).take (d-c),?_,?_⟩
    ·simp only[EP,hr,Option.bind_some]
     rw[if_pos ⟨hc.1,hc.2.1,by omega⟩]
    ·have:(((r.2.2.drop lo).take len).take d).drop c=(r.2.2.drop (lo+c)).take (d-c):=by
      rw[List.take_take,Nat.min_eq_left (by omega),List.drop_take,List.drop_drop]
     rw[this]at hall
     exact hall
   ·cases e
  ·rename_i sz' id off len
   obtain⟨r,hr,e⟩:=Option.bind_eq_some_iff.1 e
   split at e
   ·rename_i hc
    have he:some (BK t.sz len (r.drop off))=some els:=e
    cases he
    obtain⟨hs,hc⟩:=hc
    subst hs
    have hcl:(BK t.sz len (r.drop off)).length=len:=by
     have: ∀(n:Nat) (l:List AV),(BK t.sz n l).length=n:=by
      intro n
      induction n with
      |zero=>intro l;rfl
      |succ n ih=>intro l;simp[BK,ih]
     exact this _ _
    rw[hcl]at hl
    refine⟨.ocel t.sz id (off+c*t.sz) (d-c),by simp only[Am.resl,if_true],bp,BK t.sz (d-c) (r.drop (off+c*t.sz)),?_,?_⟩
    ·have hmul:(d-c)*t.sz+c*t.sz≤len*t.sz:=by
      rw[←Nat.add_mul];exact Nat.mul_le_mul_right _ (by omega)
     simp only[EP,hr,Option.bind_some]
     rw[if_pos ⟨trivial,by omega⟩]
    ·have:=LR (sz:=t.sz) (len:=len) (c:=c) (d:=d) (l:=r.drop off) h1 (by omega)
     rw[this,List.drop_drop]at hall
     exact hall
   ·cases e
theorem h_sll{t:T}{g:GS t.α}{sz:Nat}{lo hi:Option AO}{l h:Option Int}(hs:sz=t.sz)(ha:Dd tb Γ a (.val (T.sl t) g))(hl:rJ tb Γ lo l)(hh:rJ tb Γ hi h):Gd tb Γ (.sll sz a lo hi) (slG g l h) fun z=> .val (T.sl t) z:=by
 intro E rv fp f H R z hz
 obtain⟨p,hp,rfl⟩:=Option.map_eq_some_iff.1 hz
 have hv:=Ka.1 (ha E rv fp f H R)
 obtain⟨h1,h2⟩:=wS hp
 obtain⟨w,h3,h4⟩:=hv.resl h1 h2
 subst hs
 exact⟨w,none,by simp only[Bz,hv.len,Option.bind_some,T6 hl hh R,hp,h3,val,Option.map_some],rfl,Ka.2 h4⟩
inductive mN(tb:Dg)(Γ:Cx)(t:T):List (Nat×Nat×AO)→t.α→t.α→Prop where
 |nil (x:t.α):mN tb Γ t [] x x
 |cons {u:T} {off n:Nat} {a:AO} {r:List (Nat×Nat×AO)} {x z:t.α} {y:u.α} (F:AZ t u off) (hn:n=u.sz) (h:Dd tb Γ a (.val u y)) (k:mN tb Γ t r (F.put x y) z):mN tb Γ t ((off,n,a)::r) x z
theorem mN.spec{t:T}{E:P4}{rv:Nat→AV}{fp:Fp}{f:Fr}{H:Ax}(R:Bx E Γ rv fp f H): ∀{ps:List (Nat×Nat×AO)} {x z:t.α} {cs:List AV},mN tb Γ t ps x z→t.R (Pf E Γ.ss fp H) H cs x→
  ∃ds,LN cs (eval tb f) ps=some ds∧t.R (Pf E Γ.ss fp H) H ds z
 |_,_,_,cs, .nil _,h=>⟨cs,rfl,h⟩
 |_,_,_,cs, .cons (u:=u) (off:=off) F hn ho k,h=>by
  have hv:=T.V.cells (ho E rv fp f H R)
  have hl:=u.len hv
  have hle:=F.le
  have ht:=t.len h
  obtain⟨ds,h1,h2⟩:=k.spec R (F.putR h hv)
  refine⟨ds,?_,h2⟩
  simp only[LN]
  rw[if_pos ⟨by rw[hl,hn],by omega⟩]
  exact h1
theorem CZ{t:T}{zero:List AV}{ps:List (Nat×Nat×AO)}{z:t.α}(hz:zero=t.zc)(ht:t.agg=true)(h:mN tb Γ t ps t.z z):Gd tb Γ (.bld zero ps) (some z) fun z=> .val t z:=by
 rintro E rv fp f H R _ ⟨⟩
 subst hz
 obtain⟨ds,h1,h2⟩:=h.spec R (t.hz _ _)
 exact⟨.agg ds,none,by simp only[Bz,h1,Option.map_some,val],rfl, .inl ⟨ht,ds,rfl,h2⟩⟩
inductive mM(tb:Dg)(Γ:Cx)(t:T):List (Nat×AO)→List t.α→List t.α→Prop where
 |nil (l:List t.α):mM tb Γ t [] l l
 |cons {i:Nat} {a:AO} {r:List (Nat×AO)} {l m:List t.α} {y:t.α} (hi:Nat.blt i l.length=true) (h:Dd tb Γ a (.val t y)) (k:mM tb Γ t r (l.set i y) m):mM tb Γ t ((i,a)::r) l m
theorem mM.spec{t:T}{E:P4}{rv:Nat→AV}{fp:Fp}{f:Fr}{H:Ax}(R:Bx E Γ rv fp f H): ∀{ps:List (Nat×AO)} {l m:List t.α} {els:List (List AV)},mM tb Γ t ps l m→Do t (Pf E Γ.ss fp H) H els l→
  ∃ds,KG els t.sz (eval tb f) ps=some ds∧Do t (Pf E Γ.ss fp H) H ds m
 |_,_,_,els, .nil _,h=>⟨els,rfl,h⟩
 |_,_,_,els, .cons (i:=i) hi ho k,h=>by
  have hv:=T.V.cells (ho E rv fp f H R)
  have hl:=t.len hv
  have hlen:=h.length
  rw[Su]at hi
  obtain⟨ds,h1,h2⟩:=k.spec R (h.set (i:=i) hv)
  refine⟨ds,?_,h2⟩
  simp only[KG]
  rw[if_pos ⟨hl,by omega⟩]
  exact h1
theorem Mq{t:T}{zero:List (List AV)}{sz n:Nat}{ps:List (Nat×AO)}{l:List t.α}(hs:sz=t.sz)(hz:zero=List.replicate n t.zc)(h:mM tb Γ t ps (List.replicate n t.z) l):Gd tb Γ (.bll sz zero ps) (some l) fun l=> .val (T.sl t) (.mk l):=by
 rintro E rv fp f H R _ ⟨⟩
 subst hz hs
 obtain⟨ds,h1,h2⟩:=h.spec R (Do.rep (t.hz _ _) n)
 exact⟨.sl t.sz ds,none,by simp only[Bz,h1,Option.map_some,val],rfl,Ka.2 ⟨trivial,ds,by simp[EP],h2⟩⟩
theorem Ar.get_lt{α:Type}{n:Nat}(x:Ar α n){i:Nat}{y:α}(h:x.l[i]? =some y):i<n:=by
 have:=(List.getElem?_eq_some_iff.1 h).1
 have:=x.len
 omega
theorem fR{sz:Nat}: ∀{l:List (List AV)} {i:Nat} {c:List AV},(∀e∈l,e.length=sz)→l[i]? =some c→sub l.flatten (i*sz) sz=c
 |[],i,c,_,h=>by simp at h
 |d::l,0,c,hl,h=>by
  simp only[List.getElem?_cons_zero,Option.some.injEq]at h
  subst h
  have:=hl d List.mem_cons_self
  simp[sub,this]
 |d::l,i+1,c,hl,h=>by
  simp only[List.getElem?_cons_succ]at h
  have h1:=hl d List.mem_cons_self
  have:=fR (l:=l) (fun e he=>hl e (List.mem_cons_of_mem _ he)) h
  simp only[sub]at this ⊢
  rw[List.flatten_cons,show(i+1)*sz=d.length+i*sz by rw[Nat.succ_mul];omega,←List.drop_drop,List.drop_left' rfl]
  exact this
theorem TZ{sz:Nat}: ∀{l:List (List AV)} {i:Nat} {c:List AV},(∀e∈l,e.length=sz)→i<l.length→c.length=sz→B2 l.flatten (i*sz) c=(l.set i c).flatten
 |[],i,c,_,h,_=>by simp at h
 |d::l,0,c,hl,h,hc=>by
  have:=hl d List.mem_cons_self
  simp only[B2,Nat.zero_mul,List.take_zero,Nat.zero_add,List.nil_append,List.set_cons_zero,List.flatten_cons]
  rw[hc,←this,List.drop_left' rfl]
 |d::l,i+1,c,hl,h,hc=>by
  have h1:=hl d List.mem_cons_self
  have ih:=TZ (l:=l) (fun e he=>hl e (List.mem_cons_of_mem _ he)) (by simpa using h) hc
  simp only[B2]at ih ⊢
  rw[List.flatten_cons,List.set_cons_succ,List.flatten_cons,←ih,show(i+1)*sz=d.length+i*sz by rw[Nat.succ_mul];omega]
  rw[List.take_append,List.take_of_length_le (by omega),show d.length+i*sz-d.length=i*sz by omega]
  rw[show d.length+i*sz+c.length=d.length+(i*sz+c.length) by omega,←List.drop_drop,List.drop_left' rfl]
  simp
def AZ.at(n:Nat)(t:T)(i:Nat)(hi:i<n):AZ (T.arr n t) t (i*t.sz) where
 get:=fun x=>x.l[i]'(by rw[x.len];exact hi)
 put:=fun x y=>x.set i y
 le:=by
  show i*t.sz+t.sz≤n*t.sz
  rw[←Nat.succ_mul];exact Nat.mul_le_mul_right _ hi
 getR:=fun{P H cs x} ⟨css,e,h⟩=>by
  obtain⟨c,hc,hr⟩:=h.get (i:=i) (x:=x.l[i]'(by rw[x.len];exact hi)) (List.getElem?_eq_getElem _)
  rw[e,fR h.lens hc];exact hr
 putR:=fun{P H cs x c y} ⟨css,e,h⟩ k=>by
  have hlen:=h.length
  have hx:=x.len
  have hc:=t.len k
  exact⟨css.set i c,by rw[e];exact TZ h.lens (by omega) hc,h.set k⟩
def J4{t u w:T}{o o':Nat}(F:AZ t u o)(G:AZ u w o'):AZ t w (o+o') where
 get:=fun x=>G.get (F.get x)
 put:=fun x y=>F.put x (G.put (F.get x) y)
 le:=by have:=F.le;have:=G.le;omega
 getR:=fun{P H cs x} h=>by
  have h1:=F.le
  have h2:=G.le
  have h3:=t.len h
  have:=G.getR (F.getR h)
  rw[show sub cs (o+o') w.sz=sub (sub cs o u.sz) o' w.sz by
   simp only[sub]
   rw[List.drop_take,List.take_take,List.drop_drop,Nat.min_eq_left (by omega)]]
  exact this
 putR:=fun{P H cs x c y} h k=>by
  have h1:=F.le
  have h2:=G.le
  have h3:=t.len h
  have h4:=w.len k
  have:=F.putR h (G.putR (F.getR h) k)
  rw[show B2 cs (o+o') c=B2 cs o (B2 (sub cs o u.sz) o' c) by
   have hsl:(B2 (sub cs o u.sz) o' c).length=u.sz:=by
    rw[Vx]<;>simp only[sub,List.length_take,List.length_drop]<;>omega
   apply List.ext_getElem?
   intro i
   simp only[B2,sub,List.getElem?_append,List.getElem?_take,List.getElem?_drop,List.length_append,List.length_take,List.length_drop]
   have hl2:(B2 (sub cs o u.sz) o' c).length=u.sz:=hsl
   simp only[B2,sub,List.length_append,List.length_take,List.length_drop]at hl2
   repeat' split
   all_goals first|rfl|omega|(congr 1;omega)|(exfalso;omega)]
  exact this
theorem YM{n:Nat}{i:Int}{m:Nat}(h:Dl n i=some m):0≤i∧m=i.toNat∧m<n:=by
 unfold Dl at h
 split at h
 ·rename_i hc;cases h;exact⟨hc.1,rfl,hc.2⟩
 ·cases h
theorem DS{j o len sz:Nat}{k:IntKind}{i:Int}(ha:Dd tb Γ a (.cp j o))(hb:Dd tb Γ b (.val (T.int k) i)):Gd tb Γ (.iaa len sz a b) (Dl len i) fun m=> .cp j (o+m*sz):=by
 intro E rv fp f H R m hm
 obtain⟨h0,rfl,h1⟩:=YM hm
 obtain⟨l,id,e,hv⟩:=ha E rv fp f H R
 exact⟨.ptr id (o+i.toNat*sz),none,by simp only[Bz,hv,Cr.1 (hb E rv fp f H R),Il,Option.bind_some,if_pos (show 0≤i∧i<(len:Int) by omega),shift,val,Option.map_some],rfl,l,id,e,rfl⟩
theorem h_iaa{t:T}{n len sz:Nat}{x:Ar t.α n}{k:IntKind}{i:Int}(hl:len=n)(hs:sz=t.sz)(ha:Dd tb Γ a (.rp (T.arr n t) x))(hb:Dd tb Γ b (.val (T.int k) i)):Gd tb Γ (.iaa len sz a b) (Hb x.l i) fun y=> .rp t y:=by
 intro E rv fp f H R y hy
 simp only[Hb]at hy
 split at hy
 ·rename_i h0
  have hlt:=x.get_lt hy
  subst hl hs
  obtain⟨v,h1,h2⟩:=iU.shift (AZ.at len t i.toNat hlt) (ha E rv fp f H R)
  have:(AZ.at len t i.toNat hlt).get x=y:=by
   have:=List.getElem?_eq_some_iff.1 hy
   exact this.2
  rw[this]at h2
  exact⟨v,none,by simp only[Bz,Cr.1 (hb E rv fp f H R),Il,Option.bind_some,if_pos (show 0≤i∧i<(len:Int) by omega),h1,val,Option.map_some],rfl,h2⟩
 ·cases hy
theorem vK{t:T}{n len sz:Nat}{x:Ar t.α n}{ag:Bool}{k:IntKind}{i:Int}(hl:len=n)(hs:sz=t.sz)(hag:ag=t.agg)(ha:Dd tb Γ a (.val (T.arr n t) x))(hb:Dd tb Γ b (.val (T.int k) i)):Gd tb Γ (.ixa len sz ag a b) (Hb x.l i) fun y=> .val t y:=by
 intro E rv fp f H R y hy
 simp only[Hb]at hy
 split at hy
 ·rename_i h0
  have hlt:=x.get_lt hy
  subst hl hs hag
  rcases ha E rv fp f H R with ⟨_,cs,e,r⟩|⟨e,_⟩
  ·have hg:=(AZ.at len t i.toNat hlt).getR r
   have:(AZ.at len t i.toNat hlt).get x=y:=(List.getElem?_eq_some_iff.1 hy).2
   rw[this]at hg
   obtain⟨v,h1,h2⟩:=T.V.of hg
   have hlen:=(T.arr len t).len r
   have hlen':cs.length=len*t.sz:=hlen
   exact⟨v,none,by simp only[Bz,e,Cr.1 (hb E rv fp f H R),Il,Option.bind_some,if_pos (show 0≤i∧i<(len:Int)∧len*t.sz≤cs.length by omega),h1,val,Option.map_some],rfl,h2⟩
  ·cases e
 ·cases hy
theorem JB{s t:T}{x:s.α}{n j o o' m k N:Nat}{ag:Bool}{ps:List (Nat×AL)}(F:AZ s (T.arr n t) o')(hag:ag=t.agg)(hk:k=t.sz)(ha:Dd tb Γ a (.cp j (o+m*t.sz)))(hj:AG Γ.ss j=some (.cells ps))(hp:KF ps o=some (N, .val s x,o')):
  Gd tb Γ (.ld ag k a) ((F.get x).l[m]?) fun y=> .val t y:=by
 intro E rv fp f H R y hy
 have hlt:=(F.get x).get_lt hy
 obtain⟨l,id,e,hv⟩:=ha E rv fp f H R
 obtain⟨cs,h0,h2,h3⟩:=Hh R hj e
 obtain⟨b',c,e0,e1,e2,e3,e4,e5,_⟩:=GO h3 hp
 have G:=J4 F (AZ.at n t m hlt)
 have hr:=(J4 F (AZ.at n t m hlt)).getR e4
 have hle:=(J4 F (AZ.at n t m hlt)).le
 have hl:=s.len e4
 have:(J4 F (AZ.at n t m hlt)).get x=y:=(List.getElem?_eq_some_iff.1 hy).2
 rw[this,←e5 (o'+m*t.sz) t.sz (by omega),show b'+(o'+m*t.sz)=o+m*t.sz by omega]at hr
 obtain⟨v,g1,g2⟩:=T.V.of hr
 subst hag hk
 exact⟨v,none,by simp only[Bz,hv,Am.load,place,h2,Option.map_some,Option.bind_some,if_pos (show o+m*t.sz+t.sz≤cs.length by omega),g1,val],rfl,g2⟩
end
end Go.Proofs.YtobejhpigbllpaaGreatDoor.Am
