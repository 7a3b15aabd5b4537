/-
  An abstract machine over flat lists of abstract cells: its values, its code and what its code does. Nothing here is about memory.
  The machine's equations: a loop is its body and the loop again; a call is its body, in which calls are calls again.
  The machine's values and memory as those of the model: what an abstract value says of a value in a world; that it goes on saying it.
  Types as sets of Lean values, and what cells of the machine's say of such a value; memory that P names is no more written.
  What is known at a point of a function's code: of its temporaries and of the memory that it made itself.
  What is known, put otherwise: fewer things; a slot that is no more written.
  What a function's code computes, as a Lean value, and that it does: the shapes of code.
  A function: its arguments, its results; what its code computes is what a call of it comes to.
  What operations come to, on typed values: numbers, texts, tests.
  What operations come to, on typed values: fields, slices, memory, calls.
  What operations come to, on typed values: memory of the function's own, calls, equality.
  What operations come to, on typed values: slices that grow, texts and bytes, structures, calls, equality.
  What operations come to, on typed values: texts and bytes, pieces of slices, literals, arrays, calls, equality.
-/
import GoSem.Step
import Derived.Attr
import Derived.Calls
import Derived.Still
namespace Go.Proofs.Ytapafbjgdfgodaa.Am
inductive AV where
 |b (x:Bool)
 |i (k:IntKind) (n:Int)
 |s (l:List UInt8)
 |agg (cs:List AV)
 |tup (cs:List AV)
 |nilp
 |ptr (id off:Nat)
 |pe (id n i off:Nat)
 |ip (cs:List AV) (off:Nat)
 |nils
 |sl (sz:Nat) (els:List (List AV))
 |orow (id n lo len:Nat)
 |ocel (sz id off len:Nat)
 |nilm
 |mp (id:Nat)
 |nilf
 |fn (f:Fn) (first captured:List AV)
 |nili
 |ifc (t:Nat) (v:AV)
 |junk
 deriving Inhabited
inductive Ca where
 |cells (t:Option Nat) (cs:List AV)
 |row (t:Option Nat) (fz:Bool) (sz:Nat) (els:List (List AV))
 |map (es:List (AV×AV))
 |iter (l:List UInt8) (pos:Nat)
 deriving Inhabited
abbrev A3:=List Ca
abbrev Fr:=List (Nat×AV)
def get:Fr→Nat→AV
 |[],_=> .junk
 |(u,v)::r,t=>if u=t then v else get r t
def put(f:Fr)(d:Option Nat)(v:AV):Fr:=
 match d with
 |some t=>(t,v)::f
 |none=>f
inductive CK where
 |b
 |i (k:IntKind)
 |s
 deriving DecidableEq,Inhabited
inductive EK where
 |one (c:CK)
 |agg (l:List CK)
 |p
 |m
 |f
 |n
 |sl
 deriving DecidableEq,Inhabited
def kk:List (Nat×CK)→List CK
 |[]=>[]
 |(n,c)::r=>List.replicate n c++kk r
inductive AO where
 |t (n:Nat)
 |k (v:AV)
 |f (n:Nat)
 |g (n:Nat)
 deriving Inhabited
inductive Eu where
 |mv (x:AO)
 |pick (c a b:AO)
 |alloc (t:Nat) (zero:List AV)
 |box (t n:Nat) (x:AO)
 |bld (zero:List AV) (parts:List (Nat×Nat×AO))
 |bls (t sz:Nat) (zero:List (List AV)) (parts:List (Nat×AO))
 |bll (sz:Nat) (zero:List (List AV)) (parts:List (Nat×AO))
 |ld (agg:Bool) (n:Nat) (a:AO)
 |st (n:Nat) (a x:AO)
 |nilc (x:AO)
 |bin (op:BinOp) (x y:AO)
 |eq (neg:Bool) (ek:EK) (x y:AO)
 |un (op:UnOp) (x:AO)
 |cvi (k:IntKind) (x:AO)
 |cvid (x:AO)
 |cvb (t:Nat) (x:AO)
 |cvr (x:AO)
 |cvs (x:AO)
 |cvc (x:AO)
 |mkf (fn:Fn) (first captured:List AO)
 |mkm
 |mks (t sz bytes:Nat) (zero:List AV) (len cap:AO)
 |sls (x:AO) (lo hi:Option AO)
 |sll (sz:Nat) (x:AO) (lo hi:Option AO)
 |sla (n sz:Nat) (x:AO) (lo hi:Option AO)
 |fa (off:Nat) (x:AO)
 |fld (agg:Bool) (off n:Nat) (x:AO)
 |ias (sz:Nat) (x i:AO)
 |iaa (len sz:Nat) (x i:AO)
 |ixa (len sz:Nat) (agg:Bool) (x i:AO)
 |ixs (x i:AO)
 |lkp (ek:EK) (zero:AV) (ok:Bool) (m k:AO)
 |mup (ek:EK) (m k v:AO)
 |rng (x:AO)
 |nxt (x:AO)
 |ext (x:AO) (i:Nat)
 |s2a (n sz:Nat) (x:AO)
 |mkif (t:Nat) (x:AO)
 |call (f:Nat) (xs:List AO)
 |callv (x:AO) (xs:List AO)
 |len (x:AO)
 |lens (x:AO)
 |app (t sz bytes:Nat) (s x:AO)
 |cpy (sz:Nat) (d s:AO)
 |mnx (max:Bool) (x y:AO)
 |clr (zero:List AV) (x:AO)
 |del (ek:EK) (m k:AO)
 |lenm (m:AO)
 |cvp (x:AO)
 |cvu (t n:Nat) (x:AO)
 |eqp (neg:Bool) (x y:AO)
 |isni (neg:Bool) (x:AO)
 |capn (x:AO)
 |usd (x:AO)
 |ust (t:Nat) (x n:AO)
 |die
 deriving Inhabited
structure AZ where
 d:Option Nat
 g:Option (Nat×Bool)
 o:Eu
 deriving Inhabited
inductive AC where
 |skip
 |reg (ops:List AZ)
 |regq (ops:List AZ)
 |regd (ops:List AZ) (w:List (Option (Nat×Nat)))
 |seq (x y:AC)
 |cond (c:AO) (x y:AC)
 |blk (id:Nat) (x:AC)
 |loop (AT:List Nat) (x:AC)
 |exit (id:Nat)
 |ret
 |keep (AT:List Nat) (x:AC)
 |scope (x:AC)
 |stop
 deriving Inhabited
inductive Ex where
 |normal
 |exit (id:Nat)
 |ret
 deriving DecidableEq,Inhabited
inductive Ge where
 |tmp (t:Nat)
 |cell (agg:Bool) (n:Nat) (t:Nat)
 deriving Inhabited
structure EP where
 warm:Bool
 np:Nat
 nt:Nat
 res:List Ge
 body:AC
 deriving Inhabited
structure Ce where
 fns:Nat→Option EP
 gl:Nat→Option (List AV)
 prim:Nat→Option (List AV→A3→Option (AV×Option A3))
 it:List Nat:=[]
mutual
def B8:AV→Nat
 | .ptr id _=>id+1
 | .pe id _ _ _=>id+1
 | .orow id _ _ _=>id+1
 | .ocel _ id _ _=>id+1
 | .mp id=>id+1
 | .ip cs _=>Bl cs
 | .sl _ els=>C1 els
 | .fn _ a b=>max (Bl a) (Bl b)
 | .ifc _ v=>B8 v
 | .agg cs=>Bl cs
 | .tup cs=>Bl cs
 |_=>0
def Bl:List AV→Nat
 |[]=>0
 |v::r=>max (B8 v) (Bl r)
def C1:List (List AV)→Nat
 |[]=>0
 |l::r=>max (Bl l) (C1 r)
end
def EA:Ca→Nat
 | .cells _ cs=>Bl cs
 | .row _ _ _ els=>C1 els
 | .map es=>max (Bl (es.map (·.1))) (Bl (es.map (·.2)))
 | .iter _ _=>0
def CB:A3→Nat
 |[]=>0
 |o::r=>max (EA o) (CB r)
def cellsOf:AV→List AV
 | .agg cs=>cs
 | .tup _=>[]
 | .junk=>[]
 |v=>[v]
def sub(cs:List AV)(off n:Nat):List AV:=(cs.drop off).take n
def Bm(cs:List AV)(off:Nat)(new:List AV):List AV:=cs.take off++new++cs.drop (off+new.length)
def HO(agg:Bool)(cs:List AV):Option AV:=
 match agg,cs with
 |true,cs=>some (.agg cs)
 |false,[v]=>some v
 |false,_=>none
def BD(h:A3)(id:Nat):Option (List AV):=
 match h[id]? with
 |some (.cells _ cs)=>some cs
 |_=>none
def rowAt(h:A3)(id:Nat):Option (Bool×Nat×List (List AV)):=
 match h[id]? with
 |some (.row _ fz sz els)=>some (fz,sz,els)
 |_=>none
def CN(h:A3)(id:Nat):Option Nat:=
 match h[id]? with
 |some (.cells t _)=>t
 |some (.row t _ _ _)=>t
 |_=>none
def N0(l:Option Nat)(t:Nat):Option Nat:=if l=some t then some t else none
def Hf(h:A3)(id:Nat):Option (List (AV×AV)):=
 match h[id]? with
 |some (.map es)=>some es
 |_=>none
def YF(h:A3)(id:Nat):Option (List UInt8×Nat):=
 match h[id]? with
 |some (.iter l p)=>some (l,p)
 |_=>none
def place(h:A3):AV→Option (List AV×Nat)
 | .ptr id off=>(BD h id).map fun cs=>(cs,off)
 | .pe id n i off=>(rowAt h id).bind fun r=>if n=r.2.2.length then some ((r.2.2.drop i).flatten,off)else none
 | .ip cs off=>some (cs,off)
 |_=>none
def load(h:A3)(agg:Bool)(n:Nat)(a:AV):Option AV:=
 (place h a).bind fun p=>if p.2+n≤p.1.length then HO agg (sub p.1 p.2 n)else none
def store(h:A3)(n:Nat)(a x:AV):Option A3:=
 match a with
 | .ptr id off=>(BD h id).bind fun cs=>
  if(cellsOf x).length=n∧off+n≤cs.length then some (h.set id (Ca.cells (CN h id) (Bm cs off (cellsOf x))))else none
 | .pe id n' i off=>(rowAt h id).bind fun r=>
  if r.1=false∧n'=r.2.2.length∧(cellsOf x).length=n then
   (r.2.2[i]?).bind fun cs=>if off+n≤cs.length then some (h.set id (Ca.row (CN h id) false r.2.1 (r.2.2.set i (Bm cs off (cellsOf x)))))else none
  else none
 |_=>none
def shift(off:Nat):AV→Option AV
 | .ptr id o=>some (.ptr id (o+off))
 | .pe id n i o=>some (.pe id n i (o+off))
 | .ip cs o=>some (.ip cs (o+off))
 |_=>none
def B6(sz:Nat):Nat→List AV→List (List AV)
 |0,_=>[]
 |n+1,cs=>cs.take sz::B6 sz n (cs.drop sz)
def Dg(h:A3)(sz:Nat):AV→Option (List (List AV))
 | .nils=>some []
 | .sl sz' els=>if sz'=sz then some els else none
 | .orow id n lo len=>(rowAt h id).bind fun r=>if n=r.2.2.length∧r.2.1=sz∧lo+len≤n then some ((r.2.2.drop lo).take len)else none
 | .ocel sz' id off len=>(BD h id).bind fun cs=>if sz'=sz∧off+len*sz≤cs.length then some (B6 sz len (cs.drop off))else none
 |_=>none
def JI:AV→Option Nat
 | .nils=>some 0
 | .sl _ els=>some els.length
 | .orow _ _ _ len=>some len
 | .ocel _ _ _ len=>some len
 |_=>none
def Lk(l:List UInt8):List (List AV):=l.map fun c=>[.i .u8 c.toNat]
def Fu:List (List AV)→Option (List UInt8)
 |[]=>some []
 |[.i .u8 n]::r=>(Fu r).map (UInt8.ofNat n.toNat:: ·)
 |_=>none
def UR:CK→AV→AV→Option Bool
 | .b, .b x, .b y=>some (x==y)
 | .i k, .i k1 x, .i k2 y=>if k1=k∧k2=k then some (x==y)else none
 | .s, .s x, .s y=>some (x==y)
 |_,_,_=>none
def G6:List CK→List AV→List AV→Option Bool
 |[],[],[]=>some true
 |c::l,x::r,y::q=>(UR c x y).bind fun a=>(G6 l r q).map fun b=>a&&b
 |_,_,_=>none
def NN:EK→AV→AV→Option Bool
 | .one c,x,y=>UR c x y
 | .agg l, .agg x, .agg y=>G6 l x y
 | .p, .nilp, .nilp=>some true
 | .p, .nilp, .ptr _ _=>some false
 | .p, .nilp, .pe _ _ _ _=>some false
 | .p, .nilp, .ip _ _=>some false
 | .p, .ptr _ _, .nilp=>some false
 | .p, .pe _ _ _ _, .nilp=>some false
 | .p, .ip _ _, .nilp=>some false
 | .m, .nilm, .nilm=>some true
 | .m, .nilm, .mp _=>some false
 | .m, .mp _, .nilm=>some false
 | .f, .nilf, .nilf=>some true
 | .f, .nilf, .fn _ _ _=>some false
 | .f, .fn _ _ _, .nilf=>some false
 | .n, .nili, .ifc _ _=>some false
 | .n, .ifc _ _, .nili=>some false
 | .sl, .nils, .nils=>some true
 | .sl, .sl _ _, .nils=>some false
 | .sl, .orow _ _ _ _, .nils=>some false
 | .sl, .ocel _ _ _ _, .nils=>some false
 | .sl, .nils, .sl _ _=>some false
 | .sl, .nils, .orow _ _ _ _=>some false
 | .sl, .nils, .ocel _ _ _ _=>some false
 |_,_,_=>none
def TQ(op:BinOp)(k:IntKind)(x y:Int):Int:=
 match op with
 | .and=>k.wrap (BitVec.ofInt k.bits x&&&BitVec.ofInt k.bits y).toNat
 | .or=>k.wrap (BitVec.ofInt k.bits x|||BitVec.ofInt k.bits y).toNat
 | .xor=>k.wrap (BitVec.ofInt k.bits x^^^BitVec.ofInt k.bits y).toNat
 |_=>k.wrap (BitVec.ofInt k.bits x&&& ~~~(BitVec.ofInt k.bits y)).toNat
def GH:Nat:=1099511627776
def bin(op:BinOp):AV→AV→Option AV
 | .i k a, .i k' b=>
  match op with
  | .shl=>if b<0 then none else some (.i k (k.wrap (a*2^(min b.toNat k.bits))))
  | .shr=>if b<0 then none else some (.i k (a.fdiv (2^(min b.toNat k.bits))))
  |op=>
   if k=k' then
    match op with
    | .add=>some (.i k (k.wrap (a+b)))
    | .sub=>some (.i k (k.wrap (a-b)))
    | .mul=>some (.i k (k.wrap (a*b)))
    | .quo=>if b=0 then none else some (.i k (k.wrap (a.tdiv b)))
    | .rem=>if b=0 then none else some (.i k (a.tmod b))
    | .eql=>some (.b (a==b))
    | .neq=>some (.b (a != b))
    | .lss=>some (.b (decide (a<b)))
    | .leq=>some (.b (decide (a≤b)))
    | .gtr=>some (.b (decide (a>b)))
    | .geq=>some (.b (decide (a≥b)))
    |op=>some (.i k (TQ op k a b))
   else none
 | .s a, .s b=>
  match op with
  | .add=>if a.length+b.length≤2*GH then some (.s (a++b))else none
  | .eql=>some (.b (a==b))
  | .neq=>some (.b (!(a==b)))
  | .lss=>some (.b (Op.bytesLess a b))
  | .leq=>some (.b (Op.bytesLess a b||a==b))
  | .gtr=>some (.b (!(Op.bytesLess a b||a==b)))
  | .geq=>some (.b (!(Op.bytesLess a b)))
  |_=>none
 |_,_=>none
def un(op:UnOp):AV→Option AV
 | .i k a=>match op with
  | .neg=>some (.i k (k.wrap (0-a)))
  | .xor=>some (.i k (TQ .xor k (if k.signed then-1 else k.max) a))
  |_=>none
 | .b x=>match op with
  | .not=>some (.b (!x))
  |_=>none
 |_=>none
def Gr:AV→Option Int
 | .i _ n=>some n
 |_=>none
def EN(x:AV)(to:Nat):Option Nat:=
 (Gr x).bind fun n=>if 0≤n∧n≤to then some n.toNat else none
def DS(f:AO→AV)(len:Nat)(lo hi:Option AO):Option (Nat×Nat):=
 (match hi with
  |none=>some len
  |some x=>EN (f x) len).bind fun h=>
 (match lo with
  |none=>some 0
  |some x=>EN (f x) h).bind fun l=>some (l,h)
def Jh(cells:List AV)(rho:AO→AV):List (Nat×Nat×AO)→Option (List AV)
 |[]=>some cells
 |(off,n,x)::r=>
  if(cellsOf (rho x)).length=n∧off+n≤cells.length then Jh (Bm cells off (cellsOf (rho x))) rho r else none
def Hh(els:List (List AV))(sz:Nat)(rho:AO→AV):List (Nat×AO)→Option (List (List AV))
 |[]=>some els
 |(i,x)::r=>
  if(cellsOf (rho x)).length=sz∧i<els.length then Hh (els.set i (cellsOf (rho x))) sz rho r else none
def find(ek:EK)(k:AV):List (AV×AV)→Nat→Option (Option (Nat×AV))
 |[],_=>some none
 |(x,v)::r,i=>(NN ek k x).bind fun e=>if e then some (some (i,v))else find ek k r (i+1)
def I5:EK→AV→Bool
 | .one _,_=>true
 | .agg l, .agg cs=>Nat.beq cs.length l.length
 |_,_=>false
def Fi(h:A3):AV→Option (List (AV×AV))
 | .nilm=>some []
 | .mp id=>Hf h id
 |_=>none
def N9(h:A3)(sz:Nat)(v:AV)(n:Nat):Option AV:=
 (Dg h sz v).bind fun els=>
  if n<els.length then
   match v with
   | .orow id k lo _=>some (.pe id k (lo+n) 0)
   | .ocel _ id off _=>some (.ptr id (off+n*sz))
   |_=>(els[n]?).map fun cs=> .ip cs 0
  else none
def resl(h:A3)(sz:Nat)(v:AV)(a b:Nat):Option AV:=
 match v with
 | .nils=>some .nils
 | .sl sz' els=>if sz'=sz then some (.sl sz ((els.take b).drop a))else none
 | .orow id n l len=>(rowAt h id).bind fun r=>if n=r.2.2.length∧r.2.1=sz∧l+len≤n then some (.orow id n (l+a) (b-a))else none
 | .ocel sz' id off _=>if sz'=sz then some (.ocel sz id (off+a*sz) (b-a))else none
 |_=>none
def TR(h:A3)(n sz:Nat)(v:AV)(a b:Nat):Option AV:=
 match v with
 | .ptr id off=>(BD h id).bind fun cs=>if off+n*sz≤cs.length then some (.ocel sz id (off+a*sz) (b-a))else none
 | .ip cs off=>if off+n*sz≤cs.length then some (.sl sz (((B6 sz n (cs.drop off)).take b).drop a))else none
 |_=>none
def TS(n sz:Nat)(v:AV):Option AV:=
 match v with
 | .ocel sz' id off len=>if sz'=sz∧n≤len then some (.ptr id off)else none
 | .sl sz' els=>if sz'=sz∧n≤els.length then some (.ip (els.take n).flatten 0)else none
 | .orow id k lo len=>if n≤len∧0<n then some (.pe id k lo 0)else none
 |_=>none
def SH(h:A3)(sz:Nat)(v:AV):Option (List (List AV)):=
 match v with
 | .s l=>if sz=1 then some (Lk l)else none
 |v=>Dg h sz v
def Wu(h:A3)(t sz bytes:Nat)(v:AV)(new:List (List AV)):Option (AV×Option A3):=
 match v with
 | .nils=>
  if new.length=0 then some (.nils,none)
  else if new.length*bytes≤GH then some (.orow h.length new.length 0 new.length,some (h++[Ca.row (some t) false sz new]))else none
 | .orow id n lo len=>(rowAt h id).bind fun r=>
  if lo=0∧n=r.2.2.length∧len=n∧r.2.1=sz∧(n+new.length)*bytes≤GH∧r.1=false then
   if new.length=0 then some (.orow id n 0 n,none)
   else some (.orow id (n+new.length) 0 (n+new.length),some (h.set id (Ca.row (N0 (CN h id) t) r.1 sz (r.2.2++new))))
  else none
 |_=>none
def Q5(h:A3)(sz:Nat)(v:AV)(src:List (List AV)):Option (AV×Option A3):=
 match v with
 | .nils=>some (.i .i64 0,none)
 | .orow id n lo len=>(rowAt h id).bind fun r=>
  if r.1=false∧n=r.2.2.length∧r.2.1=sz∧lo+len≤n then
   some (.i .i64 (min src.length len:Nat),some (h.set id (Ca.row (CN h id) false sz (r.2.2.take lo++src.take (min src.length len)++r.2.2.drop (lo+min src.length len)))))
  else none
 | .ocel sz' id off len=>(BD h id).bind fun cs=>
  if sz'=sz∧off+len*sz≤cs.length then
   some (.i .i64 (min src.length len:Nat),some (h.set id (Ca.cells (CN h id) (cs.take off++(src.take (min src.length len)).flatten++cs.drop (off+min src.length len*sz)))))
  else none
 |_=>none
abbrev GU:=Option (AV×Option A3)
def val(v:Option AV):GU:=v.map fun v=>(v,none)
def C2(tb:Ce)(cl:Nat→List AV→A3→GU)(h:A3)(f:Nat)(args:List AV):GU:=
 match tb.prim f with
 |some p=>p args h
 |none=>cl f args h
def B7(tb:Ce)(cl:Nat→List AV→A3→GU)(rho:AO→AV)(h:A3):Eu→GU
 | .mv x=>some (rho x,none)
 | .pick c a b=>match rho c with
  | .b t=>some (if t then rho a else rho b,none)
  |_=>none
 | .alloc t zero=>some (.ptr h.length 0,some (h++[Ca.cells (some t) zero]))
 | .box t n x=>if(cellsOf (rho x)).length=n then some (.ptr h.length 0,some (h++[Ca.cells (some t) (cellsOf (rho x))]))else none
 | .bld zero parts=>val ((Jh zero rho parts).map .agg)
 | .bls t sz zero parts=>(Hh zero sz rho parts).map fun els=>(.orow h.length els.length 0 els.length,some (h++[Ca.row (some t) false sz els]))
 | .bll sz zero parts=>val ((Hh zero sz rho parts).map (.sl sz))
 | .ld agg n a=>val (load h agg n (rho a))
 | .st n a x=>(store h n (rho a) (rho x)).map fun h=>(.junk,some h)
 | .nilc x=>match rho x with
  | .ptr a b=>some (.ptr a b,none)
  | .pe a b c d=>some (.pe a b c d,none)
  | .ip a b=>some (.ip a b,none)
  | .fn (.func f) a b=>some (.fn (.func f) a b,none)
  |_=>none
 | .bin op x y=>val (bin op (rho x) (rho y))
 | .eq neg ek x y=>val ((NN ek (rho x) (rho y)).map fun e=> .b (if neg then !e else e))
 | .un op x=>val (un op (rho x))
 | .cvi k x=>match rho x with
  | .i _ n=>some (.i k (k.wrap n),none)
  |_=>none
 | .cvid x=>match rho x with
  | .s l=>some (.s l,none)
  |_=>none
 | .cvb t x=>match rho x with
  | .s l=>some (.orow h.length l.length 0 l.length,some (h++[Ca.row (some t) false 1 (Lk l)]))
  |_=>none
 | .cvr x=>match rho x with
  | .orow id n lo len=>(rowAt h id).bind fun r=>if r.1=false∧n=r.2.2.length∧lo+len≤n then some (.orow id n lo len,none)else none
  |_=>none
 | .cvs x=>val (((Dg h 1 (rho x)).bind Fu).map .s)
 | .cvc x=>match rho x with
  | .i _ n=>some (.s (Utf8.encode n).data.toList,none)
  |_=>none
 | .mkf fn a b=>some (.fn fn (a.map rho) (b.map rho),none)
 | .mkm=>some (.mp h.length,some (h++[Ca.map []]))
 | .mks t sz bytes zero len cap=>
  (Gr (rho len)).bind fun l=>(Gr (rho cap)).bind fun c=>
   if 0≤l∧l≤c∧c*bytes≤GH then
    some (.orow h.length l.toNat 0 l.toNat,some (h++[Ca.row (some t) false sz (List.replicate l.toNat zero)]))
   else none
 | .sls x lo hi=>match rho x with
  | .s l=>(DS rho l.length lo hi).map fun p=>(.s ((l.take p.2).drop p.1),none)
  |_=>none
 | .sll sz x lo hi=>(JI (rho x)).bind fun len=>(DS rho len lo hi).bind fun p=>val (resl h sz (rho x) p.1 p.2)
 | .sla n sz x lo hi=>(DS rho n lo hi).bind fun p=>val (TR h n sz (rho x) p.1 p.2)
 | .fa off x=>val (shift off (rho x))
 | .fld agg off n x=>match rho x with
  | .agg cs=>if off+n≤cs.length then val (HO agg (sub cs off n))else none
  |_=>none
 | .ias sz x i=>(Gr (rho i)).bind fun n=>if 0≤n then val (N9 h sz (rho x) n.toNat)else none
 | .iaa len sz x i=>
  (Gr (rho i)).bind fun n=>if 0≤n∧n<len then val (shift (n.toNat*sz) (rho x))else none
 | .ixa len sz agg x i=>
  (Gr (rho i)).bind fun n=>match rho x with
   | .agg cs=>if 0≤n∧n<len∧len*sz≤cs.length then val (HO agg (sub cs (n.toNat*sz) sz))else none
   |_=>none
 | .ixs x i=>
  (Gr (rho i)).bind fun n=>match rho x with
   | .s l=>if 0≤n then(l[n.toNat]?).map fun c=>(.i .u8 c.toNat,none)else none
   |_=>none
 | .lkp ek zero ok m k=>
  if I5 ek (rho k)then(Fi h (rho m)).bind fun es=>(find ek (rho k) es 0).map fun r=>match r with
    |some (_,v)=>(if ok then .tup [v, .b true]else v,none)
    |none=>(if ok then .tup [zero, .b false]else zero,none)
  else none
 | .mup ek m k v=>match rho m with
  | .mp id=>if I5 ek (rho k)then(Hf h id).bind fun es=>(find ek (rho k) es 0).map fun r=>match r with
    |some (i,_)=>(.junk,some (h.set id (Ca.map (es.set i (rho k,rho v)))))
    |none=>(.junk,some (h.set id (Ca.map (es++[(rho k,rho v)]))))
   else none
  |_=>none
 | .rng x=>match rho x with
  | .s l=>some (.ptr h.length 0,some (h++[Ca.iter l 0]))
  |_=>none
 | .nxt x=>match rho x with
  | .ptr id off=>(YF h id).bind fun it=>
   if off=0 then
    if it.2<it.1.length then
     some (.tup [.b true, .i .i64 it.2, .i .i32 (Utf8.decode ⟨it.1.toArray⟩ it.2).1],some (h.set id (Ca.iter it.1 (it.2+(Utf8.decode ⟨it.1.toArray⟩ it.2).2))))
    else some (.tup [.b false],none)
   else none
  |_=>none
 | .ext x i=>match rho x with
  | .tup vs=>val (vs[i]?)
  |_=>none
 | .s2a n sz x=>val (TS n sz (rho x))
 | .mkif _ _=>some (.ifc 0 .junk,none)
 | .call f xs=>C2 tb cl h f (xs.map rho)
 | .callv x xs=>match rho x with
  | .fn (.func f) first captured=>C2 tb cl h f (first++xs.map rho++captured)
  |_=>none
 | .len x=>(JI (rho x)).map fun(n:Nat)=>(.i .i64 (n:Int),none)
 | .lens x=>match rho x with
  | .s l=>some (.i .i64 (l.length:Nat),none)
  |_=>none
 | .app t sz bytes s x=>(SH h sz (rho x)).bind fun new=>Wu h t sz bytes (rho s) new
 | .cpy sz d s=>(SH h sz (rho s)).bind fun src=>Q5 h sz (rho d) src
 | .mnx max x y=>match rho x,rho y with
  | .i k a, .i k' b=>if k=k' then some (.i k (if max then(if b>a then b else a)else(if b<a then b else a)),none)else none
  |_,_=>none
 | .clr zero x=>match rho x with
  | .nils=>some (.tup [],none)
  | .orow id n lo len=>(rowAt h id).bind fun r=>
   if r.1=false∧n=r.2.2.length∧lo+len≤n∧zero.length=r.2.1 then
    some (.tup [],some (h.set id (Ca.row (CN h id) false r.2.1 (r.2.2.take lo++List.replicate len zero++r.2.2.drop (lo+len)))))
   else none
  | .mp id=>(Hf h id).map fun _=>(.tup [],some (h.set id (Ca.map [])))
  |_=>none
 | .del ek m k=>match rho m with
  | .nilm=>if I5 ek (rho k)then some (.tup [],none)else none
  | .mp id=>if I5 ek (rho k)then(Hf h id).bind fun es=>(find ek (rho k) es 0).map fun r=>match r with
    |some (i,_)=>(.tup [],some (h.set id (Ca.map (es.eraseIdx i))))
    |none=>(.tup [],none)
   else none
  |_=>none
 | .lenm m=>(Fi h (rho m)).map fun es=>(.i .i64 es.length,none)
 | .cvp x=>match rho x with
  | .nilp=>some (.nilp,none)
  | .ptr id off=>(BD h id).bind fun cs=>if off<cs.length then some (.ptr id off,none)else none
  |_=>none
 | .cvu t n x=>match rho x with
  | .nilp=>some (.nilp,none)
  | .ptr id off=>(BD h id).bind fun cs=>if off=0∧cs.length=n∧CN h id=some t then some (.ptr id 0,none)else none
  |_=>none
 | .capn x=>match rho x with
  | .nils=>some (.i .i64 0,none)
  |_=>none
 | .isni neg x=>match rho x with
  | .nili=>some (.b (!neg),none)
  | .ifc _ _=>some (.b neg,none)
  |_=>none
 | .eqp neg x y=>match rho x,rho y with
  | .ptr a o, .ptr b o'=>if a=b∧o=o' then some (.b (!neg),none)else none
  |_,_=>none
 | .usd x=>match rho x with
  | .nils=>some (.nilp,none)
  | .orow id n lo len=>(rowAt h id).bind fun r=>if n=r.2.2.length∧lo+len≤n∧0<len then some (.pe id n lo 0,none)else none
  |_=>none
 | .ust t x n=>(Gr (rho n)).bind fun k=>match rho x with
  | .nilp=>if k=0 then some (.s [],none)else none
  | .pe id n i off=>(rowAt h id).bind fun r=>
   if off=0∧0<k∧n=r.2.2.length∧i+k.toNat≤n∧r.2.1=1∧CN h id=some t∧k≤GH then
    (Fu ((r.2.2.drop i).take k.toNat)).map fun l=>(.s l,some (h.set id (Ca.row (CN h id) true 1 r.2.2)))
   else none
  |_=>none
 | .die=>none
def eval(tb:Ce)(f:Fr):AO→AV
 | .t n=>get f n
 | .k v=>v
 | .f n=> .fn (.func n) [] []
 | .g n=>match tb.gl n with
  |some cs=> .ip cs 0
  |none=> .junk
def wanted(f:Fr)(g:Option (Nat×Bool)):Option Bool:=
 match g with
 |none=>some true
 |some (t,w)=>match get f t with
  | .b x=>some (x==w)
  | .tup []=>some false
  |_=>none
def ops(tb:Ce)(cl:Nat→List AV→A3→GU):List AZ→Fr→A3→Option (Fr×A3)
 |[],f,h=>some (f,h)
 |o::r,f,h=>
  (wanted f o.g).bind fun w=>
   if w then(B7 tb cl (eval tb f) h o.o).bind fun p=>ops tb cl r (put f o.d p.1) (p.2.getD h)
   else ops tb cl r (put f o.d (.tup [])) h
def EB(tb:Ce)(cl:Nat→List AV→A3→GU):List AZ→List (Option (Nat×Nat))→Fr→A3→Option (List A3)
 |[],_,_,h=>some [h]
 |o::r,w,f,h=>
  (wanted f o.g).bind fun t=>
   if t then(B7 tb cl (eval tb f) h o.o).bind fun p=>
    (EB tb cl r w.tail (put f o.d p.1) (p.2.getD h)).map fun l=>
     match w.head? with
     |some none=>h::l
     |_=>l
   else(EB tb cl r w.tail (put f o.d (.tup [])) h).map fun l=>
    match w.head? with
    |some none=>h::l
    |_=>l
open Classical in
noncomputable def GD(tb:Ce)(cl:Nat→List AV→A3→GU)(h:A3):List AZ→Fr→Option Fr
 |[],f=>some f
 |o::r,f=>
  (wanted f o.g).bind fun w=>
   if w then(B7 tb cl (eval tb f) h o.o).bind fun p=>if p.2.getD h=h then GD tb cl h r (put f o.d p.1)else none
   else GD tb cl h r (put f o.d (.tup []))
open Classical in
noncomputable def Fx(tb:Ce)(cl:Nat→List AV→A3→GU)(hs:List A3):List AZ→List (Option (Nat×Nat))→Nat→Fr→Option Fr
 |[],_,k,f=>if k+1=hs.length then some f else none
 |o::r,w,k,f=>
  (wanted f o.g).bind fun t=>
   if t then(hs[k]?).bind fun h=>(B7 tb cl (eval tb f) h o.o).bind fun p=>
    match w with
    |none::w=>if some (p.2.getD h)=hs[k+1]? then Fx tb cl hs r w (k+1) (put f o.d p.1)else none
    |some (lo,hi)::w=>
     if(List.range' lo (hi+1-lo)).all (fun j=>decide (∃u,(hs[j]?).bind (fun h=>B7 tb cl (eval tb f) h o.o)=some (p.1,u)∧some (u.getD (hs[j]?.getD []))=hs[j]?))then
      Fx tb cl hs r w k (put f o.d p.1)
     else none
    |[]=>none
   else match w with
    |none::w=>if hs[k]? =hs[k+1]? then Fx tb cl hs r w (k+1) (put f o.d (.tup []))else none
    |some _::w=>Fx tb cl hs r w k (put f o.d (.tup []))
    |[]=>none
def keepL(AT:List Nat)(f:Fr):Fr:=AT.map fun t=>(t,get f t)
def Mz(F:Fr→A3→Option (Ex×Fr×A3)):Nat→Fr→A3→Option (Ex×Fr×A3)
 |0,_,_=>none
 |n+1,f,h=>match F f h with
  |some (.normal,f',h')=>Mz F n f' h'
  |r=>r
open Classical in
noncomputable def lp(F:Fr→A3→Option (Ex×Fr×A3))(f:Fr)(h:A3):Option (Ex×Fr×A3):=
 if x: ∃n,(Mz F n f h).isSome=true then Mz F (Classical.choose x) f h else none
def Gf(AT:List Nat)(F:Fr→A3→Option (Ex×Fr×A3))(f:Fr)(h:A3):Option (Ex×Fr×A3):=
 (F (keepL AT f) h).map fun
  |(.normal,f',h')=>(.normal,keepL AT f',h')
  |r=>r
noncomputable def Bd(tb:Ce)(cl:Nat→List AV→A3→GU):AC→Fr→A3→Option (Ex×Fr×A3)
 | .skip,f,h=>some (.normal,f,h)
 | .reg l,f,h=>(ops tb cl l f h).map fun p=>(.normal,p.1,p.2)
 | .regq l,f,h=>(GD tb cl h l f).map fun f=>(.normal,f,h)
 | .regd l w,f,h=>(EB tb cl l w f h).bind fun hs=>(Fx tb cl (h::hs.tail) l w 0 f).bind fun f=>((h::hs.tail).getLast?).map fun h=>(.normal,f,h)
 | .seq x y,f,h=>(Bd tb cl x f h).bind fun
  |(.normal,f,h)=>Bd tb cl y f h
  |r=>some r
 | .cond c x y,f,h=>match eval tb f c with
  | .b t=>if t then Bd tb cl x f h else Bd tb cl y f h
  |_=>none
 | .blk id x,f,h=>(Bd tb cl x f h).map fun
  |(.exit id',f,h)=>if id'=id then(.normal,f,h)else(.exit id',f,h)
  |r=>r
 | .loop AT x,f,h=>lp (Gf AT (Bd tb cl x)) f h
 | .exit id,f,h=>some (.exit id,f,h)
 | .ret,f,h=>some (.ret,f,h)
 | .keep AT x,f,h=>(Bd tb cl x f h).map fun
  |(.normal,f,h)=>(.normal,keepL AT f,h)
  |r=>r
 | .scope x,f,h=>Bd tb cl x f h
 | .stop,_,_=>none
def results(f:Fr)(h:A3):List Ge→Option (List AV)
 |[]=>some []
 | .tmp t::r=>(results f h r).map (get f t:: ·)
 | .cell agg n t::r=>(load h agg n (get f t)).bind fun v=>(results f h r).map (v:: ·)
def EL:List AV→AV
 |[v]=>v
 |vs=> .tup vs
def Cz{α:Type}(F:α→Option α):List α→Option (List α)
 |[]=>some []
 |x::r=>(F x).bind fun x=>(Cz F r).map (x:: ·)
def frz(h:A3)(n:Nat):Nat→AV→Option AV
 |0,v=>if B8 v≤n then some v else none
 |d+1,v=>if B8 v≤n then some v else match v with
  | .orow id k lo len=>(rowAt h id).bind fun r=>
   if k=r.2.2.length∧lo+len≤k then(Cz (Cz (frz h n d)) ((r.2.2.drop lo).take len)).map (.sl r.2.1)else none
  | .ocel sz id off len=>(BD h id).bind fun cs=>
   if off+len*sz≤cs.length then(Cz (Cz (frz h n d)) (B6 sz len (cs.drop off))).map (.sl sz)else none
  | .sl sz els=>(Cz (Cz (frz h n d)) els).map (.sl sz)
  | .agg cs=>(Cz (frz h n d) cs).map .agg
  | .tup cs=>(Cz (frz h n d) cs).map .tup
  |_=>none
def VU(h:A3)(n:Nat)(l:List AV):Option (List AV):=Cz (frz h n 12) l
def Ro(n:Nat)(h:A3)(vs:List AV):AV×Option A3:=
 match VU h n vs with
 |some vs'=>if CB (h.take n)≤n then(EL vs',some (h.take n))else(EL vs,some h)
 |none=>(EL vs,some h)
def S5(warm:Bool)(n:Nat)(h:A3)(vs:List AV):AV×Option A3:=
 match warm with
 |true=>(EL vs,some h)
 |false=>Ro n h vs
noncomputable def body(tb:Ce)(cl:Nat→List AV→A3→GU)(fn:EP)(args:List AV)(h:A3):GU:=
 if args.length=fn.np then
  (Bd tb cl fn.body (args.zipIdx.map fun p=>(p.2,p.1)) h).bind fun
   |(.exit _,_,_)=>none
   |(_,f,h')=>(results f h' fn.res).map fun vs=>S5 fn.warm h.length h' vs
 else none
noncomputable def run(tb:Ce):Nat→Nat→List AV→A3→GU
 |0,_,_,_=>none
 |n+1,f,args,h=>(tb.fns f).bind fun fn=>body tb (run tb n) fn args h
open Classical in
noncomputable def CF(tb:Ce)(f:Nat)(args:List AV)(h:A3):GU:=
 if x: ∃n,(run tb n f args h).isSome=true then run tb (Classical.choose x) f args h else none
end Go.Proofs.Ytapafbjgdfgodaa.Am
namespace Go.Proofs.Ytapafbjgdfgodaa.Am
theorem Rl(F:Fr→A3→Option (Ex×Fr×A3)): ∀(n:Nat) (f:Fr) (h:A3) (r:Ex×Fr×A3),Mz F n f h=some r→ ∀m,n≤m→Mz F m f h=some r:=by
 intro n
 induction n with
 |zero=>intro f h r e;simp[Mz]at e
 |succ n ih=>
  intro f h r e m hm
  obtain⟨m,rfl⟩: ∃k,m=k+1:=⟨m-1,by omega⟩
  simp only[Mz]at e ⊢
  split at e
  ·exact ih _ _ _ e m (by omega)
  ·exact e
theorem VD(F:Fr→A3→Option (Ex×Fr×A3)){n:Nat}{f:Fr}{h:A3}{r:Ex×Fr×A3}(e:Mz F n f h=some r):lp F f h=some r:=by
 unfold lp
 have x: ∃n,(Mz F n f h).isSome=true:=⟨n,by rw[e];rfl⟩
 rw[dif_pos x]
 have hc:=Classical.choose_spec x
 cases hr:Mz F (Classical.choose x) f h with
 |none=>rw[hr]at hc;simp at hc
 |some r'=>
  have h1:=Rl F _ _ _ _ e (max n (Classical.choose x)) (by omega)
  have h2:=Rl F _ _ _ _ hr (max n (Classical.choose x)) (by omega)
  rw[h1]at h2
  exact h2.symm
theorem XQ{F:Fr→A3→Option (Ex×Fr×A3)}{f:Fr}{h:A3}{r:Ex×Fr×A3}(e:lp F f h=some r): ∃n,Mz F n f h=some r:=by
 unfold lp at e
 split at e
 ·exact⟨_,e⟩
 ·simp at e
def Below(c d:Nat→List AV→A3→GU):Prop:= ∀f a h r,c f a h=some r→d f a h=some r
theorem Lc{tb:Ce}{c d:Nat→List AV→A3→GU}(b:Below c d){h:A3}{f:Nat}{a:List AV}{r:AV×Option A3}
  (e:C2 tb c h f a=some r):C2 tb d h f a=some r:=by
 unfold C2 at*
 split
 ·rename_i p hp;rw[hp]at e;exact e
 ·rename_i hp;rw[hp]at e;exact b _ _ _ _ e
theorem DB{tb:Ce}{c d:Nat→List AV→A3→GU}(b:Below c d){rho:AO→AV}{h:A3}{o:Eu}{r:AV×Option A3}
  (e:B7 tb c rho h o=some r):B7 tb d rho h o=some r:=by
 cases o<;>first
  |exact e
  |(simp only[B7]at e ⊢;exact Lc b e)
  |skip
 case callv x xs=>
  simp only[B7]at e ⊢
  split at e
  ·exact Lc b e
  ·simp at e
theorem Rc{tb:Ce}{c d:Nat→List AV→A3→GU}(b:Below c d): ∀(l:List AZ) (f:Fr) (h:A3) (r:Fr×A3),ops tb c l f h=some r→ops tb d l f h=some r:=by
 intro l
 induction l with
 |nil=>intro f h r e;exact e
 |cons o l ih=>
  intro f h r e
  simp only[ops]at e ⊢
  cases hw:wanted f o.g with
  |none=>rw[hw]at e;simp at e
  |some t=>
   rw[hw]at e
   simp only[Option.bind_some]at e ⊢
   cases t with
   |false=>exact ih _ _ _ e
   |true=>
    simp only[if_true]at e ⊢
    cases ha:B7 tb c (eval tb f) h o.o with
    |none=>rw[ha]at e;simp at e
    |some p=>
     rw[ha]at e
     rw[DB b ha]
     exact ih _ _ _ e
theorem Pi{tb:Ce}{c d:Nat→List AV→A3→GU}(b:Below c d)(h:A3): ∀(l:List AZ) (f:Fr) (r:Fr),GD tb c h l f=some r→GD tb d h l f=some r:=by
 intro l
 induction l with
 |nil=>intro f r e;exact e
 |cons o l ih=>
  intro f r e
  simp only[GD]at e ⊢
  cases hw:wanted f o.g with
  |none=>rw[hw]at e;simp at e
  |some t=>
   rw[hw]at e
   simp only[Option.bind_some]at e ⊢
   cases t with
   |false=>exact ih _ _ e
   |true=>
    simp only[if_true]at e ⊢
    cases ha:B7 tb c (eval tb f) h o.o with
    |none=>rw[ha]at e;simp at e
    |some p=>
     rw[ha]at e
     rw[DB b ha]
     simp only[Option.bind_some]at e ⊢
     split at e
     ·rename_i hq;rw[if_pos hq];exact ih _ _ e
     ·simp at e
theorem Kt{tb:Ce}{c d:Nat→List AV→A3→GU}(b:Below c d): ∀(l:List AZ) (w:List (Option (Nat×Nat))) (f:Fr) (h:A3) (r:List A3),
  EB tb c l w f h=some r→EB tb d l w f h=some r:=by
 intro l
 induction l with
 |nil=>intro w f h r e;exact e
 |cons o l ih=>
  intro w f h r e
  simp only[EB]at e ⊢
  cases hw:wanted f o.g with
  |none=>rw[hw]at e;simp at e
  |some t=>
   rw[hw]at e
   simp only[Option.bind_some]at e ⊢
   cases t with
   |false=>
    simp only[Bool.false_eq_true,if_false]at e ⊢
    cases hh:EB tb c l w.tail (put f o.d (.tup [])) h with
    |none=>rw[hh]at e;simp at e
    |some r'=>rw[hh]at e;rw[ih _ _ _ _ hh];exact e
   |true=>
    simp only[if_true]at e ⊢
    cases ha:B7 tb c (eval tb f) h o.o with
    |none=>rw[ha]at e;simp at e
    |some p=>
     rw[ha]at e
     rw[DB b ha]
     simp only[Option.bind_some]at e ⊢
     cases hh:EB tb c l w.tail (put f o.d p.1) (p.2.getD h)with
     |none=>rw[hh]at e;simp at e
     |some r'=>rw[hh]at e;rw[ih _ _ _ _ hh];exact e
theorem Jx{tb:Ce}{c d:Nat→List AV→A3→GU}(b:Below c d)(hs:List A3): ∀(l:List AZ) (w:List (Option (Nat×Nat))) (k:Nat) (f:Fr) (r:Fr),
  Fx tb c hs l w k f=some r→Fx tb d hs l w k f=some r:=by
 intro l
 induction l with
 |nil=>intro w k f r e;exact e
 |cons o l ih=>
  intro w k f r e
  simp only[Fx]at e ⊢
  cases hw:wanted f o.g with
  |none=>rw[hw]at e;simp at e
  |some t=>
   rw[hw]at e
   simp only[Option.bind_some]at e ⊢
   cases t with
   |false=>
    simp only[Bool.false_eq_true,if_false]at e ⊢
    cases w with
    |nil=>simp at e
    |cons x w=>
     cases x with
     |none=>
      simp only at e ⊢
      split at e
      ·rename_i hq;rw[if_pos hq];exact ih _ _ _ _ e
      ·simp at e
     |some y=>exact ih _ _ _ _ e
   |true=>
    simp only[if_true]at e ⊢
    cases hk:hs[k]? with
    |none=>rw[hk]at e;simp at e
    |some h=>
     rw[hk]at e
     simp only[Option.bind_some]at e ⊢
     cases ha:B7 tb c (eval tb f) h o.o with
     |none=>rw[ha]at e;simp at e
     |some p=>
      rw[ha]at e
      rw[DB b ha]
      simp only[Option.bind_some]at e ⊢
      cases w with
      |nil=>simp at e
      |cons x w=>
       cases x with
       |none=>
        simp only at e ⊢
        split at e
        ·rename_i hq;rw[if_pos hq];exact ih _ _ _ _ e
        ·simp at e
       |some y=>
        obtain⟨lo,hi⟩:=y
        simp only at e ⊢
        split at e
        ·rename_i hq
         rw[if_pos]
         ·exact ih _ _ _ _ e
         ·simp only[List.all_eq_true,decide_eq_true_eq]at hq ⊢
          intro j hj
          obtain⟨u,hu,hu'⟩:=hq j hj
          refine⟨u,?_,hu'⟩
          cases hj':hs[j]? with
          |none=>rw[hj']at hu;simp at hu
          |some h'=>rw[hj']at hu;exact DB b hu
        ·simp at e
theorem VE{F G:Fr→A3→Option (Ex×Fr×A3)}(b: ∀f h r,F f h=some r→G f h=some r): ∀(n:Nat) (f:Fr) (h:A3) (r:Ex×Fr×A3),Mz F n f h=some r→Mz G n f h=some r:=by
 intro n
 induction n with
 |zero=>intro f h r e;simp[Mz]at e
 |succ n ih=>
  intro f h r e
  simp only[Mz]at e ⊢
  cases hF:F f h with
  |none=>rw[hF]at e;simp at e
  |some r'=>
   rw[hF]at e
   rw[b _ _ _ hF]
   obtain⟨x,f',h'⟩:=r'
   cases x with
   |normal=>exact ih _ _ _ e
   |exit id=>exact e
   |ret=>exact e
theorem J3{tb:Ce}{c d:Nat→List AV→A3→GU}(b:Below c d): ∀(x:AC) (f:Fr) (h:A3) (r:Ex×Fr×A3),Bd tb c x f h=some r→Bd tb d x f h=some r:=by
 intro x
 induction x with
 |skip=>intro f h r e;exact e
 |reg l=>
  intro f h r e
  simp only[Bd]at e ⊢
  cases ho:ops tb c l f h with
  |none=>rw[ho]at e;simp at e
  |some p=>rw[ho]at e;rw[Rc b _ _ _ _ ho];exact e
 |regq l=>
  intro f h r e
  simp only[Bd]at e ⊢
  cases ho:GD tb c h l f with
  |none=>rw[ho]at e;simp at e
  |some p=>rw[ho]at e;rw[Pi b h _ _ _ ho];exact e
 |regd l w=>
  intro f h r e
  simp only[Bd]at e ⊢
  cases ho:EB tb c l w f h with
  |none=>rw[ho]at e;simp at e
  |some hs=>
   rw[ho]at e
   rw[Kt b _ _ _ _ _ ho]
   simp only[Option.bind_some]at e ⊢
   cases hd:Fx tb c (h::hs.tail) l w 0 f with
   |none=>rw[hd]at e;simp at e
   |some f'=>rw[hd]at e;rw[Jx b _ _ _ _ _ _ hd];exact e
 |seq x y ihx ihy=>
  intro f h r e
  simp only[Bd]at e ⊢
  cases hx:Bd tb c x f h with
  |none=>rw[hx]at e;simp at e
  |some p=>
   rw[hx]at e
   rw[ihx _ _ _ hx]
   obtain⟨q,f',h'⟩:=p
   cases q with
   |normal=>exact ihy _ _ _ e
   |exit id=>exact e
   |ret=>exact e
 |cond o x y ihx ihy=>
  intro f h r e
  simp only[Bd]at e ⊢
  split at e
  ·rename_i t ht
   split at e
   ·rename_i hh;simp only[hh,if_true];exact ihx _ _ _ e
   ·rename_i hh;simp only[hh];exact ihy _ _ _ e
  ·simp at e
 |blk id x ih=>
  intro f h r e
  simp only[Bd]at e ⊢
  cases hx:Bd tb c x f h with
  |none=>rw[hx]at e;simp at e
  |some p=>rw[hx]at e;rw[ih _ _ _ hx];exact e
 |loop AT x ih=>
  intro f h r e
  simp only[Bd]at e ⊢
  obtain⟨n,hn⟩:=XQ e
  refine VD _ (n:=n) (VE ?_ n f h r hn)
  intro f h r e
  simp only[Gf]at e ⊢
  cases hx:Bd tb c x (keepL AT f) h with
  |none=>rw[hx]at e;simp at e
  |some p=>rw[hx]at e;rw[ih _ _ _ hx];exact e
 |exit id=>intro f h r e;exact e
 |ret=>intro f h r e;exact e
 |scope x ih=>intro f h r e;exact ih f h r e
 |stop=>intro f h r e;simp[Bd]at e
 |keep AT x ih=>
  intro f h r e
  simp only[Bd]at e ⊢
  cases hx:Bd tb c x f h with
  |none=>rw[hx]at e;simp at e
  |some p=>rw[hx]at e;rw[ih _ _ _ hx];exact e
theorem P5{tb:Ce}{c d:Nat→List AV→A3→GU}(b:Below c d){fn:EP}{a:List AV}{h:A3}{r:AV×Option A3}
  (e:body tb c fn a h=some r):body tb d fn a h=some r:=by
 simp only[body]at e ⊢
 split at e
 ·rename_i hn
  rw[if_pos hn]
  cases hx:Bd tb c fn.body (a.zipIdx.map fun p=>(p.2,p.1)) h with
  |none=>rw[hx]at e;simp at e
  |some p=>rw[hx]at e;rw[J3 b _ _ _ _ hx];exact e
 ·simp at e
theorem Vc(tb:Ce): ∀n,Below (run tb n) (run tb (n+1)):=by
 intro n
 induction n with
 |zero=>intro f a h r e;simp[run]at e
 |succ n ih=>
  intro f a h r e
  rw[run]at e ⊢
  cases hf:tb.fns f with
  |none=>rw[hf]at e;simp at e
  |some fn=>rw[hf]at e;exact P5 ih e
theorem Cq(tb:Ce){n m:Nat}(h:n≤m):Below (run tb n) (run tb m):=by
 induction m with
 |zero=>obtain rfl:n=0:=(by omega);exact fun _ _ _ _ e=>e
 |succ m ih=>
  by_cases hn:n=m+1
  ·subst hn;exact fun _ _ _ _ e=>e
  ·exact fun f a x r e=>Vc tb m _ _ _ _ (ih (by omega) f a x r e)
theorem Wh{tb:Ce}{n f:Nat}{a:List AV}{h:A3}{r:AV×Option A3}(e:run tb n f a h=some r):CF tb f a h=some r:=by
 unfold CF
 have x: ∃n,(run tb n f a h).isSome=true:=⟨n,by rw[e];rfl⟩
 rw[dif_pos x]
 have hc:=Classical.choose_spec x
 cases hr:run tb (Classical.choose x) f a h with
 |none=>rw[hr]at hc;simp at hc
 |some r'=>
  have h1:=Cq tb (Nat.le_max_left n (Classical.choose x)) _ _ _ _ e
  have h2:=Cq tb (Nat.le_max_right n (Classical.choose x)) _ _ _ _ hr
  rw[h1]at h2
  exact h2.symm
theorem Tg{tb:Ce}{f:Nat}{a:List AV}{h:A3}{r:AV×Option A3}(e:CF tb f a h=some r): ∃n,run tb n f a h=some r:=by
 unfold CF at e
 split at e
 ·exact⟨_,e⟩
 ·simp at e
theorem Uf(tb:Ce)(n:Nat):Below (run tb n) (CF tb):=fun _ _ _ _ e=>Wh e
theorem Lo{tb:Ce}{rho:AO→AV}{h:A3}{o:Eu}{r:AV×Option A3}(e:B7 tb (CF tb) rho h o=some r): ∃n,B7 tb (run tb n) rho h o=some r:=by
 have hc: ∀f a,C2 tb (CF tb) h f a=some r→ ∃n,C2 tb (run tb n) h f a=some r:=by
  intro f a e
  unfold C2 at*
  cases hp:tb.prim f with
  |some p=>rw[hp]at e;exact⟨0,e⟩
  |none=>rw[hp]at e;exact Tg e
 cases o<;>first
  |exact⟨0,e⟩
  |(simp only[B7]at e ⊢;exact hc _ _ e)
  |skip
 case callv x xs=>
  simp only[B7]at e ⊢
  split at e
  ·exact hc _ _ e
  ·simp at e
theorem Xf{tb:Ce}: ∀(l:List AZ) (f:Fr) (h:A3) (r:Fr×A3),ops tb (CF tb) l f h=some r→ ∃n,ops tb (run tb n) l f h=some r:=by
 intro l
 induction l with
 |nil=>intro f h r e;exact⟨0,e⟩
 |cons o l ih=>
  intro f h r e
  simp only[ops]at e ⊢
  cases hw:wanted f o.g with
  |none=>rw[hw]at e;simp at e
  |some t=>
   rw[hw]at e
   simp only[Option.bind_some]at e ⊢
   cases t with
   |false=>exact ih _ _ _ e
   |true=>
    simp only[if_true]at e ⊢
    cases ha:B7 tb (CF tb) (eval tb f) h o.o with
    |none=>rw[ha]at e;simp at e
    |some p=>
     rw[ha]at e
     obtain⟨n,hn⟩:=Lo ha
     obtain⟨m,hm⟩:=ih _ _ _ e
     refine⟨max n m,?_⟩
     rw[DB (Cq tb (Nat.le_max_left n m)) hn]
     exact Rc (Cq tb (Nat.le_max_right n m)) _ _ _ _ hm
theorem Vk{tb:Ce}(h:A3): ∀(l:List AZ) (f:Fr) (r:Fr),GD tb (CF tb) h l f=some r→ ∃n,GD tb (run tb n) h l f=some r:=by
 intro l
 induction l with
 |nil=>intro f r e;exact⟨0,e⟩
 |cons o l ih=>
  intro f r e
  simp only[GD]at e ⊢
  cases hw:wanted f o.g with
  |none=>rw[hw]at e;simp at e
  |some t=>
   rw[hw]at e
   simp only[Option.bind_some]at e ⊢
   cases t with
   |false=>exact ih _ _ e
   |true=>
    simp only[if_true]at e ⊢
    cases ha:B7 tb (CF tb) (eval tb f) h o.o with
    |none=>rw[ha]at e;simp at e
    |some p=>
     rw[ha]at e
     obtain⟨n,hn⟩:=Lo ha
     simp only[Option.bind_some]at e
     split at e
     ·rename_i hq
      obtain⟨m,hm⟩:=ih _ _ e
      refine⟨max n m,?_⟩
      rw[DB (Cq tb (Nat.le_max_left n m)) hn]
      simp only[Option.bind_some]
      rw[if_pos hq]
      exact Pi (Cq tb (Nat.le_max_right n m)) h _ _ _ hm
     ·simp at e
theorem U2{tb:Ce}: ∀(l:List AZ) (w:List (Option (Nat×Nat))) (f:Fr) (h:A3) (r:List A3),EB tb (CF tb) l w f h=some r→ ∃n,EB tb (run tb n) l w f h=some r:=by
 intro l
 induction l with
 |nil=>intro w f h r e;exact⟨0,e⟩
 |cons o l ih=>
  intro w f h r e
  simp only[EB]at e ⊢
  cases hw:wanted f o.g with
  |none=>rw[hw]at e;simp at e
  |some t=>
   rw[hw]at e
   simp only[Option.bind_some]at e ⊢
   cases t with
   |false=>
    simp only[Bool.false_eq_true,if_false]at e ⊢
    cases hh:EB tb (CF tb) l w.tail (put f o.d (.tup [])) h with
    |none=>rw[hh]at e;simp at e
    |some r'=>
     rw[hh]at e
     obtain⟨n,hn⟩:=ih _ _ _ _ hh
     exact⟨n,by rw[hn];exact e⟩
   |true=>
    simp only[if_true]at e ⊢
    cases ha:B7 tb (CF tb) (eval tb f) h o.o with
    |none=>rw[ha]at e;simp at e
    |some p=>
     rw[ha]at e
     obtain⟨n,hn⟩:=Lo ha
     simp only[Option.bind_some]at e
     cases hh:EB tb (CF tb) l w.tail (put f o.d p.1) (p.2.getD h)with
     |none=>rw[hh]at e;simp at e
     |some r'=>
      rw[hh]at e
      obtain⟨m,hm⟩:=ih _ _ _ _ hh
      refine⟨max n m,?_⟩
      rw[DB (Cq tb (Nat.le_max_left n m)) hn]
      simp only[Option.bind_some]
      rw[Kt (Cq tb (Nat.le_max_right n m)) _ _ _ _ _ hm]
      exact e
theorem X8{tb:Ce}{f:Fr}{o:Eu}{v:AV}(hs:List A3): ∀(l:List Nat),
  (∀j∈l,∃u,(hs[j]?).bind (fun h=>B7 tb (CF tb) (eval tb f) h o)=some (v,u)∧some (u.getD (hs[j]?.getD []))=hs[j]?)→
  ∃n,∀j∈l,∃u,(hs[j]?).bind (fun h=>B7 tb (run tb n) (eval tb f) h o)=some (v,u)∧some (u.getD (hs[j]?.getD []))=hs[j]? :=by
 intro l
 induction l with
 |nil=>intro _;exact⟨0,fun j hj=>by cases hj⟩
 |cons j l ih=>
  intro H
  obtain⟨n,hn⟩:=ih fun j hj=>H j (List.mem_cons_of_mem _ hj)
  obtain⟨u,hu,hu'⟩:=H j List.mem_cons_self
  cases hj:hs[j]? with
  |none=>rw[hj]at hu;simp at hu
  |some h=>
   rw[hj]at hu
   obtain⟨m,hm⟩:=Lo hu
   refine⟨max n m,?_⟩
   intro i hi
   rcases List.mem_cons.1 hi with e|hi
   ·subst e
    refine⟨u,?_,hu'⟩
    rw[hj]
    exact DB (Cq tb (Nat.le_max_right n m)) hm
   ·obtain⟨u',h1,h2⟩:=hn i hi
    refine⟨u',?_,h2⟩
    cases hi':hs[i]? with
    |none=>rw[hi']at h1;simp at h1
    |some h'=>rw[hi']at h1;exact DB (Cq tb (Nat.le_max_left n m)) h1
theorem Vl{tb:Ce}(hs:List A3): ∀(l:List AZ) (w:List (Option (Nat×Nat))) (k:Nat) (f:Fr) (r:Fr),Fx tb (CF tb) hs l w k f=some r→ ∃n,Fx tb (run tb n) hs l w k f=some r:=by
 intro l
 induction l with
 |nil=>intro w k f r e;exact⟨0,e⟩
 |cons o l ih=>
  intro w k f r e
  simp only[Fx]at e ⊢
  cases hw:wanted f o.g with
  |none=>rw[hw]at e;simp at e
  |some t=>
   rw[hw]at e
   simp only[Option.bind_some]at e ⊢
   cases t with
   |false=>
    simp only[Bool.false_eq_true,if_false]at e ⊢
    cases w with
    |nil=>simp at e
    |cons x w=>
     cases x with
     |none=>
      simp only at e ⊢
      split at e
      ·rename_i hq;simp only[if_pos hq];exact ih _ _ _ _ e
      ·simp at e
     |some y=>exact ih _ _ _ _ e
   |true=>
    simp only[if_true]at e ⊢
    cases hk:hs[k]? with
    |none=>rw[hk]at e;simp at e
    |some h=>
     rw[hk]at e
     simp only[Option.bind_some]at e ⊢
     cases ha:B7 tb (CF tb) (eval tb f) h o.o with
     |none=>rw[ha]at e;simp at e
     |some p=>
      rw[ha]at e
      obtain⟨n,hn⟩:=Lo ha
      simp only[Option.bind_some]at e ⊢
      cases w with
      |nil=>simp at e
      |cons x w=>
       cases x with
       |none=>
        simp only at e ⊢
        split at e
        ·rename_i hq
         obtain⟨m,hm⟩:=ih _ _ _ _ e
         refine⟨max n m,?_⟩
         rw[DB (Cq tb (Nat.le_max_left n m)) hn]
         simp only[Option.bind_some]
         rw[if_pos hq]
         exact Jx (Cq tb (Nat.le_max_right n m)) hs _ _ _ _ _ hm
        ·simp at e
       |some y=>
        obtain⟨lo,hi⟩:=y
        simp only at e ⊢
        split at e
        ·rename_i hq
         obtain⟨m,hm⟩:=ih _ _ _ _ e
         simp only[List.all_eq_true,decide_eq_true_eq]at hq
         obtain⟨q,hq⟩:=X8 hs _ hq
         refine⟨max n (max m q),?_⟩
         rw[DB (Cq tb (Nat.le_max_left n (max m q))) hn]
         simp only[Option.bind_some]
         rw[if_pos]
         ·exact Jx (Cq tb (Nat.le_trans (Nat.le_max_left m q) (Nat.le_max_right n _))) hs _ _ _ _ _ hm
         ·simp only[List.all_eq_true,decide_eq_true_eq]
          intro j hj
          obtain⟨u,hu,hu'⟩:=hq j hj
          refine⟨u,?_,hu'⟩
          cases hj':hs[j]? with
          |none=>rw[hj']at hu;simp at hu
          |some h'=>rw[hj']at hu;exact DB (Cq tb (Nat.le_trans (Nat.le_max_right m q) (Nat.le_max_right n _))) hu
        ·simp at e
theorem Xq{F:Nat→Fr→A3→Option (Ex×Fr×A3)}{G:Fr→A3→Option (Ex×Fr×A3)}(hm: ∀n m,n≤m→ ∀f h r,F n f h=some r→F m f h=some r)
  (hG: ∀f h r,G f h=some r→ ∃n,F n f h=some r): ∀(k:Nat) (f:Fr) (h:A3) (r:Ex×Fr×A3),Mz G k f h=some r→ ∃n,Mz (F n) k f h=some r:=by
 intro k
 induction k with
 |zero=>intro f h r e;simp[Mz]at e
 |succ k ih=>
  intro f h r e
  simp only[Mz]at e ⊢
  cases hx:G f h with
  |none=>rw[hx]at e;simp at e
  |some p=>
   rw[hx]at e
   obtain⟨n,hn⟩:=hG _ _ _ hx
   obtain⟨q,f',h'⟩:=p
   cases q with
   |normal=>
    obtain⟨m,hm'⟩:=ih _ _ _ e
    refine⟨max n m,?_⟩
    rw[hm n _ (Nat.le_max_left n m) _ _ _ hn]
    exact VE (hm m _ (Nat.le_max_right n m)) _ _ _ _ hm'
   |exit id=>exact⟨n,by rw[hn];exact e⟩
   |ret=>exact⟨n,by rw[hn];exact e⟩
theorem VZ{tb:Ce}: ∀(x:AC) (f:Fr) (h:A3) (r:Ex×Fr×A3),Bd tb (CF tb) x f h=some r→ ∃n,Bd tb (run tb n) x f h=some r:=by
 intro x
 induction x with
 |skip=>intro f h r e;exact⟨0,e⟩
 |reg l=>
  intro f h r e
  simp only[Bd]at e ⊢
  cases ho:ops tb (CF tb) l f h with
  |none=>rw[ho]at e;simp at e
  |some p=>
   rw[ho]at e
   obtain⟨n,hn⟩:=Xf _ _ _ _ ho
   exact⟨n,by rw[hn];exact e⟩
 |regq l=>
  intro f h r e
  simp only[Bd]at e ⊢
  cases ho:GD tb (CF tb) h l f with
  |none=>rw[ho]at e;simp at e
  |some p=>
   rw[ho]at e
   obtain⟨n,hn⟩:=Vk h _ _ _ ho
   exact⟨n,by rw[hn];exact e⟩
 |regd l w=>
  intro f h r e
  simp only[Bd]at e ⊢
  cases ho:EB tb (CF tb) l w f h with
  |none=>rw[ho]at e;simp at e
  |some hs=>
   rw[ho]at e
   simp only[Option.bind_some]at e
   obtain⟨n,hn⟩:=U2 _ _ _ _ _ ho
   cases hd:Fx tb (CF tb) (h::hs.tail) l w 0 f with
   |none=>rw[hd]at e;simp at e
   |some f'=>
    rw[hd]at e
    obtain⟨m,hm⟩:=Vl _ _ _ _ _ _ hd
    refine⟨max n m,?_⟩
    rw[Kt (Cq tb (Nat.le_max_left n m)) _ _ _ _ _ hn]
    simp only[Option.bind_some]
    rw[Jx (Cq tb (Nat.le_max_right n m)) _ _ _ _ _ _ hm]
    exact e
 |seq x y ihx ihy=>
  intro f h r e
  simp only[Bd]at e ⊢
  cases hx:Bd tb (CF tb) x f h with
  |none=>rw[hx]at e;simp at e
  |some p=>
   rw[hx]at e
   obtain⟨n,hn⟩:=ihx _ _ _ hx
   obtain⟨q,f',h'⟩:=p
   cases q with
   |normal=>
    obtain⟨m,hm⟩:=ihy _ _ _ e
    refine⟨max n m,?_⟩
    rw[J3 (Cq tb (Nat.le_max_left n m)) _ _ _ _ hn]
    exact J3 (Cq tb (Nat.le_max_right n m)) _ _ _ _ hm
   |exit id=>exact⟨n,by rw[hn];exact e⟩
   |ret=>exact⟨n,by rw[hn];exact e⟩
 |cond o x y ihx ihy=>
  intro f h r e
  simp only[Bd]at e ⊢
  split at e
  ·rename_i t ht
   split at e
   ·rename_i hh;simp only[hh,if_true];exact ihx _ _ _ e
   ·rename_i hh;simp only[hh];exact ihy _ _ _ e
  ·simp at e
 |blk id x ih=>
  intro f h r e
  simp only[Bd]at e ⊢
  cases hx:Bd tb (CF tb) x f h with
  |none=>rw[hx]at e;simp at e
  |some p=>
   rw[hx]at e
   obtain⟨n,hn⟩:=ih _ _ _ hx
   exact⟨n,by rw[hn];exact e⟩
 |loop AT x ih=>
  intro f h r e
  simp only[Bd]at e ⊢
  obtain⟨k,hk⟩:=XQ e
  have hm: ∀n m,n≤m→ ∀f h r,Gf AT (Bd tb (run tb n) x) f h=some r→Gf AT (Bd tb (run tb m) x) f h=some r:=by
   intro n m hnm f h r e
   simp only[Gf]at e ⊢
   cases hx:Bd tb (run tb n) x (keepL AT f) h with
   |none=>rw[hx]at e;simp at e
   |some p=>rw[hx]at e;rw[J3 (Cq tb hnm) _ _ _ _ hx];exact e
  have hg: ∀f h r,Gf AT (Bd tb (CF tb) x) f h=some r→ ∃n,Gf AT (Bd tb (run tb n) x) f h=some r:=by
   intro f h r e
   simp only[Gf]at e ⊢
   cases hx:Bd tb (CF tb) x (keepL AT f) h with
   |none=>rw[hx]at e;simp at e
   |some p=>
    rw[hx]at e
    obtain⟨n,hn⟩:=ih _ _ _ hx
    exact⟨n,by rw[hn];exact e⟩
  obtain⟨n,hn⟩:=Xq (F:=fun n=>Gf AT (Bd tb (run tb n) x)) hm hg _ _ _ _ hk
  exact⟨n,VD _ hn⟩
 |exit id=>intro f h r e;exact⟨0,e⟩
 |ret=>intro f h r e;exact⟨0,e⟩
 |scope x ih=>intro f h r e;exact ih f h r e
 |stop=>intro f h r e;simp[Bd]at e
 |keep AT x ih=>
  intro f h r e
  simp only[Bd]at e ⊢
  cases hx:Bd tb (CF tb) x f h with
  |none=>rw[hx]at e;simp at e
  |some p=>
   rw[hx]at e
   obtain⟨n,hn⟩:=ih _ _ _ hx
   exact⟨n,by rw[hn];exact e⟩
theorem Wi(tb:Ce)(f:Nat)(a:List AV)(h:A3):CF tb f a h=(tb.fns f).bind fun fn=>body tb (CF tb) fn a h:=by
 cases hf:tb.fns f with
 |none=>
  cases hd:CF tb f a h with
  |none=>rfl
  |some r=>
   obtain⟨n,hn⟩:=Tg hd
   cases n with
   |zero=>simp[run]at hn
   |succ n=>rw[run,hf]at hn;simp at hn
 |some fn=>
  simp only[Option.bind_some]
  cases hb:body tb (CF tb) fn a h with
  |some r=>
   have: ∃n,body tb (run tb n) fn a h=some r:=by
    simp only[body]at hb ⊢
    split at hb
    ·rename_i hn
     simp only[if_pos hn]
     cases hx:Bd tb (CF tb) fn.body (a.zipIdx.map fun p=>(p.2,p.1)) h with
     |none=>rw[hx]at hb;simp at hb
     |some p=>
      rw[hx]at hb
      obtain⟨n,hn⟩:=VZ _ _ _ _ hx
      exact⟨n,by rw[hn];exact hb⟩
    ·simp at hb
   obtain⟨n,hn⟩:=this
   exact Wh (n:=n+1) (by rw[run,hf];exact hn)
  |none=>
   cases hd:CF tb f a h with
   |none=>rfl
   |some r=>
    obtain⟨n,hn⟩:=Tg hd
    cases n with
    |zero=>simp[run]at hn
    |succ n=>
     rw[run,hf]at hn
     have:=P5 (Uf tb n) hn
     rw[hb]at this
     simp at this
end Go.Proofs.Ytapafbjgdfgodaa.Am
namespace Go.Proofs.Ytapafbjgdfgodaa.Am
structure Place where
 blk:Nat
 base:Nat
 size:Nat
structure Cy where
 φ:Nat→Place
 H:A3
 w:World
def Cy.own(C:Cy)(b:Nat):Prop:= ∃id,id<C.H.length∧(C.φ id).blk=b
def CO(w:World)(b base:Nat)(vs:List Value):Prop:= ∀(j:Nat) (v:Value),vs[j]? =some v→w.cell? ⟨b,base+j,none⟩=some v
def scal:AV→Bool
 | .agg _=>false
 | .tup _=>false
 | .junk=>false
 |_=>true
def Kx:Ca→Bool
 | .row _ _ _ _=>false
 |_=>true
mutual
def DT(C:Cy):AV→Value→Prop
 | .b x,v=>v= .bool x
 | .i k n,v=>v= .int k n
 | .s l,v=>v= .string ⟨l.toArray⟩
 | .agg cs,v=> ∃vs:List Value,v= .agg vs.toArray∧cs.all scal=true∧AW C cs vs
 | .tup cs,v=> ∃vs:List Value,v= .tuple vs.toArray∧AW C cs vs
 | .nilp,v=>v= .pointer none
 | .ptr id off,v=>(∃o,C.H[id]? =some o∧Kx o=true)∧v= .pointer (some ⟨(C.φ id).blk,off,none⟩)
 | .pe id n i off,v=>(∃p,v= .pointer (some p))∧ ∃fz sz els,rowAt C.H id=some (fz,sz,els)∧n≤els.length∧
   (n=els.length→v= .pointer (some ⟨(C.φ id).blk,(C.φ id).base+i*sz+off,none⟩))
 | .ip cs off,v=> ∃b base vs,v= .pointer (some ⟨b,base+off,none⟩)∧b<C.w.heap.size∧ ¬C.own b∧CO C.w b base vs∧cs.all scal=true∧AW C cs vs
 | .nils,v=>v= .slice none 0 0
 | .sl sz els,v=>(∃b base cap vss,v= .slice (some ⟨b,base,none⟩) els.length cap∧els.length≤cap∧b<C.w.heap.size∧ ¬C.own b∧
   CO C.w b base vss.flatten∧(∀e∈els,e.length=sz∧e.all scal=true)∧AS C els vss)∨(els=[]∧ ∃p cap,v= .slice (some p) 0 cap)
 | .orow id n lo len,v=>(∃p c,v= .slice (some p) len c)∧ ∃fz sz els,rowAt C.H id=some (fz,sz,els)∧n≤els.length∧
   (n=els.length→lo+len≤n∧ ∃off cap,v= .slice (some ⟨(C.φ id).blk,off,none⟩) len cap∧len≤cap∧(0<len→off=(C.φ id).base+lo*sz)∧off+cap*sz≤(C.φ id).size∧(C.φ id).base≤off)
 | .ocel sz id off len,v=>(∃o,C.H[id]? =some o∧Kx o=true)∧ ∃o cap,v= .slice (some ⟨(C.φ id).blk,o,none⟩) len cap∧len≤cap∧(0<len→o=off)∧0<sz
 | .nilm,v=>v= .map none
 | .mp id,v=>(∃o,C.H[id]? =some o∧Kx o=true)∧v= .map (some (C.φ id).blk)
 | .nilf,v=>v= .nilFunc
 | .fn f a b,v=> ∃x y:List Value,v= .func f x.toArray y.toArray∧AW C a x∧AW C b y
 | .nili,v=>v= .nilIface
 | .ifc _ a,v=> ∃u x,v= .iface u x∧DT C a x
 | .junk,_=>True
def AW(C:Cy):List AV→List Value→Prop
 |[],vs=>vs=[]
 |a::r,vs=> ∃v q,vs=v::q∧DT C a v∧AW C r q
def AS(C:Cy):List (List AV)→List (List Value)→Prop
 |[],vss=>vss=[]
 |a::r,vss=> ∃v q,vss=v::q∧AW C a v∧AS C r q
end
def Obj(C:Cy)(p:Place):Ca→Prop
 | .cells l cs=> ∃(vs:List Value) (arr:Array Value) (e:TypeId) (fr:Nat×Nat),(C.w.heap[p.blk]? =some (.cells arr e fr)∧ ∀k,l=some k→e=k)∧arr.size=cs.length∧cs.all scal=true∧AW C cs vs∧
   CO C.w p.blk 0 vs∧(∀o,o<cs.length→C.w.frozen? ⟨p.blk,o,none⟩=false)
 | .row l fz sz els=> ∃(vss:List (List Value)) (arr:Array Value) (e:TypeId) (fr:Nat×Nat),(C.w.heap[p.blk]? =some (.cells arr e fr)∧fr.1≤fr.2∧ ∀k,l=some k→e=k)∧arr.size=p.size∧0<sz∧
   (∀x∈els,x.length=sz∧x.all scal=true)∧AS C els vss∧p.base+els.length*sz≤p.size∧CO C.w p.blk p.base vss.flatten∧
   (fz=false→ ∀o,o<p.size→C.w.frozen? ⟨p.blk,o,none⟩=false)∧(fz=false→ ∀o,p.base+els.length*sz≤o→o<p.size→C.w.frozen? ⟨p.blk,o,none⟩=false)
 | .map es=> ∃(ms:List MapEntry) (clock:Nat),C.w.heap[p.blk]? =some (.map ms.toArray clock)∧AW C (es.map (·.1)) (ms.map (·.key))∧AW C (es.map (·.2)) (ms.map (·.val))
 | .iter l pos=>C.w.heap[p.blk]? =some (.stringIter ⟨l.toArray⟩ pos)
structure Inv(tb:Ce)(C:Cy):Prop where
 obj: ∀id o,C.H[id]? =some o→Obj C (C.φ id) o
 inj: ∀i j,i<C.H.length→j<C.H.length→(C.φ i).blk=(C.φ j).blk→i=j
 lt: ∀i,i<C.H.length→(C.φ i).blk<C.w.heap.size
 gl: ∀g cs,tb.gl g=some cs→g<C.w.heap.size∧ ¬C.own g∧cs.all scal=true∧ ∃vs,CO C.w g 0 vs∧AW C cs vs
 it: ∀g∈tb.it,¬C.own g∧ ∃m:Int,C.w.cell? ⟨g,0,none⟩=some (.int .i64 m)
def Rest(w w':World):Prop:=w'.os=w.os∧w'.tape=w.tape∧w'.output=w.output
structure Gd(C D:Cy):Prop where
 rest:Rest C.w D.w
 size:C.w.heap.size≤D.w.heap.size
 len:C.H.length≤D.H.length
 same: ∀b,b<C.w.heap.size→ ¬C.own b→D.w.heap[b]? =C.w.heap[b]? ∧ ¬D.own b
 fixed: ∀id o,C.H[id]? =some o→Kx o=true→(∃o',D.H[id]? =some o'∧Kx o'=true)∧D.φ id=C.φ id
 row: ∀id fz sz els,rowAt C.H id=some (fz,sz,els)→ ∃fz' els',rowAt D.H id=some (fz',sz,els')∧els.length≤els'.length∧(els.length=els'.length→D.φ id=C.φ id)
theorem Fw(C:Cy):Gd C C:=
 ⟨⟨rfl,rfl,rfl⟩,Nat.le_refl _,Nat.le_refl _,fun _ _ h=>⟨rfl,h⟩,fun _ o h f=>⟨⟨o,h,f⟩,rfl⟩,fun _ fz _ els h=>⟨fz,els,h,Nat.le_refl _,fun _=>rfl⟩⟩
theorem Gd.trans{C D E:Cy}(a:Gd C D)(b:Gd D E):Gd C E:=by
 refine⟨⟨b.rest.1.trans a.rest.1,b.rest.2.1.trans a.rest.2.1,b.rest.2.2.trans a.rest.2.2⟩,Nat.le_trans a.size b.size,Nat.le_trans a.len b.len,?_,?_,?_⟩
 ·intro x hx ho
  obtain⟨h1,h2⟩:=a.same x hx ho
  obtain⟨h3,h4⟩:=b.same x (Nat.lt_of_lt_of_le hx a.size) h2
  exact⟨h3.trans h1,h4⟩
 ·intro id o h f
  obtain⟨⟨o',h',f'⟩,e⟩:=a.fixed id o h f
  obtain⟨h2,e'⟩:=b.fixed id o' h' f'
  exact⟨h2,e'.trans e⟩
 ·intro id fz sz els h
  obtain⟨fz',els',h',l,e⟩:=a.row id fz sz els h
  obtain⟨fz'',els'',h'',l',e'⟩:=b.row id fz' sz els' h'
  exact⟨fz'',els'',h'',Nat.le_trans l l',fun q=>(e' (by omega)).trans (e (by omega))⟩
theorem SK{w:World}{b o:Nat}{v:Value}(h:w.cell? ⟨b,o,none⟩=some v):b<w.heap.size:=by
 refine Nat.lt_of_not_le fun hn=> ?_
 simp only[World.cell?]at h
 rw[Array.getElem?_eq_none hn]at h
 cases h
theorem Im{w w':World}{b o:Nat}(h:w'.heap[b]? =w.heap[b]?):w'.cell? ⟨b,o,none⟩=w.cell? ⟨b,o,none⟩:=by
 simp only[World.cell?,h]
theorem CO.same{w w':World}{b base:Nat}{vs:List Value}(h:w'.heap[b]? =w.heap[b]?)(x:CO w b base vs):CO w' b base vs:=
 fun j v e=>by rw[Im h];exact x j v e
mutual
theorem DT.ext{C D:Cy}(X:Gd C D): ∀{a:AV} {v:Value},DT C a v→DT D a v
 | .b _,_,h=>h
 | .i _ _,_,h=>h
 | .s _,_,h=>h
 | .agg _,_,⟨vs,e,s,h⟩=>⟨vs,e,s,AW.ext X h⟩
 | .tup _,_,⟨vs,e,h⟩=>⟨vs,e,AW.ext X h⟩
 | .nilp,_,h=>h
 | .ptr _ _,_,⟨⟨o,h,f⟩,e⟩=>by
  obtain⟨h',e'⟩:=X.fixed _ o h f
  exact⟨h',by rw[e'];exact e⟩
 | .pe _ _ _ _,_,⟨q0,fz,sz,els,h,l,e⟩=>by
  obtain⟨fz',els',h',l',e'⟩:=X.row _ fz sz els h
  exact⟨q0,fz',sz,els',h',by omega,fun q=>by rw[e' (by omega)];exact e (by omega)⟩
 | .ip _ _,_,⟨b,base,vs,e,lt,ho,hh,s,r⟩=>by
  obtain⟨h1,h2⟩:=X.same b lt ho
  exact⟨b,base,vs,e,Nat.lt_of_lt_of_le lt X.size,h2,hh.same h1,s,AW.ext X r⟩
 | .nils,_,h=>h
 | .sl _ _,_, .inr h=> .inr h
 | .sl _ _,_, .inl ⟨b,base,cap,vss,e,l,lt,ho,hh,s,r⟩=>by
  obtain⟨h1,h2⟩:=X.same b lt ho
  exact .inl ⟨b,base,cap,vss,e,l,Nat.lt_of_lt_of_le lt X.size,h2,hh.same h1,s,AS.ext X r⟩
 | .orow _ _ _ _,_,⟨q0,fz,sz,els,h,l,e⟩=>by
  obtain⟨fz',els',h',l',e'⟩:=X.row _ fz sz els h
  exact⟨q0,fz',sz,els',h',by omega,fun q=>by rw[e' (by omega)];exact e (by omega)⟩
 | .ocel _ _ _ _,_,⟨⟨o,h,f⟩,e⟩=>by
  obtain⟨h',e'⟩:=X.fixed _ o h f
  exact⟨h',by rw[e'];exact e⟩
 | .nilm,_,h=>h
 | .mp _,_,⟨⟨o,h,f⟩,e⟩=>by
  obtain⟨h',e'⟩:=X.fixed _ o h f
  exact⟨h',by rw[e'];exact e⟩
 | .nilf,_,h=>h
 | .fn _ _ _,_,⟨x,y,e,h1,h2⟩=>⟨x,y,e,AW.ext X h1,AW.ext X h2⟩
 | .nili,_,h=>h
 | .ifc _ _,_,⟨u,x,e,h⟩=>⟨u,x,e,DT.ext X h⟩
 | .junk,_,_=>trivial
theorem AW.ext{C D:Cy}(X:Gd C D): ∀{l:List AV} {vs:List Value},AW C l vs→AW D l vs
 |[],_,h=>h
 |_::_,_,⟨v,q,e,h,r⟩=>⟨v,q,e,DT.ext X h,AW.ext X r⟩
theorem AS.ext{C D:Cy}(X:Gd C D): ∀{l:List (List AV)} {vs:List (List Value)},AS C l vs→AS D l vs
 |[],_,h=>h
 |_::_,_,⟨v,q,e,h,r⟩=>⟨v,q,e,AW.ext X h,AS.ext X r⟩
end
theorem Iy{tb:Ce}{C D:Cy}(I:Inv tb C)(X:Gd C D): ∀g∈tb.it,¬D.own g∧ ∃m:Int,D.w.cell? ⟨g,0,none⟩=some (.int .i64 m):=by
 intro g hg
 obtain⟨h1,m,h2⟩:=I.it g hg
 obtain⟨h3,h4⟩:=X.same g (SK h2) h1
 exact⟨h4,m,by rw[Im h3];exact h2⟩
def Cy.cut(C:Cy)(n:Nat):Cy:=⟨C.φ,C.H.take n,C.w⟩
theorem J6{C:Cy}{n id:Nat}(h:id<n):(C.cut n).H[id]? =C.H[id]? :=by
 simp only[Cy.cut];rw[List.getElem?_take];simp[h]
theorem Q4{C:Cy}{n id:Nat}(h:id<n):rowAt (C.cut n).H id=rowAt C.H id:=by
 simp only[rowAt,J6 h]
theorem FG{H:A3}{id:Nat}{fz:Bool}{sz:Nat}{els:List (List AV)}(h:rowAt H id=some (fz,sz,els)): ∃t,H[id]? =some (.row t fz sz els)∧CN H id=t:=by
 simp only[rowAt]at h
 split at h
 ·rename_i t fz' sz' els' e
  cases h
  exact⟨t,e,by simp only[CN,e]⟩
 ·cases h
theorem LJ{H:A3}{id:Nat}{cs:List AV}(h:BD H id=some cs): ∃t,H[id]? =some (.cells t cs)∧CN H id=t:=by
 simp only[BD]at h
 split at h
 ·rename_i t cs' e
  cases h
  exact⟨t,e,by simp only[CN,e]⟩
 ·cases h
theorem Vf{H G:A3}{id:Nat}(h:G[id]? =H[id]?):rowAt G id=rowAt H id:=by simp only[rowAt,h]
theorem Sz{H:A3}{id:Nat}{t:Option Nat}{fz:Bool}{sz:Nat}{els:List (List AV)}(h:H[id]? =some (.row t fz sz els)):rowAt H id=some (fz,sz,els):=by
 simp only[rowAt,h]
theorem J5{C:Cy}{n b:Nat}(h: ¬C.own b): ¬(C.cut n).own b:=by
 rintro⟨id,hl,e⟩
 exact h ⟨id,by simp only[Cy.cut,List.length_take]at hl;omega,e⟩
mutual
theorem DT.cut{C:Cy}{n:Nat}: ∀{a:AV} {v:Value},B8 a≤n→DT C a v→DT (C.cut n) a v
 | .b _,_,_,h=>h
 | .i _ _,_,_,h=>h
 | .s _,_,_,h=>h
 | .agg _,_,m,⟨vs,e,s,h⟩=>⟨vs,e,s,AW.cut (by simpa [B8]using m) h⟩
 | .tup _,_,m,⟨vs,e,h⟩=>⟨vs,e,AW.cut (by simpa [B8]using m) h⟩
 | .nilp,_,_,h=>h
 | .ptr _ _,_,m,⟨⟨o,h,f⟩,e⟩=>⟨⟨o,by rw[J6 (by simp only[B8]at m;omega)];exact h,f⟩,e⟩
 | .pe _ _ _ _,_,m,⟨q0,fz,sz,els,h,l,e⟩=>⟨q0,fz,sz,els,by rw[Q4 (by simp only[B8]at m;omega)];exact h,l,e⟩
 | .ip _ _,_,m,⟨b,base,vs,e,lt,ho,hh,s,r⟩=>⟨b,base,vs,e,lt,J5 ho,hh,s,AW.cut (by simpa [B8]using m) r⟩
 | .nils,_,_,h=>h
 | .sl _ _,_,_, .inr h=> .inr h
 | .sl _ _,_,m, .inl ⟨b,base,cap,vss,e,l,lt,ho,hh,s,r⟩=> .inl ⟨b,base,cap,vss,e,l,lt,J5 ho,hh,s,AS.cut (by simpa [B8]using m) r⟩
 | .orow _ _ _ _,_,m,⟨q0,fz,sz,els,h,l,e⟩=>⟨q0,fz,sz,els,by rw[Q4 (by simp only[B8]at m;omega)];exact h,l,e⟩
 | .ocel _ _ _ _,_,m,⟨⟨o,h,f⟩,e⟩=>⟨⟨o,by rw[J6 (by simp only[B8]at m;omega)];exact h,f⟩,e⟩
 | .nilm,_,_,h=>h
 | .mp _,_,m,⟨⟨o,h,f⟩,e⟩=>⟨⟨o,by rw[J6 (by simp only[B8]at m;omega)];exact h,f⟩,e⟩
 | .nilf,_,_,h=>h
 | .fn _ _ _,_,m,⟨x,y,e,h1,h2⟩=>⟨x,y,e,AW.cut (by simp only[B8]at m;omega) h1,AW.cut (by simp only[B8]at m;omega) h2⟩
 | .nili,_,_,h=>h
 | .ifc _ _,_,m,⟨u,x,e,h⟩=>⟨u,x,e,DT.cut (by simpa [B8]using m) h⟩
 | .junk,_,_,_=>trivial
theorem AW.cut{C:Cy}{n:Nat}: ∀{l:List AV} {vs:List Value},Bl l≤n→AW C l vs→AW (C.cut n) l vs
 |[],_,_,h=>h
 |_::_,_,m,⟨v,q,e,h,r⟩=>⟨v,q,e,DT.cut (by simp only[Bl]at m;omega) h,AW.cut (by simp only[Bl]at m;omega) r⟩
theorem AS.cut{C:Cy}{n:Nat}: ∀{l:List (List AV)} {vs:List (List Value)},C1 l≤n→AS C l vs→AS (C.cut n) l vs
 |[],_,_,h=>h
 |_::_,_,m,⟨v,q,e,h,r⟩=>⟨v,q,e,AW.cut (by simp only[C1]at m;omega) h,AS.cut (by simp only[C1]at m;omega) r⟩
end
theorem AW.length{C:Cy}: ∀{l:List AV} {vs:List Value},AW C l vs→vs.length=l.length
 |[],_,h=>by rw[show _=[]from h];rfl
 |_::_,_,⟨v,q,e,_,r⟩=>by rw[e];simp[AW.length r]
theorem AS.length{C:Cy}: ∀{l:List (List AV)} {vs:List (List Value)},AS C l vs→vs.length=l.length
 |[],_,h=>by rw[show _=[]from h];rfl
 |_::_,_,⟨v,q,e,_,r⟩=>by rw[e];simp[AS.length r]
theorem AW.get{C:Cy}: ∀{l:List AV} {vs:List Value} {i:Nat} {a:AV},AW C l vs→l[i]? =some a→ ∃v,vs[i]? =some v∧DT C a v
 |[],_,_,_,_,h=>by simp at h
 |x::l,_,0,a,⟨v,q,e,h,r⟩,g=>by
  simp at g;subst g;exact⟨v,by rw[e];rfl,h⟩
 |x::l,_,i+1,a,⟨v,q,e,h,r⟩,g=>by
  obtain⟨u,h1,h2⟩:=AW.get r (i:=i) (a:=a) (by simpa using g)
  exact⟨u,by rw[e];simpa using h1,h2⟩
theorem AS.get{C:Cy}: ∀{l:List (List AV)} {vs:List (List Value)} {i:Nat} {a:List AV},AS C l vs→l[i]? =some a→ ∃v,vs[i]? =some v∧AW C a v
 |[],_,_,_,_,h=>by simp at h
 |x::l,_,0,a,⟨v,q,e,h,r⟩,g=>by
  simp at g;subst g;exact⟨v,by rw[e];rfl,h⟩
 |x::l,_,i+1,a,⟨v,q,e,h,r⟩,g=>by
  obtain⟨u,h1,h2⟩:=AS.get r (i:=i) (a:=a) (by simpa using g)
  exact⟨u,by rw[e];simpa using h1,h2⟩
theorem AW.app{C:Cy}: ∀{l m:List AV} {vs us:List Value},AW C l vs→AW C m us→AW C (l++m) (vs++us)
 |[],_,_,_,h,g=>by rw[show _=[]from h];exact g
 |_::_,_,_,_,⟨v,q,e,h,r⟩,g=>⟨v,q++_,by rw[e];rfl,h,AW.app r g⟩
theorem AS.app{C:Cy}: ∀{l m:List (List AV)} {vs us:List (List Value)},AS C l vs→AS C m us→AS C (l++m) (vs++us)
 |[],_,_,_,h,g=>by rw[show _=[]from h];exact g
 |_::_,_,_,_,⟨v,q,e,h,r⟩,g=>⟨v,q++_,by rw[e];rfl,h,AS.app r g⟩
theorem AW.drop{C:Cy}: ∀{n:Nat} {l:List AV} {vs:List Value},AW C l vs→AW C (l.drop n) (vs.drop n)
 |0,_,_,h=>h
 |n+1,[],_,h=>by rw[show _=[]from h];simp[AW]
 |n+1,_::_,_,⟨v,q,e,h,r⟩=>by rw[e];simpa using AW.drop (n:=n) r
theorem AW.take{C:Cy}: ∀{n:Nat} {l:List AV} {vs:List Value},AW C l vs→AW C (l.take n) (vs.take n)
 |0,_,_,_=>by simp[AW]
 |n+1,[],_,h=>by rw[show _=[]from h];simp[AW]
 |n+1,_::_,_,⟨v,q,e,h,r⟩=>by rw[e];exact⟨v,q.take n,rfl,h,AW.take r⟩
theorem AS.drop{C:Cy}: ∀{n:Nat} {l:List (List AV)} {vs:List (List Value)},AS C l vs→AS C (l.drop n) (vs.drop n)
 |0,_,_,h=>h
 |n+1,[],_,h=>by rw[show _=[]from h];simp[AS]
 |n+1,_::_,_,⟨v,q,e,h,r⟩=>by rw[e];simpa using AS.drop (n:=n) r
theorem AS.take{C:Cy}: ∀{n:Nat} {l:List (List AV)} {vs:List (List Value)},AS C l vs→AS C (l.take n) (vs.take n)
 |0,_,_,_=>by simp[AS]
 |n+1,[],_,h=>by rw[show _=[]from h];simp[AS]
 |n+1,_::_,_,⟨v,q,e,h,r⟩=>by rw[e];exact⟨v,q.take n,rfl,h,AS.take r⟩
theorem AS.flat{C:Cy}: ∀{l:List (List AV)} {vs:List (List Value)},AS C l vs→AW C l.flatten vs.flatten
 |[],_,h=>by rw[show _=[]from h];simp[AW]
 |_::_,_,⟨v,q,e,h,r⟩=>by rw[e];exact AW.app h (AS.flat r)
theorem AS.set{C:Cy}{a:List AV}{v:List Value}(ha:AW C a v): ∀{l:List (List AV)} {vs:List (List Value)} {i:Nat},AS C l vs→AS C (l.set i a) (vs.set i v)
 |[],_,_,h=>by rw[show _=[]from h];simp[AS]
 |_::_,_,0,⟨_,q,e,_,r⟩=>by rw[e];exact⟨v,q,rfl,ha,r⟩
 |_::_,_,i+1,⟨u,q,e,h,r⟩=>by rw[e];exact⟨u,q.set i v,rfl,h,AS.set ha r⟩
theorem AW.set{C:Cy}{a:AV}{v:Value}(ha:DT C a v): ∀{l:List AV} {vs:List Value} {i:Nat},AW C l vs→AW C (l.set i a) (vs.set i v)
 |[],_,_,h=>by rw[show _=[]from h];simp[AW]
 |_::_,_,0,⟨_,q,e,_,r⟩=>by rw[e];exact⟨v,q,rfl,ha,r⟩
 |_::_,_,i+1,⟨u,q,e,h,r⟩=>by rw[e];exact⟨u,q.set i v,rfl,h,AW.set ha r⟩
theorem AS.lens{C:Cy}{sz:Nat}: ∀{l:List (List AV)} {vs:List (List Value)},(∀x∈l,x.length=sz)→AS C l vs→ ∀v∈vs,v.length=sz
 |[],_,_,h,v,hv=>by rw[show _=[]from h]at hv;cases hv
 |x::_,_,g,⟨u,q,e,h,r⟩,v,hv=>by
  rw[e]at hv
  rcases List.mem_cons.1 hv with e'|hv
  ·rw[e',h.length];exact g x List.mem_cons_self
  ·exact AS.lens (fun y hy=>g y (List.mem_cons_of_mem _ hy)) r v hv
theorem Inv.cut{tb:Ce}{C:Cy}{n:Nat}(I:Inv tb C)(m:CB (C.H.take n)≤n)(hg: ∀g cs,tb.gl g=some cs→Bl cs=0):Inv tb (C.cut n):=by
 have Zp: ∀(l:A3) (o:Ca),o∈l→EA o≤CB l:=by
  intro l
  induction l with
  |nil=>intro o h;cases h
  |cons x l ih=>
   intro o h
   simp only[CB]
   rcases List.mem_cons.1 h with e|h
   ·subst e;omega
   ·have:=ih o h;omega
 have hl: ∀i,i<(C.cut n).H.length→i<C.H.length:=fun i h=>by simp only[Cy.cut,List.length_take]at h;omega
 refine⟨?_,fun i j hi hj e=>I.inj i j (hl i hi) (hl j hj) e,fun i hi=>I.lt i (hl i hi),?_,fun g h=>⟨J5 (I.it g h).1,(I.it g h).2⟩⟩
 ·intro id o h
  have hm:EA o≤n:=Nat.le_trans (Zp _ o (List.mem_of_getElem? h)) m
  have hid:id<n:=by
   rcases Nat.lt_or_ge id n with h'|h'
   ·exact h'
   ·simp only[Cy.cut]at h;rw[List.getElem?_take]at h;simp[Nat.not_lt.2 h']at h
  rw[J6 hid]at h
  have x:=I.obj id o h
  cases o with
  |cells t cs=>
   obtain⟨vs,arr,e,fr,h1,h2,h3,h4,h5⟩:=x
   exact⟨vs,arr,e,fr,h1,h2,h3,AW.cut hm h4,h5⟩
  |row t fz sz els=>
   obtain⟨vss,arr,e,fr,h1,h2,h3,h4,h5,h6⟩:=x
   exact⟨vss,arr,e,fr,h1,h2,h3,h4,AS.cut hm h5,h6⟩
  |map es=>
   obtain⟨ms,c,h1,h2,h3⟩:=x
   simp only[EA]at hm
   exact⟨ms,c,h1,AW.cut (by omega) h2,AW.cut (by omega) h3⟩
  |iter l pos=>exact x
 ·intro g cs h
  obtain⟨h1,h2,h3,vs,h4,h5⟩:=I.gl g cs h
  exact⟨h1,J5 h2,h3,vs,h4,AW.cut (by rw[hg g cs h];omega) h5⟩
theorem Gd.cut{C D:Cy}{n:Nat}(X:Gd C D)(h:C.H.length≤n):Gd C (D.cut n):=by
 have lt: ∀{id:Nat} {o:Ca},C.H[id]? =some o→id<n:=fun{id o} e=>by
  have:=(List.getElem?_eq_some_iff.1 e).1;omega
 refine⟨X.rest,X.size,by simp only[Cy.cut,List.length_take];have:=X.len;omega,fun b hb ho=>⟨(X.same b hb ho).1,J5 (X.same b hb ho).2⟩,?_,?_⟩
 ·intro id o e f
  obtain⟨⟨o',h',f'⟩,e'⟩:=X.fixed id o e f
  exact⟨⟨o',by rw[J6 (lt e)];exact h',f'⟩,e'⟩
 ·intro id fz sz els e
  obtain⟨fz',els',h',r⟩:=X.row id fz sz els e
  obtain⟨t,e',_⟩:=FG e
  exact⟨fz',els',by rw[Q4 (lt e')];exact h',r⟩
theorem Ii{w w':World}{b o:Nat}(h:w'.heap[b]? =w.heap[b]?):w'.frozen? ⟨b,o,none⟩=w.frozen? ⟨b,o,none⟩:=by
 simp only[World.frozen?,h]
theorem Obj.ext{C D:Cy}(X:Gd C D){p:Place}{o:Ca}(h:D.w.heap[p.blk]? =C.w.heap[p.blk]?)(x:Obj C p o):Obj D p o:=by
 cases o with
 |cells t cs=>
  obtain⟨vs,arr,e,fr,h1,h2,h3,h4,h5,h6⟩:=x
  exact⟨vs,arr,e,fr,⟨h.trans h1.1,h1.2⟩,h2,h3,AW.ext X h4,h5.same h,fun o ho=>by rw[Ii h];exact h6 o ho⟩
 |row t fz sz els=>
  obtain⟨vss,arr,e,fr,h1,h2,h3,h4,h5,h6,h7,h8,h9⟩:=x
  exact⟨vss,arr,e,fr,⟨h.trans h1.1,h1.2⟩,h2,h3,h4,AS.ext X h5,h6,h7.same h,fun f o ho=>by rw[Ii h];exact h8 f o ho,fun f o ho hs=>by rw[Ii h];exact h9 f o ho hs⟩
 |map es=>
  obtain⟨ms,c,h1,h2,h3⟩:=x
  exact⟨ms,c,h.trans h1,AW.ext X h2,AW.ext X h3⟩
 |iter l pos=>exact h.trans x
theorem Bj{α:Type}{l:List α}{i:Nat}{x:α}(h:l[i]? =some x):i<l.length:=(List.getElem?_eq_some_iff.1 h).1
theorem XJ{tb:Ce}{C D:Cy}(I:Inv tb C)(hrest:Rest C.w D.w){id:Nat}{o o':Ca}(ho:C.H[id]? =some o)(hH:D.H=C.H.set id o')(hφ: ∀j,j≠id→D.φ j=C.φ j)
  (hs:C.w.heap.size≤D.w.heap.size) (hw: ∀b,b<C.w.heap.size→b≠(C.φ id).blk→D.w.heap[b]? =C.w.heap[b]?)
  (hb:(D.φ id).blk=(C.φ id).blk∨(C.w.heap.size≤(D.φ id).blk∧(D.φ id).blk<D.w.heap.size))
  (hf:Kx o=true→Kx o'=true∧D.φ id=C.φ id)
  (hr: ∀t fz sz els,o= .row t fz sz els→ ∃t' fz' els',o'= .row t' fz' sz els'∧els.length≤els'.length∧(els.length=els'.length→D.φ id=C.φ id)):
  Gd C D∧(Obj D (D.φ id) o'→Inv tb D):=by
 have hid:=Bj ho
 have hlen:D.H.length=C.H.length:=by rw[hH];simp
 have get: ∀j,j≠id→D.H[j]? =C.H[j]? :=fun j hj=>by rw[hH,List.getElem?_set_ne (Ne.symm hj)]
 have geti:D.H[id]? =some o':=by rw[hH,List.getElem?_set_self hid]
 have hown: ∀b,b<C.w.heap.size→ ¬C.own b→ ¬D.own b:=by
  rintro b hlt hn ⟨j,hj,e⟩
  by_cases hji:j=id
  ·subst hji
   rcases hb with h|h
   ·exact hn ⟨j,hid,by rw[←h];exact e⟩
   ·omega
  ·exact hn ⟨j,by omega,by rw[←hφ j hji];exact e⟩
 have X:Gd C D:=by
  refine⟨hrest,hs,by omega,fun b hlt hn=>⟨hw b hlt fun e=>hn ⟨id,hid,e.symm⟩,hown b hlt hn⟩,?_,?_⟩
  ·intro j x hj hx
   by_cases hji:j=id
   ·subst hji
    rw[ho]at hj
    obtain rfl:=Option.some.inj hj
    exact⟨⟨o',geti,(hf hx).1⟩,(hf hx).2⟩
   ·exact⟨⟨x,by rw[get j hji];exact hj,hx⟩,hφ j hji⟩
  ·intro j fz sz els hj
   by_cases hji:j=id
   ·subst hji
    obtain⟨t,hj,_⟩:=FG hj
    rw[ho]at hj
    obtain⟨t',fz',els',h1,h2,h3⟩:=hr t fz sz els (Option.some.inj hj)
    exact⟨fz',els',Sz (t:=t') (by rw[geti,h1]),h2,h3⟩
   ·exact⟨fz,els,by rw[Vf (get j hji)];exact hj,Nat.le_refl _,fun _=>hφ j hji⟩
 refine⟨X,fun ob=>⟨?_,?_,?_,?_,?_⟩⟩
 ·intro j x hj
  by_cases hji:j=id
  ·subst hji
   rw[geti]at hj
   obtain rfl:=Option.some.inj hj
   exact ob
  ·rw[get j hji]at hj
   rw[hφ j hji]
   have hjl:=Bj hj
   exact Obj.ext X (hw _ (I.lt j hjl) fun e=>hji (I.inj j id hjl hid e)) (I.obj j x hj)
 ·intro i j hi hj e
  rw[hlen]at hi hj
  by_cases hii:i=id<;>by_cases hji:j=id
  ·rw[hii,hji]
  ·subst hii
   rw[hφ j hji]at e
   rcases hb with h|h
   ·exact I.inj i j hi hj (h.symm.trans e)
   ·have:=I.lt j hj;omega
  ·subst hji
   rw[hφ i hii]at e
   rcases hb with h|h
   ·exact I.inj i j hi hj (e.trans h)
   ·have:=I.lt i hi;omega
  ·rw[hφ i hii,hφ j hji]at e
   exact I.inj i j hi hj e
 ·intro i hi
  rw[hlen]at hi
  by_cases hii:i=id
  ·subst hii
   rcases hb with h|h
   ·rw[h];exact Nat.lt_of_lt_of_le (I.lt i hi) hs
   ·exact h.2
  ·rw[hφ i hii];exact Nat.lt_of_lt_of_le (I.lt i hi) hs
 ·intro g cs hg
  obtain⟨h1,h2,h3,vs,h4,h5⟩:=I.gl g cs hg
  obtain⟨h6,h7⟩:=X.same g h1 h2
  exact⟨Nat.lt_of_lt_of_le h1 hs,h7,h3,vs,h4.same h6,AW.ext X h5⟩
 ·exact Iy I X
def Cy.more(C:Cy)(p:Place)(o:Ca)(w:World):Cy:=⟨fun j=>if j=C.H.length then p else C.φ j,C.H++[o],w⟩
theorem more{tb:Ce}{C:Cy}(I:Inv tb C){p:Place}{o:Ca}{w:World}(hrest:Rest C.w w)(hs:C.w.heap.size<w.heap.size)(hp:p.blk=C.w.heap.size)
  (hw: ∀b,b<C.w.heap.size→w.heap[b]? =C.w.heap[b]?):Gd C (C.more p o w)∧(Obj (C.more p o w) p o→Inv tb (C.more p o w))∧(C.more p o w).φ C.H.length=p:=by
 have hφ: ∀j,j<C.H.length→(C.more p o w).φ j=C.φ j:=fun j hj=>if_neg (by omega)
 have hφn:(C.more p o w).φ C.H.length=p:=if_pos rfl
 have hlen:(C.more p o w).H.length=C.H.length+1:=by simp[Cy.more]
 have get: ∀j,j<C.H.length→(C.more p o w).H[j]? =C.H[j]? :=fun j hj=>List.getElem?_append_left hj
 have getn:(C.more p o w).H[C.H.length]? =some o:=by simp[Cy.more]
 have X:Gd C (C.more p o w):=by
  refine⟨hrest,Nat.le_of_lt hs,by omega,fun b hlt hn=>⟨hw b hlt,?_⟩,?_,?_⟩
  ·rintro⟨j,hj,e⟩
   rw[hlen]at hj
   by_cases hji:j=C.H.length
   ·subst hji;rw[hφn,hp]at e;omega
   ·rw[hφ j (by omega)]at e;exact hn ⟨j,by omega,e⟩
  ·intro j x hj hx
   have:=Bj hj
   exact⟨⟨x,by rw[get j this];exact hj,hx⟩,hφ j this⟩
  ·intro j fz sz els hj
   obtain⟨t,hj',_⟩:=FG hj
   have:=Bj hj'
   exact⟨fz,els,by rw[Vf (get j this)];exact hj,Nat.le_refl _,fun _=>hφ j this⟩
 refine⟨X,fun ob=>⟨?_,?_,?_,?_,?_⟩,hφn⟩
 ·intro j x hj
  have:=Bj hj
  rw[hlen]at this
  by_cases hji:j=C.H.length
  ·subst hji
   rw[getn]at hj
   obtain rfl:=Option.some.inj hj
   rw[hφn]
   exact ob
  ·have hl:j<C.H.length:=by omega
   rw[get j hl]at hj
   rw[hφ j hl]
   exact Obj.ext X (hw _ (I.lt j hl)) (I.obj j x hj)
 ·intro i j hi hj e
  rw[hlen]at hi hj
  by_cases hii:i=C.H.length<;>by_cases hji:j=C.H.length
  ·rw[hii,hji]
  ·subst hii
   have hl:j<C.H.length:=by omega
   rw[hφ j hl,hφn,hp]at e
   have:=I.lt j hl;omega
  ·subst hji
   have hl:i<C.H.length:=by omega
   rw[hφ i hl,hφn,hp]at e
   have:=I.lt i hl;omega
  ·rw[hφ i (by omega),hφ j (by omega)]at e
   exact I.inj i j (by omega) (by omega) e
 ·intro i hi
  rw[hlen]at hi
  by_cases hii:i=C.H.length
  ·subst hii;rw[hφn,hp];exact hs
  ·rw[hφ i (by omega)];exact Nat.lt_trans (I.lt i (by omega)) hs
 ·intro g cs hg
  obtain⟨h1,h2,h3,vs,h4,h5⟩:=I.gl g cs hg
  obtain⟨h6,h7⟩:=X.same g h1 h2
  exact⟨Nat.lt_trans h1 hs,h7,h3,vs,h4.same h6,AW.ext X h5⟩
 ·exact Iy I X
theorem drawn{tb:Ce}{C:Cy}(I:Inv tb C){w:World}(hrest:Rest C.w w)(hw:w.heap=C.w.heap):Gd C ⟨C.φ,C.H,w⟩∧Inv tb ⟨C.φ,C.H,w⟩:=by
 have X:Gd C ⟨C.φ,C.H,w⟩:=⟨hrest,by simp only[hw];omega,Nat.le_refl _,fun b _ hn=>⟨by simp only[hw],hn⟩,fun _ o h f=>⟨⟨o,h,f⟩,rfl⟩,fun _ fz _ els h=>⟨fz,els,h,Nat.le_refl _,fun _=>rfl⟩⟩
 refine⟨X,fun j x hj=>Obj.ext X (by simp only[hw]) (I.obj j x hj),I.inj,fun i hi=>by simp only[hw];exact I.lt i hi,?_,Iy I X⟩
 intro g cs hg
 obtain⟨h1,h2,h3,vs,h4,h5⟩:=I.gl g cs hg
 exact⟨by simp only[hw];exact h1,h2,h3,vs,h4.same (by simp only[hw]),AW.ext X h5⟩
theorem Zv{tb:Ce}{C:Cy}(I:Inv tb C){w:World}(hrest:Rest C.w w)(hs:C.w.heap.size≤w.heap.size)(hw: ∀b,b<C.w.heap.size→w.heap[b]? =C.w.heap[b]?):Gd C ⟨C.φ,C.H,w⟩∧Inv tb ⟨C.φ,C.H,w⟩:=by
 have X:Gd C ⟨C.φ,C.H,w⟩:=⟨hrest,hs,Nat.le_refl _,fun b hb hn=>⟨hw b hb,hn⟩,fun _ o h f=>⟨⟨o,h,f⟩,rfl⟩,fun _ fz _ els h=>⟨fz,els,h,Nat.le_refl _,fun _=>rfl⟩⟩
 refine⟨X,fun j x hj=>Obj.ext X (hw _ (I.lt j (Bj hj))) (I.obj j x hj),I.inj,fun i hi=>Nat.lt_of_lt_of_le (I.lt i hi) hs,?_,Iy I X⟩
 intro g cs hg
 obtain⟨h1,h2,h3,vs,h4,h5⟩:=I.gl g cs hg
 exact⟨Nat.lt_of_lt_of_le h1 hs,h2,h3,vs,h4.same (hw _ h1),AW.ext X h5⟩
end Go.Proofs.Ytapafbjgdfgodaa.Am
namespace Go.Proofs.Ytapafbjgdfgodaa.Am
theorem NE{h:A3}{n d:Nat}{v:AV}(hm:B8 v≤n):frz h n d v=some v:=by
 cases d<;>simp[frz,hm]
theorem Nv{h:A3}{n d:Nat}: ∀{l:List AV},Bl l≤n→Cz (frz h n d) l=some l
 |[],_=>rfl
 |v::l,hm=>by
  simp only[Bl]at hm
  simp only[Cz,NE (show B8 v≤n by omega),Option.bind_some,Nv (show Bl l≤n by omega),Option.map_some]
theorem DL: ∀(a b:List AV),Bl (a++b)=max (Bl a) (Bl b)
 |[],b=>by simp[Bl]
 |x::a,b=>by simp only[List.cons_append,Bl,DL a b];omega
theorem Ie{α:Type}{F:α→Option α}: ∀{a b a' b':List α},Cz F a=some a'→Cz F b=some b'→Cz F (a++b)=some (a'++b')
 |[],b,a',b',h,g=>by simp only[Cz,Option.some.injEq]at h;subst h;exact g
 |x::a,b,a',b',h,g=>by
  simp only[Cz]at h
  obtain⟨y,hy,h⟩:=Option.bind_eq_some_iff.1 h
  obtain⟨l,hl,rfl⟩:=Option.map_eq_some_iff.1 h
  simp only[List.cons_append,Cz,hy,Option.bind_some,Ie hl g,Option.map_some]
structure T where
 α:Type
 sz:Nat
 agg:Bool
 dep:Nat
 R:(Nat→Prop)→A3→List AV→α→Prop
 zc:List AV
 z:α
 hz: ∀(P:Nat→Prop) (H:A3),R P H zc z
 one:agg=false→sz=1
 len: ∀{P:Nat→Prop} {H:A3} {cs:List AV} {x:α},R P H cs x→cs.length=sz
 sca: ∀{P:Nat→Prop} {H:A3} {cs:List AV} {x:α},R P H cs x→cs.all scal=true
 men: ∀{P:Nat→Prop} {H:A3} {cs:List AV} {x:α} {m:Nat},R P H cs x→(∀i,P i→i<m)→Bl cs≤m
 mono: ∀{P Q:Nat→Prop} {H G:A3} {cs:List AV} {x:α},(∀i,P i→Q i∧G[i]? =H[i]?)→R P H cs x→R Q G cs x
 cut: ∀{P Q:Nat→Prop} {H:A3} {cs:List AV} {x:α} {n:Nat},R P H cs x→Bl cs≤n→CB (H.take n)≤n→(∀i,P i→i<n→Q i)→R Q (H.take n) cs x
 frz: ∀{P Q:Nat→Prop} {H:A3} {cs:List AV} {x:α} {n d:Nat},R P H cs x→dep≤d→d≤20→CB (H.take n)≤n→(∀i,P i→i<n→Q i)→ ∃cs',Cz (frz H n d) cs=some cs'∧R Q (H.take n) cs' x
def T.V(t:T)(P:Nat→Prop)(H:A3)(v:AV)(x:t.α):Prop:=(t.agg=true∧ ∃cs,v= .agg cs∧t.R P H cs x)∨(t.agg=false∧t.R P H [v] x)
section
variable{t:T}{P Q:Nat→Prop}{H G:A3}
theorem Gu{v:AV}(h:scal v=true):cellsOf v=[v]:=by
 cases v<;>simp[scal]at h<;>rfl
theorem T.V.cells{v:AV}{x:t.α}(h:t.V P H v x):t.R P H (cellsOf v) x:=by
 rcases h with ⟨_,cs,rfl,h⟩|⟨_,h⟩
 ·exact h
 ·have:=t.sca h
  simp only[List.all_cons,List.all_nil,Bool.and_true]at this
  rw[Gu this];exact h
theorem T.V.of{cs:List AV}{x:t.α}(h:t.R P H cs x): ∃v,HO t.agg cs=some v∧t.V P H v x:=by
 cases ha:t.agg with
 |true=>exact⟨.agg cs,by simp[HO], .inl ⟨ha,cs,rfl,h⟩⟩
 |false=>
  have:=t.len h
  rw[t.one ha]at this
  match cs,this with
  |[v],_=>exact⟨v,rfl, .inr ⟨ha,h⟩⟩
theorem T.V.mono{v:AV}{x:t.α}(m: ∀i,P i→Q i∧G[i]? =H[i]?)(h:t.V P H v x):t.V Q G v x:=by
 rcases h with ⟨a,cs,rfl,h⟩|⟨a,h⟩
 ·exact .inl ⟨a,cs,rfl,t.mono m h⟩
 ·exact .inr ⟨a,t.mono m h⟩
theorem T.V.men{v:AV}{x:t.α}{m:Nat}(h:t.V P H v x)(hp: ∀i,P i→i<m):B8 v≤m:=by
 rcases h with ⟨a,cs,rfl,h⟩|⟨a,h⟩
 ·simpa [B8]using t.men h hp
 ·simpa [Bl]using t.men h hp
theorem T.V.frz{v:AV}{x:t.α}{n d:Nat}(h:t.V P H v x)(hd:t.dep≤d)(h20:d+1≤20)(hw:CB (H.take n)≤n)(hp: ∀i,P i→i<n→Q i): ∃v',Am.frz H n (d+1) v=some v'∧t.V Q (H.take n) v' x:=by
 rcases h with ⟨a,cs,rfl,h⟩|⟨a,h⟩
 ·by_cases hm:Bl cs≤n
  ·exact⟨.agg cs,NE (by simpa [B8]using hm), .inl ⟨a,cs,rfl,t.cut h hm hw hp⟩⟩
  ·obtain⟨cs',e,r⟩:=t.frz h hd (by omega) hw hp
   exact⟨.agg cs',by simp[Am.frz,B8,hm,e], .inl ⟨a,cs',rfl,r⟩⟩
 ·obtain⟨cs',e,r⟩:=t.frz h (show t.dep≤d+1 by omega) h20 hw hp
  simp only[Cz]at e
  obtain⟨v',hv,e⟩:=Option.bind_eq_some_iff.1 e
  simp only[Option.map_some,Option.some.injEq]at e
  subst e
  exact⟨v',hv, .inr ⟨a,r⟩⟩
end
def OR(α:Type)(c:α→AV)(z:α)(hs: ∀x,scal (c x)=true)(hm: ∀x,B8 (c x)=0):T where
 α:=α
 sz:=1
 agg:=false
 dep:=0
 R:=fun _ _ cs x=>cs=[c x]
 zc:=[c z]
 z:=z
 hz:=fun _ _=>rfl
 one:=fun _=>rfl
 len:=fun h=>by rw[h];rfl
 sca:=fun{_ _ _ x} h=>by rw[h];simp[hs x]
 men:=fun{_ _ _ x _} h _=>by rw[h];simp[Bl,hm x]
 mono:=fun _ h=>h
 cut:=fun h _ _ _=>h
 frz:=fun{_ _ _ _ x _ _} h _ _ _ _=>⟨_,by rw[h,Nv (by simp[Bl,hm x])],rfl⟩
theorem Oq{α:Type}{c:α→AV}{z:α}{hs: ∀x,scal (c x)=true}{hm: ∀x,B8 (c x)=0}{P:Nat→Prop}{H:A3}{v:AV}{x:α}:(OR α c z hs hm).V P H v x↔v=c x:=by
 constructor
 ·rintro(⟨a,_⟩|⟨_,h⟩)
  ·cases a
  ·exact(List.cons.inj h).1
 ·rintro rfl
  exact .inr ⟨rfl,rfl⟩
def T.b:T:=OR Bool .b false (fun _=>rfl) (fun _=>rfl)
def T.int(k:IntKind):T:=OR Int (.i k) 0 (fun _=>rfl) (fun _=>rfl)
def T.u8:T:=OR UInt8 (fun x=> .i .u8 x.toNat) 0 (fun _=>rfl) (fun _=>rfl)
def T.u32:T:=OR UInt32 (fun x=> .i .u32 x.toNat) 0 (fun _=>rfl) (fun _=>rfl)
def T.u64:T:=OR UInt64 (fun x=> .i .u64 x.toNat) 0 (fun _=>rfl) (fun _=>rfl)
abbrev ZR:=List UInt8
def T.prod(a b:T):T where
 α:=a.α×b.α
 sz:=a.sz+b.sz
 agg:=true
 dep:=max a.dep b.dep
 R:=fun P H cs x=> ∃c d,cs=c++d∧a.R P H c x.1∧b.R P H d x.2
 zc:=a.zc++b.zc
 z:=(a.z,b.z)
 hz:=fun P H=>⟨_,_,rfl,a.hz P H,b.hz P H⟩
 one:=fun h=>by cases h
 len:=fun⟨c,d,e,h,g⟩=>by rw[e,List.length_append,a.len h,b.len g]
 sca:=fun⟨c,d,e,h,g⟩=>by rw[e,List.all_append,a.sca h,b.sca g];rfl
 men:=fun⟨c,d,e,h,g⟩ hp=>by rw[e,DL];have:=a.men h hp;have:=b.men g hp;omega
 mono:=fun m ⟨c,d,e,h,g⟩=>⟨c,d,e,a.mono m h,b.mono m g⟩
 cut:=fun⟨c,d,e,h,g⟩ hm hw hp=>by
  rw[e,DL]at hm
  exact⟨c,d,e,a.cut h (by omega) hw hp,b.cut g (by omega) hw hp⟩
 frz:=fun⟨c,d,e,h,g⟩ hd h20 hw hp=>by
  have hd':=Nat.max_le.1 hd
  obtain⟨c',h1,h2⟩:=a.frz h hd'.1 h20 hw hp
  obtain⟨d',g1,g2⟩:=b.frz g hd'.2 h20 hw hp
  exact⟨c'++d',by rw[e,Ie h1 g1],c',d',rfl,h2,g2⟩
def T.iso(t:T)(β:Type)(f:β→t.α)(g:t.α→β)(hfg: ∀y,f (g y)=y):T where
 α:=β
 sz:=t.sz
 agg:=true
 dep:=t.dep
 R:=fun P H cs y=>t.R P H cs (f y)
 zc:=t.zc
 z:=g t.z
 hz:=fun P H=>by rw[hfg];exact t.hz P H
 one:=fun h=>by cases h
 len:=t.len
 sca:=t.sca
 men:=t.men
 mono:=t.mono
 cut:=t.cut
 frz:=t.frz
def BE(t:T)(P:Nat→Prop)(H:A3):List (List AV)→List t.α→Prop
 |[],[]=>True
 |c::r,x::q=>t.R P H c x∧BE t P H r q
 |_,_=>False
section
variable{t:T}{P Q:Nat→Prop}{H G:A3}
theorem BE.length: ∀{l:List (List AV)} {xs:List t.α},BE t P H l xs→l.length=xs.length
 |[],[],_=>rfl
 |_::_,_::_,h=>by simp[BE.length h.2]
theorem BE.lens: ∀{l:List (List AV)} {xs:List t.α},BE t P H l xs→ ∀e∈l,e.length=t.sz
 |[],[],_,e,he=>by cases he
 |c::_,_::_,h,e,he=>by
  rcases List.mem_cons.1 he with rfl|he
  ·exact t.len h.1
  ·exact BE.lens h.2 e he
theorem BE.sca: ∀{l:List (List AV)} {xs:List t.α},BE t P H l xs→l.flatten.all scal=true
 |[],[],_=>rfl
 |c::_,_::_,h=>by rw[List.flatten_cons,List.all_append,t.sca h.1,BE.sca h.2];rfl
theorem Kq: ∀(l:List (List AV)),Bl l.flatten=C1 l
 |[]=>rfl
 |c::l=>by rw[List.flatten_cons,DL,Kq l,C1]
theorem BE.men{m:Nat}(hp: ∀i,P i→i<m): ∀{l:List (List AV)} {xs:List t.α},BE t P H l xs→C1 l≤m
 |[],[],_=>by simp[C1]
 |c::_,_::_,h=>by simp only[C1];have:=t.men h.1 hp;have:=BE.men hp h.2;omega
theorem BE.mono(m: ∀i,P i→Q i∧G[i]? =H[i]?): ∀{l:List (List AV)} {xs:List t.α},BE t P H l xs→BE t Q G l xs
 |[],[],_=>trivial
 |_::_,_::_,h=>⟨t.mono m h.1,BE.mono m h.2⟩
theorem BE.cut{n:Nat}(hw:CB (H.take n)≤n)(hp: ∀i,P i→i<n→Q i): ∀{l:List (List AV)} {xs:List t.α},BE t P H l xs→C1 l≤n→BE t Q (H.take n) l xs
 |[],[],_,_=>trivial
 |_::_,_::_,h,hm=>by
  simp only[C1]at hm
  exact⟨t.cut h.1 (by omega) hw hp,BE.cut hw hp h.2 (by omega)⟩
theorem BE.frz{n d:Nat}(hd:t.dep≤d)(h20:d≤20)(hw:CB (H.take n)≤n)(hp: ∀i,P i→i<n→Q i): ∀{l:List (List AV)} {xs:List t.α},BE t P H l xs→ ∃l',Cz (Cz (Am.frz H n d)) l=some l'∧BE t Q (H.take n) l' xs
 |[],[],_=>⟨[],rfl,trivial⟩
 |_::_,_::_,h=>by
  obtain⟨c',e,r⟩:=t.frz h.1 hd h20 hw hp
  obtain⟨l',e',r'⟩:=BE.frz hd h20 hw hp h.2
  exact⟨c'::l',by simp[Cz,e,e'],r,r'⟩
theorem BE.get: ∀{l:List (List AV)} {xs:List t.α} {i:Nat} {x:t.α},BE t P H l xs→xs[i]? =some x→ ∃c,l[i]? =some c∧t.R P H c x
 |[],[],_,_,_,h=>by simp at h
 |c::_,y::_,0,x,h,e=>by
  simp only[List.getElem?_cons_zero,Option.some.injEq]at e
  subst e
  exact⟨c,rfl,h.1⟩
 |c::_,y::_,i+1,x,h,e=>by
  simp only[List.getElem?_cons_succ]at e
  obtain⟨c',e',r⟩:=BE.get h.2 e
  exact⟨c',by simpa using e',r⟩
theorem BE.drop: ∀{n:Nat} {l:List (List AV)} {xs:List t.α},BE t P H l xs→BE t P H (l.drop n) (xs.drop n)
 |0,_,_,h=>h
 |_+1,[],[],_=>trivial
 |n+1,_::_,_::_,h=>by simpa using BE.drop (n:=n) h.2
theorem BE.take: ∀{n:Nat} {l:List (List AV)} {xs:List t.α},BE t P H l xs→BE t P H (l.take n) (xs.take n)
 |0,_,_,_=>by simp[BE]
 |_+1,[],[],_=>trivial
 |n+1,_::_,_::_,h=>by simp only[List.take_succ_cons];exact⟨h.1,BE.take (n:=n) h.2⟩
theorem BE.app: ∀{l m:List (List AV)} {xs ys:List t.α},BE t P H l xs→BE t P H m ys→BE t P H (l++m) (xs++ys)
 |[],_,[],_,_,g=>g
 |_::_,_,_::_,_,h,g=>⟨h.1,BE.app h.2 g⟩
theorem BE.set{c:List AV}{y:t.α}(hc:t.R P H c y): ∀{l:List (List AV)} {xs:List t.α} {i:Nat},BE t P H l xs→BE t P H (l.set i c) (xs.set i y)
 |[],[],_,_=>trivial
 |_::_,_::_,0,h=>⟨hc,h.2⟩
 |_::_,_::_,i+1,h=>⟨h.1,BE.set hc (i:=i) h.2⟩
theorem BE.rep{c:List AV}{y:t.α}(hc:t.R P H c y): ∀n,BE t P H (List.replicate n c) (List.replicate n y)
 |0=>trivial
 |n+1=>⟨hc,BE.rep hc n⟩
end
structure Ar(α:Type)(n:Nat) where
 l:List α
 len:l.length=n
theorem Ar.ext{α:Type}{n:Nat}: ∀{a b:Ar α n},a.l=b.l→a=b
 |⟨_,_⟩,⟨_,_⟩,rfl=>rfl
instance {α:Type} {n:Nat} [DecidableEq α]:DecidableEq (Ar α n):=fun a b=>if h:a.l=b.l then isTrue (Ar.ext h)else isFalse fun e=>h (by rw[e])
theorem Pv{sz:Nat}: ∀{l:List (List AV)},(∀e∈l,e.length=sz)→l.flatten.length=l.length*sz
 |[],_=>by simp
 |c::l,h=>by
  rw[List.flatten_cons,List.length_append,h c List.mem_cons_self,Pv fun e he=>h e (List.mem_cons_of_mem _ he),List.length_cons,Nat.succ_mul];omega
theorem Nw{α:Type}{F:α→Option α}: ∀{l l':List (List α)},Cz (Cz F) l=some l'→Cz F l.flatten=some l'.flatten
 |[],_,h=>by simp only[Cz,Option.some.injEq]at h;subst h;rfl
 |c::l,_,h=>by
  simp only[Cz]at h
  obtain⟨c',hc,h⟩:=Option.bind_eq_some_iff.1 h
  obtain⟨l',hl,rfl⟩:=Option.map_eq_some_iff.1 h
  exact Ie hc (Nw hl)
def A1(n:Nat)(t:T):T where
 α:=Ar t.α n
 sz:=n*t.sz
 agg:=true
 dep:=t.dep
 R:=fun P H cs x=> ∃css,cs=css.flatten∧BE t P H css x.l
 zc:=(List.replicate n t.zc).flatten
 z:=⟨List.replicate n t.z,by simp⟩
 hz:=fun P H=>⟨_,rfl,BE.rep (t.hz P H) n⟩
 one:=fun h=>by cases h
 len:=fun{_ _ _ x} ⟨css,e,h⟩=>by rw[e,Pv h.lens,h.length,x.len]
 sca:=fun⟨css,e,h⟩=>by rw[e];exact h.sca
 men:=fun⟨css,e,h⟩ hp=>by rw[e,Kq];exact h.men hp
 mono:=fun m ⟨css,e,h⟩=>⟨css,e,h.mono m⟩
 cut:=fun⟨css,e,h⟩ hm hw hp=>⟨css,e,h.cut hw hp (by rwa [e,Kq]at hm)⟩
 frz:=fun⟨css,e,h⟩ hd h20 hw hp=>by
  obtain⟨l',e',r⟩:=h.frz hd h20 hw hp
  exact⟨l'.flatten,by rw[e];exact Nw e',l',rfl,r⟩
inductive GS(α:Type) where
 |nil
 |mk (l:List α)
 deriving DecidableEq,Inhabited
def GS.l{α:Type}:GS α→List α
 | .nil=>[]
 | .mk l=>l
def GO(P:Nat→Prop):AV→Prop
 | .sl _ _=>True
 | .orow id _ _ _=>P id
 | .ocel _ id _ _=>P id
 |_=>False
def JY(t:T)(P:Nat→Prop)(H:A3)(v:AV):GS t.α→Prop
 | .nil=>v= .nils
 | .mk l=>GO P v∧ ∃els,Dg H t.sz v=some els∧BE t P H els l
theorem HY{H G:A3}{id:Nat}(h:G[id]? =H[id]?):rowAt G id=rowAt H id:=by simp only[rowAt,h]
theorem Il{H G:A3}{id:Nat}(h:G[id]? =H[id]?):BD G id=BD H id:=by simp only[BD,h]
section
variable{t:T}{P Q:Nat→Prop}{H G:A3}{v:AV}
theorem UA{sz:Nat}(m: ∀i,P i→Q i∧G[i]? =H[i]?)(h:GO P v):Dg G sz v=Dg H sz v:=by
 cases v<;>simp only[GO]at h<;>simp only[Dg]
 ·rw[HY (m _ h).2]
 ·rw[Il (m _ h).2]
theorem Tm(m: ∀i,P i→Q i)(h:GO P v):GO Q v:=by
 cases v<;>simp only[GO]at h ⊢
 ·exact m _ h
 ·exact m _ h
theorem JY.mono(m: ∀i,P i→Q i∧G[i]? =H[i]?): ∀{g:GS t.α},JY t P H v g→JY t Q G v g
 | .nil,h=>h
 | .mk _,⟨b,els,e,h⟩=>⟨Tm (fun i hi=>(m i hi).1) b,els,by rw[UA m b];exact e,h.mono m⟩
theorem JY.sca: ∀{g:GS t.α},JY t P H v g→scal v=true
 | .nil,h=>by rw[show v=_ from h];rfl
 | .mk _,⟨b,_,_,_⟩=>by cases v<;>simp only[GO]at b<;>rfl
theorem JY.men{m:Nat}(hp: ∀i,P i→i<m): ∀{g:GS t.α},JY t P H v g→B8 v≤m
 | .nil,h=>by rw[show v=_ from h];simp[B8]
 | .mk _,⟨b,els,e,h⟩=>by
  cases v<;>simp only[GO]at b
  ·simp only[Dg]at e
   split at e
   ·simp only[Option.some.injEq]at e
    subst e
    simpa [B8]using h.men hp
   ·cases e
  ·simp only[B8];exact hp _ b
  ·simp only[B8];exact hp _ b
theorem Nl{n id:Nat}(h:id<n):rowAt (H.take n) id=rowAt H id:=by
 simp only[rowAt];rw[List.getElem?_take];simp[h]
theorem La{n id:Nat}(h:id<n):BD (H.take n) id=BD H id:=by
 simp only[BD];rw[List.getElem?_take];simp[h]
theorem Po: ∀{l:A3} {o:Ca},o∈l→EA o≤CB l:=by
 intro l
 induction l with
 |nil=>intro o h;cases h
 |cons x l ih=>
  intro o h
  simp only[CB]
  rcases List.mem_cons.1 h with e|h
  ·subst e;omega
  ·have:=ih h;omega
theorem Mb: ∀(l:List (List AV)) (i:Nat),C1 (l.drop i)≤C1 l
 |[],i=>by simp
 |x::l,0=>by simp
 |x::l,i+1=>by simp only[List.drop_succ_cons,C1];have:=Mb l i;omega
theorem Ma: ∀(l:List (List AV)) (i:Nat),C1 (l.take i)≤C1 l
 |[],i=>by simp
 |x::l,0=>by simp[C1]
 |x::l,i+1=>by simp only[List.take_succ_cons,C1];have:=Ma l i;omega
theorem He: ∀(l:List AV) (i:Nat),Bl (l.drop i)≤Bl l
 |[],i=>by simp
 |x::l,0=>by simp
 |x::l,i+1=>by simp only[List.drop_succ_cons,Bl];have:=He l i;omega
theorem IV: ∀(l:List AV) (i:Nat),Bl (l.take i)≤Bl l
 |[],i=>by simp
 |x::l,0=>by simp[Bl]
 |x::l,i+1=>by simp only[List.take_succ_cons,Bl];have:=IV l i;omega
theorem IW(sz:Nat): ∀(n:Nat) (l:List AV),C1 (B6 sz n l)≤Bl l
 |0,_=>by simp[B6,C1]
 |n+1,l=>by
  simp only[B6,C1]
  have h1:=IV l sz
  have h2:=IW sz n (l.drop sz)
  have h3:=He l sz
  omega
theorem S1{n id:Nat}{r:Bool×Nat×List (List AV)}(hw:CB (H.take n)≤n)(h:id<n)(e:rowAt H id=some r):C1 r.2.2≤n:=by
 rw[←Nl h]at e
 simp only[rowAt]at e
 split at e
 ·rename_i fz sz els he
  cases e
  exact Nat.le_trans (Po (List.mem_of_getElem? he)) hw
 ·cases e
theorem Q9{n id:Nat}{cs:List AV}(hw:CB (H.take n)≤n)(h:id<n)(e:BD H id=some cs):Bl cs≤n:=by
 rw[←La h]at e
 simp only[BD]at e
 split at e
 ·rename_i els he
  cases e
  exact Nat.le_trans (Po (List.mem_of_getElem? he)) hw
 ·cases e
theorem JY.cut{n:Nat}(hw:CB (H.take n)≤n)(hp: ∀i,P i→i<n→Q i)(hm:B8 v≤n): ∀{g:GS t.α},JY t P H v g→JY t Q (H.take n) v g
 | .nil,h=>h
 | .mk _,⟨b,els,e,h⟩=>by
  cases v<;>simp only[GO]at b
  ·rename_i sz' els'
   refine⟨trivial,els,e,h.cut hw hp ?_⟩
   simp only[Dg]at e
   split at e
   ·simp only[Option.some.injEq]at e
    subst e
    simpa [B8]using hm
   ·cases e
  ·rename_i id k lo len
   simp only[B8]at hm
   refine⟨hp _ b (by omega),els,?_,h.cut hw hp ?_⟩
   ·simp only[Dg]at e ⊢
    rw[Nl (by omega)];exact e
   ·simp only[Dg]at e
    obtain⟨r,hr,e⟩:=Option.bind_eq_some_iff.1 e
    split at e
    ·simp only[Option.some.injEq]at e
     subst e
     exact Nat.le_trans (Ma _ _) (Nat.le_trans (Mb _ _) (S1 hw (by omega) hr))
    ·cases e
  ·rename_i sz' id off len
   simp only[B8]at hm
   refine⟨hp _ b (by omega),els,?_,h.cut hw hp ?_⟩
   ·simp only[Dg]at e ⊢
    rw[La (by omega)];exact e
   ·simp only[Dg]at e
    obtain⟨r,hr,e⟩:=Option.bind_eq_some_iff.1 e
    split at e
    ·simp only[Option.some.injEq]at e
     subst e
     exact Nat.le_trans (IW _ _ _) (Nat.le_trans (He _ _) (Q9 hw (by omega) hr))
    ·cases e
theorem JY.frz{n d:Nat}(hd:t.dep≤d)(h20:d≤20)(hw:CB (H.take n)≤n)(hp: ∀i,P i→i<n→Q i){g:GS t.α}(h:JY t P H v g): ∃v',Am.frz H n (d+1) v=some v'∧JY t Q (H.take n) v' g:=by
 by_cases hm:B8 v≤n
 ·exact⟨v,NE hm,h.cut hw hp hm⟩
 ·cases g with
  |nil=>rw[show v=_ from h]at hm;simp[B8]at hm
  |mk l=>
   obtain⟨b,els,e,h⟩:=h
   obtain⟨els',e',r⟩:=h.frz hd h20 hw hp
   refine⟨.sl t.sz els',?_,trivial,els',by simp[Dg],r⟩
   cases v<;>simp only[GO]at b
   ·rename_i sz' els0
    simp only[Dg]at e
    split at e
    ·rename_i hsz
     simp only[Option.some.injEq]at e
     subst e
     subst hsz
     simp only[Am.frz,if_neg hm,e',Option.map_some]
    ·cases e
   ·rename_i id k lo len
    simp only[Dg]at e
    obtain⟨r0,hr,e⟩:=Option.bind_eq_some_iff.1 e
    split at e
    ·rename_i hc
     simp only[Option.some.injEq]at e
     subst e
     simp only[Am.frz,if_neg hm,hr,Option.bind_some,if_pos (show k=r0.2.2.length∧lo+len≤k from⟨hc.1,hc.2.2⟩),e',Option.map_some,hc.2.1]
    ·cases e
   ·rename_i sz' id off len
    simp only[Dg]at e
    obtain⟨r0,hr,e⟩:=Option.bind_eq_some_iff.1 e
    split at e
    ·rename_i hc
     have he:some (B6 t.sz len (r0.drop off))=some els:=e
     simp only[Option.some.injEq]at he
     subst he
     obtain⟨rfl,hc⟩:=hc
     simp only[Am.frz,if_neg hm,hr,Option.bind_some,if_pos hc,e',Option.map_some]
    ·cases e
end
def T.sl(t:T):T where
 α:=GS t.α
 sz:=1
 agg:=false
 dep:=t.dep+1
 R:=fun P H cs g=> ∃v,cs=[v]∧JY t P H v g
 zc:=[.nils]
 z:= .nil
 hz:=fun _ _=>⟨_,rfl,rfl⟩
 one:=fun _=>rfl
 len:=fun⟨v,e,_⟩=>by rw[e];rfl
 sca:=fun⟨v,e,h⟩=>by rw[e];simp[h.sca]
 men:=fun⟨v,e,h⟩ hp=>by rw[e];simpa [Bl]using h.men hp
 mono:=fun m ⟨v,e,h⟩=>⟨v,e,h.mono m⟩
 cut:=fun⟨v,e,h⟩ hm hw hp=>⟨v,e,h.cut hw hp (by rw[e]at hm;simpa [Bl]using hm)⟩
 frz:=fun{_ _ _ _ _ _ d} ⟨v,e,h⟩ hd h20 hw hp=>by
  obtain⟨d,rfl⟩: ∃k,d=k+1:=⟨d-1,by omega⟩
  obtain⟨v',e',r⟩:=h.frz (d:=d) (by omega) (by omega) hw hp
  exact⟨[v'],by rw[e];simp[Cz,e'],v',rfl,r⟩
theorem FB{t:T}{P:Nat→Prop}{H:A3}{v:AV}{g:GS t.α}:(T.sl t).V P H v g↔JY t P H v g:=by
 constructor
 ·rintro(⟨a,_⟩|⟨_,w,h,r⟩)
  ·cases a
  ·cases h;exact r
 ·intro h
  exact .inr ⟨rfl,v,rfl,h⟩
end Go.Proofs.Ytapafbjgdfgodaa.Am
namespace Go.Proofs.Ytapafbjgdfgodaa.Am
inductive AI:Type 1 where
 |val (t:T) (x:t.α)
 |rp (t:T) (x:t.α)
 |cp (j off:Nat)
 |own (j:Nat)
 |ep (j i off:Nat)
 |tup (l:List (Σ t:T,t.α))
 |junk
 |con (v:AV)
 |kv (j:Nat)
 |fnv (f:Fn) (js ks:List Nat)
 |aggk (js:List Nat)
 |tupk (js:List Nat)
 |oc (j off sz len:Nat)
structure ZK where
 α:Type
 R:(Nat→Prop)→(Nat→Prop)→A3→AV→α→Prop
 lt: ∀{F P:Nat→Prop} {H:A3} {v:AV} {x:α},R F P H v x→ ∀i,F i→i<H.length
 men: ∀{F P:Nat→Prop} {H:A3} {v:AV} {x:α} {m:Nat},R F P H v x→(∀i,P i→i<m)→(∀i,F i→i<m)→B8 v≤m
 mono: ∀{F P Q:Nat→Prop} {H G:A3} {v:AV} {x:α},(∀i,P i→Q i∧G[i]? =H[i]?)→(∀i,F i→G[i]? =H[i]?)→R F P H v x→R F Q G v x
inductive D1:Type 1 where
 |gone
 |cells (ps:List (Nat×AI))
 |row (t:T) (g:GS t.α)
 |dom (D:ZK) (x:D.α)
 |keep (φ:AI)
 |ghost (φ:AI)
 |rowk (sz:Nat) (els:List (List Nat))
abbrev Ts:=List (Nat×AI)
abbrev Ss:=List (Nat×D1)
structure Cx:Type 1 where
 ts:Ts
 ss:Ss
def B4:Ts→Nat→Option AI
 |[],_=>none
 |(u,φ)::r,t=>if u=t then some φ else B4 r t
def AA:Ss→Nat→Option D1
 |[],_=>none
 |(u,φ)::r,t=>if u=t then some φ else AA r t
def VG:Option D1→Prop
 |none=>False
 |some .gone=>False
 |some (.ghost _)=>False
 |some _=>True
def Ck:Option D1→Bool
 |some (.keep _)=>true
 |_=>false
def AT(ss:Ss)(j:Nat):Prop:=VG (AA ss j)
structure JL where
 h:A3
 P0:Nat→Prop
 K:Nat→Prop
 lt: ∀i,P0 i→i<h.length
 pk: ∀i,P0 i→K i
 g:Nat→AV
abbrev Fp:=Nat→Nat→Prop
def Ul:Nat:=1000000
def Pf(E:JL)(ss:Ss)(fp:Fp)(H:A3)(i:Nat):Prop:=
 (i<E.h.length∧E.P0 i)∨(E.h.length≤i∧i<H.length∧ ∀j,AT ss j→ ¬fp j i)
def Qb(P:Nat→Prop):AV→Prop
 | .ptr id _=>P id
 | .pe id _ _ _=>P id
 | .ip _ _=>True
 |_=>False
def UQ(t:T)(P:Nat→Prop)(H:A3)(v:AV)(x:t.α):Prop:=
 Qb P v∧ ∃cs off,place H v=some (cs,off)∧off+t.sz≤cs.length∧t.R P H (sub cs off t.sz) x∧(∀m,(∀i,P i→i<m)→B8 v≤m)
def Lr(P:Nat→Prop)(H:A3):List AV→List (Σ t:T,t.α)→Prop
 |[],[]=>True
 |v::r,p::q=>p.1.V P H v p.2∧Lr P H r q
 |_,_=>False
def Ja(ss:Ss)(l:List Nat):Prop:= ∀j∈l,Ck (AA ss j)=true
def FR(rv:Nat→AV)(ss:Ss)(P:Nat→Prop)(H:A3):AI→AV→Prop
 | .val t x,v=>t.V P H v x
 | .rp t x,v=>UQ t P H v x
 | .cp j off,v=>AT ss j∧ ∃id,rv j= .ptr id 0∧v= .ptr id off
 | .own j,v=>AT ss j∧v=rv j
 | .ep j i off,v=>AT ss j∧ ∃id n,rv j= .orow id n 0 n∧i<n∧v= .pe id n i off
 | .tup l,v=> ∃vs,v= .tup vs∧Lr P H vs l
 | .junk,_=>True
 | .con c,v=>v=c∧B8 c=0∧scal c=true
 | .kv j,v=>Ja ss [j]∧v=rv j
 | .fnv f js ks,v=>Ja ss (js++ks)∧v= .fn f (js.map rv) (ks.map rv)
 | .aggk js,v=>Ja ss js∧v= .agg (js.flatMap fun j=>cellsOf (rv j))
 | .tupk js,v=>Ja ss js∧v= .tup (js.map rv)
 | .oc j off sz len,v=>AT ss j∧ ∃id,rv j= .ptr id 0∧v= .ocel sz id off len
def FC(rv:Nat→AV)(ss:Ss)(P:Nat→Prop)(H:A3):AI→List AV→Prop
 | .val t x,c=>t.R P H c x
 | .tup _,_=>False
 | .junk,c=>Bl c≤H.length
 |φ,c=> ∃v,c=[v]∧FR rv ss P H φ v
def PR(rv:Nat→AV)(ss:Ss)(P:Nat→Prop)(H:A3):List (Nat×AI)→List AV→Prop
 |[],cs=>cs=[]
 |(n,φ)::r,cs=> ∃c d,cs=c++d∧c.length=n∧FC rv ss P H φ c∧PR rv ss P H r d
def SR(rv:Nat→AV)(fp:Fp)(ss:Ss)(P:Nat→Prop)(H:A3)(j:Nat):D1→Prop
 | .gone=>True
 | .cells ps=> ∃id cs,rv j= .ptr id 0∧(∀i,fp j i↔i=id)∧BD H id=some cs∧PR rv ss P H ps cs
 | .row t .nil=>rv j= .nils∧ ∀i,¬fp j i
 | .row t (.mk l)=> ∃id els,rv j= .orow id els.length 0 els.length∧(∀i,fp j i↔i=id)∧rowAt H id=some (false,t.sz,els)∧BE t P H els l
 | .dom D x=>D.R (fp j) P H (rv j) x
 | .keep φ=>FR rv ss P H φ (rv j)∧ ∀i,¬fp j i
 | .ghost _=>True
 | .rowk sz els=>Ja ss els.flatten∧ ∃id,rv j= .orow id els.length 0 els.length∧(∀i,fp j i↔i=id)∧rowAt H id=some (false,sz,els.map fun js=>js.flatMap fun j=>cellsOf (rv j))
structure Bn(E:JL)(Γ:Cx)(rv:Nat→AV)(fp:Fp)(f:Fr)(H:A3):Prop where
 le:E.h.length≤H.length
 base: ∀i,i<E.h.length→E.K i→H[i]? =E.h[i]?
 wf:CB H≤H.length
 fplt: ∀j i,AT Γ.ss j→fp j i→i<H.length∧(i<E.h.length→ ¬E.K i∧Ul≤j)
 rvlt: ∀j,AT Γ.ss j→B8 (rv j)≤H.length
 scal: ∀j,AT Γ.ss j→Ck (AA Γ.ss j)=true∨scal (rv j)=true
 inj: ∀j k i,AT Γ.ss j→AT Γ.ss k→fp j i→fp k i→j=k
 slots: ∀j S,AA Γ.ss j=some S→SR rv fp Γ.ss (Pf E Γ.ss fp H) H j S
 temps: ∀t φ,B4 Γ.ts t=some φ→FR rv Γ.ss (Pf E Γ.ss fp H) H φ (get f t)
 gh: ∀j φ,AA Γ.ss j=some (.ghost φ)→FR rv Γ.ss (Pf E Γ.ss fp H) H φ (E.g j)
def Rel(E:JL)(Γ:Cx)(f:Fr)(H:A3):Prop:= ∃rv fp,Bn E Γ rv fp f H
theorem Pf.lt{E:JL}{ss:Ss}{fp:Fp}{H:A3}(le:E.h.length≤H.length){i:Nat}(h:Pf E ss fp H i):i<H.length:=by
 rcases h with h|h
 ·omega
 ·exact h.2.1
section
variable{rv rv':Nat→AV}{fp fp':Fp}{ss ss':Ss}{P Q:Nat→Prop}{H G:A3}
theorem Lr.mono(m: ∀i,P i→Q i∧G[i]? =H[i]?): ∀{vs:List AV} {l:List (Σ t:T,t.α)},Lr P H vs l→Lr Q G vs l
 |[],[],_=>trivial
 |_::_,_::_,h=>⟨h.1.mono m,Lr.mono m h.2⟩
theorem S7{v:AV}(m: ∀i,P i→Q i∧G[i]? =H[i]?)(h:Qb P v):place G v=place H v:=by
 cases v<;>simp only[Qb]at h<;>simp only[place]
 ·rw[Il (m _ h).2]
 ·rw[HY (m _ h).2]
theorem Uj{v:AV}(m: ∀i,P i→Q i)(h:Qb P v):Qb Q v:=by
 cases v<;>simp only[Qb]at h ⊢
 ·exact m _ h
 ·exact m _ h
theorem UQ.mono{t:T}{v:AV}{x:t.α}(m: ∀i,P i→Q i∧G[i]? =H[i]?)(h:UQ t P H v x):UQ t Q G v x:=by
 obtain⟨hp,cs,off,e,l,r,hm⟩:=h
 exact⟨Uj (fun i hi=>(m i hi).1) hp,cs,off,by rw[S7 m hp];exact e,l,t.mono m r,fun k hk=>hm k fun i hi=>hk i (m i hi).1⟩
def CX(j:Nat):AI→Prop
 | .cp k _=>k≠j
 | .oc k _ _ _=>k≠j
 | .own k=>k≠j
 | .ep k _ _=>k≠j
 | .kv k=>k≠j
 | .fnv _ js ks=>j∉js++ks
 | .aggk js=>j∉js
 | .tupk js=>j∉js
 |_=>True
def LQ(rv rv':Nat→AV)(ss ss':Ss)(φ:AI):Prop:= ∀j,¬CX j φ→AT ss j→(AT ss' j∧(Ck (AA ss j)=true→Ck (AA ss' j)=true))∧rv' j=rv j
theorem G4{ss:Ss}{j:Nat}(h:Ck (AA ss j)=true):AT ss j:=by
 simp only[AT]
 cases e:AA ss j with
 |none=>rw[e]at h;cases h
 |some S=>rw[e]at h;cases S<;>simp only[Ck,Bool.false_eq_true]at h<;>trivial
theorem F3{ss ss':Ss}{l:List Nat}(h:Ja ss l)(s: ∀j∈l,AT ss j→(AT ss' j∧(Ck (AA ss j)=true→Ck (AA ss' j)=true))∧rv' j=rv j):Ja ss' l∧l.map rv'=l.map rv∧(l.flatMap fun j=>cellsOf (rv' j))=l.flatMap fun j=>cellsOf (rv j):=by
 induction l with
 |nil=>exact⟨fun j hj=>(by cases hj),rfl,rfl⟩
 |cons k l ih=>
  obtain⟨h1,h2,h3⟩:=ih (fun j hj=>h j (List.mem_cons_of_mem _ hj)) (fun j hj=>s j (List.mem_cons_of_mem _ hj))
  have hk:=h k List.mem_cons_self
  obtain⟨⟨_,a⟩,b⟩:=s k List.mem_cons_self (G4 hk)
  refine⟨fun j hj=> ?_,by simp only[List.map_cons,b,h2],by simp only[List.flatMap_cons,b,h3]⟩
  rcases List.mem_cons.1 hj with rfl|hj
  ·exact a hk
  ·exact h1 j hj
theorem FR.mono{φ:AI}{v:AV}(m: ∀i,P i→Q i∧G[i]? =H[i]?)(s:LQ rv rv' ss ss' φ)(h:FR rv ss P H φ v):FR rv' ss' Q G φ v:=by
 cases φ with
 |val t x=>exact T.V.mono m h
 |rp t x=>exact UQ.mono m h
 |cp j off=>
  obtain⟨l,id,e,hv⟩:=h
  obtain⟨⟨l',_⟩,e'⟩:=s j (by simp[CX]) l
  exact⟨l',id,e'.trans e,hv⟩
 |oc j off sz len=>
  obtain⟨l,id,e,hv⟩:=h
  obtain⟨⟨l',_⟩,e'⟩:=s j (by simp[CX]) l
  exact⟨l',id,e'.trans e,hv⟩
 |own j=>
  obtain⟨l,h⟩:=h
  obtain⟨⟨l',_⟩,e'⟩:=s j (by simp[CX]) l
  exact⟨l',h.trans e'.symm⟩
 |ep j i off=>
  obtain⟨l,id,n,e,hi,hv⟩:=h
  obtain⟨⟨l',_⟩,e'⟩:=s j (by simp[CX]) l
  exact⟨l',id,n,e'.trans e,hi,hv⟩
 |tup l=>
  obtain⟨vs,e,h⟩:=h
  exact⟨vs,e,h.mono m⟩
 |junk=>trivial
 |con c=>exact h
 |kv j=>
  obtain⟨h1,h2⟩:=h
  obtain⟨a,b,c⟩:=F3 (rv:=rv) (rv':=rv') (ss':=ss') h1 fun k hk=>by
   obtain rfl:=List.mem_singleton.1 hk
   exact s k (by simp[CX])
  exact⟨a,h2.trans (by simpa using b.symm)⟩
 |fnv f js ks=>
  obtain⟨h1,h2⟩:=h
  obtain⟨a,b,c⟩:=F3 (rv:=rv) (rv':=rv') (ss':=ss') h1 fun k hk=>s k (fun hn=>hn hk)
  have hj:js.map rv'=js.map rv∧ks.map rv'=ks.map rv:=by
   rw[List.map_append,List.map_append]at b
   exact List.append_inj b (by simp)
  exact⟨a,by rw[h2,hj.1,hj.2]⟩
 |aggk js=>
  obtain⟨h1,h2⟩:=h
  obtain⟨a,b,c⟩:=F3 (rv:=rv) (rv':=rv') (ss':=ss') h1 fun k hk=>s k (fun hn=>hn hk)
  exact⟨a,by rw[h2,c]⟩
 |tupk js=>
  obtain⟨h1,h2⟩:=h
  obtain⟨a,b,c⟩:=F3 (rv:=rv) (rv':=rv') (ss':=ss') h1 fun k hk=>s k (fun hn=>hn hk)
  exact⟨a,by rw[h2,b]⟩
theorem FC.mono{φ:AI}{c:List AV}(m: ∀i,P i→Q i∧G[i]? =H[i]?)(hl:H.length≤G.length)(s:LQ rv rv' ss ss' φ)(h:FC rv ss P H φ c):FC rv' ss' Q G φ c:=by
 cases φ with
 |val t x=>exact t.mono m h
 |rp t x=>obtain⟨v,e,h⟩:=h;exact⟨v,e,FR.mono m s h⟩
 |cp j off=>obtain⟨v,e,h⟩:=h;exact⟨v,e,FR.mono m s h⟩
 |oc j off sz len=>obtain⟨v,e,h⟩:=h;exact⟨v,e,FR.mono m s h⟩
 |own j=>obtain⟨v,e,h⟩:=h;exact⟨v,e,FR.mono m s h⟩
 |ep j i off=>obtain⟨v,e,h⟩:=h;exact⟨v,e,FR.mono m s h⟩
 |tup l=>exact h
 |junk=>exact Nat.le_trans h hl
 |con c=>obtain⟨v,e,h⟩:=h;exact⟨v,e,FR.mono m s h⟩
 |kv j=>obtain⟨v,e,h⟩:=h;exact⟨v,e,FR.mono m s h⟩
 |fnv f js ks=>obtain⟨v,e,h⟩:=h;exact⟨v,e,FR.mono m s h⟩
 |aggk js=>obtain⟨v,e,h⟩:=h;exact⟨v,e,FR.mono m s h⟩
 |tupk js=>obtain⟨v,e,h⟩:=h;exact⟨v,e,FR.mono m s h⟩
theorem PR.mono(m: ∀i,P i→Q i∧G[i]? =H[i]?)(hl:H.length≤G.length): ∀{ps:List (Nat×AI)} {cs:List AV},(∀p∈ps,LQ rv rv' ss ss' p.2)→PR rv ss P H ps cs→PR rv' ss' Q G ps cs
 |[],_,_,h=>h
 |(n,φ)::r,cs,s,⟨c,d,e,l,h,g⟩=>⟨c,d,e,l,FC.mono m hl (s _ List.mem_cons_self) h,PR.mono m hl (fun p hp=>s p (List.mem_cons_of_mem _ hp)) g⟩
theorem Lr.men{n:Nat}(hp: ∀i,P i→i<n): ∀{vs:List AV} {l:List (Σ t:T,t.α)},Lr P H vs l→Bl vs≤n
 |[],[],_=>by simp[Bl]
 |_::_,_::_,h=>by simp only[Bl];have:=h.1.men hp;have:=Lr.men hp h.2;omega
theorem Rk(v:AV):Bl (cellsOf v)≤B8 v:=by
 cases v<;>simp[cellsOf,Bl,B8]
theorem HI{n:Nat}(hi: ∀j,AT ss j→B8 (rv j)≤n): ∀{l:List Nat},Ja ss l→Bl (l.map rv)≤n∧Bl (l.flatMap fun j=>cellsOf (rv j))≤n
 |[],_=>by simp[Bl]
 |k::l,h=>by
  obtain⟨h1,h2⟩:=HI hi (l:=l) fun j hj=>h j (List.mem_cons_of_mem _ hj)
  have h3:=hi k (G4 (h k List.mem_cons_self))
  have h4:=Rk (rv k)
  simp only[List.map_cons,Bl,List.flatMap_cons,DL]
  omega
theorem FR.men{φ:AI}{v:AV}{n:Nat}(hp: ∀i,P i→i<n)(hi: ∀j,AT ss j→B8 (rv j)≤n)(hj:φ≠ .junk)(h:FR rv ss P H φ v):B8 v≤n:=by
 cases φ with
 |val t x=>exact T.V.men h hp
 |rp t x=>exact h.2.choose_spec.choose_spec.2.2.2 n hp
 |cp j off=>obtain⟨l,id,e,rfl⟩:=h;have:=hi j l;rw[e]at this;simpa [B8]using this
 |oc j off sz len=>obtain⟨l,id,e,rfl⟩:=h;have:=hi j l;rw[e]at this;simpa [B8]using this
 |own j=>obtain⟨l,rfl⟩:=h;exact hi j l
 |ep j i off=>obtain⟨l,id,m,e,_,rfl⟩:=h;have:=hi j l;rw[e]at this;simpa [B8]using this
 |tup l=>obtain⟨vs,rfl,h⟩:=h;simpa [B8]using h.men hp
 |junk=>exact absurd rfl hj
 |con c=>obtain⟨rfl,h,_⟩:=h;omega
 |kv j=>obtain⟨h,rfl⟩:=h;exact hi j (G4 (h j (by simp)))
 |fnv f js ks=>
  obtain⟨h,rfl⟩:=h
  have h1:=(HI hi (l:=js) fun j hj=>h j (by simp[hj])).1
  have h2:=(HI hi (l:=ks) fun j hj=>h j (by simp[hj])).1
  simp only[B8];omega
 |aggk js=>obtain⟨h,rfl⟩:=h;simpa [B8]using (HI hi h).2
 |tupk js=>obtain⟨h,rfl⟩:=h;simpa [B8]using (HI hi h).1
theorem FC.men{φ:AI}{c:List AV}(hp: ∀i,P i→i<H.length)(hi: ∀j,AT ss j→B8 (rv j)≤H.length)(h:FC rv ss P H φ c):Bl c≤H.length:=by
 have one: ∀{ψ:AI},ψ≠ .junk→(∃v,c=[v]∧FR rv ss P H ψ v)→Bl c≤H.length:=by
  rintro ψ hj ⟨v,rfl,h'⟩
  simpa [Bl]using FR.men hp hi hj h'
 cases φ with
 |val t x=>exact t.men h hp
 |tup l=>exact h.elim
 |junk=>exact h
 |rp t x=>exact one (by simp) h
 |cp j off=>exact one (by simp) h
 |oc j off sz len=>exact one (by simp) h
 |own j=>exact one (by simp) h
 |ep j i off=>exact one (by simp) h
 |con c=>exact one (by simp) h
 |kv j=>exact one (by simp) h
 |fnv f js ks=>exact one (by simp) h
 |aggk js=>exact one (by simp) h
 |tupk js=>exact one (by simp) h
theorem PR.men(hp: ∀i,P i→i<H.length)(hi: ∀j,AT ss j→B8 (rv j)≤H.length): ∀{ps:List (Nat×AI)} {cs:List AV},PR rv ss P H ps cs→Bl cs≤H.length
 |[],_,h=>by rw[show _=[]from h];simp[Bl]
 |(n,φ)::r,cs,⟨c,d,e,l,h,g⟩=>by
  rw[e,DL]
  have:=FC.men hp hi h
  have:=PR.men hp hi g
  omega
def T3:List (Nat×AI)→Nat
 |[]=>0
 |(n,_)::r=>n+T3 r
theorem PR.length: ∀{ps:List (Nat×AI)} {cs:List AV},PR rv ss P H ps cs→cs.length=T3 ps
 |[],_,h=>by rw[show _=[]from h];rfl
 |(n,φ)::r,cs,⟨c,d,e,l,h,g⟩=>by rw[e,List.length_append,l,PR.length g];rfl
theorem SR.keep{k:Nat}{S:D1}(h:SR rv fp ss P H k S)(hrv:rv' k=rv k)(hfp:fp' k=fp k)(m: ∀i,P i→Q i∧G[i]? =H[i]?)(hl:H.length≤G.length)
  (hg: ∀i,fp k i→G[i]? =H[i]?) (hs: ∀ps,S= .cells ps→ ∀p∈ps,LQ rv rv' ss ss' p.2) (hsk: ∀φ,S= .keep φ→LQ rv rv' ss ss' φ) (hse: ∀sz els,S= .rowk sz els→LQ rv rv' ss ss' (.aggk els.flatten)):SR rv' fp' ss' Q G k S:=by
 cases S with
 |rowk sz els=>
  obtain⟨h0,id,h1,h2,h3⟩:=h
  have hs:=hse sz els rfl
  have h4:=(F3 (rv:=rv) (rv':=rv') (ss':=ss') h0 fun j hj=>hs j (fun hn=>hn hj)).1
  have h5:(els.map fun js=>js.flatMap fun j=>cellsOf (rv' j))=els.map fun js=>js.flatMap fun j=>cellsOf (rv j):=by
   apply List.map_congr_left
   intro js hjs
   exact(F3 (rv:=rv) (rv':=rv') (ss':=ss') (fun j hj=>h0 j (List.mem_flatten.2 ⟨js,hjs,hj⟩)) fun j hj=>hs j (fun hn=>hn (List.mem_flatten.2 ⟨js,hjs,hj⟩))).2.2
  exact⟨h4,id,hrv.trans h1,by rw[hfp];exact h2,by rw[h5,HY (hg id ((h2 id).2 rfl))];exact h3⟩
 |gone=>trivial
 |ghost φ=>trivial
 |keep φ=>
  obtain⟨h1,h2⟩:=h
  exact⟨by rw[hrv];exact FR.mono m (hsk φ rfl) h1,by rw[hfp];exact h2⟩
 |cells ps=>
  obtain⟨id,cs,h1,h0,h2,h3⟩:=h
  exact⟨id,cs,hrv.trans h1,by rw[hfp];exact h0,by rw[Il (hg id ((h0 id).2 rfl))];exact h2,h3.mono m hl (hs ps rfl)⟩
 |row t g=>
  cases g with
  |nil=>exact⟨hrv.trans h.1,by rw[hfp];exact h.2⟩
  |mk l=>
   obtain⟨id,els,h1,h0,h2,h3⟩:=h
   exact⟨id,els,hrv.trans h1,by rw[hfp];exact h0,by rw[HY (hg id ((h0 id).2 rfl))];exact h2,h3.mono m⟩
 |dom D x=>
  show D.R _ _ _ _ _
  rw[hrv,hfp]
  exact D.mono m hg h
end
def Cx.push(Γ:Cx)(d:Nat)(φ:AI):Cx:=⟨(d,φ)::Γ.ts,Γ.ss⟩
def Cx.all(Γ:Cx)(p:AI→Prop):Prop:=(∀t φ,B4 Γ.ts t=some φ→p φ)∧(∀k ps,AA Γ.ss k=some (.cells ps)→ ∀q∈ps,p q.2)∧(∀k φ,(AA Γ.ss k=some (.keep φ)∨AA Γ.ss k=some (.ghost φ))→p φ)∧ ∀k sz els,AA Γ.ss k=some (.rowk sz els)→p (.aggk els.flatten)
theorem L8{ss:Ss}{j k:Nat}{S:D1}(hk:k≠j):AT ((j,S)::ss) k↔AT ss k:=by simp only[AT,AA,if_neg (Ne.symm hk)]
def JV:D1→Bool
 | .gone=>true
 | .ghost _=>true
 |_=>false
theorem Uw{ss:Ss}{j:Nat}{S:D1}(hS:JV S=false):AT ((j,S)::ss) j:=by
 simp only[AT,AA,if_true]
 cases S<;>first|(simp[JV]at hS;done)|trivial
theorem Hg{ss:Ss}{j:Nat}{S:D1}(h:AA ss j=some S)(hS:JV S=false):AT ss j:=by
 simp only[AT,h]
 cases S<;>first|(simp[JV]at hS;done)|trivial
theorem ER{ss:Ss}{j:Nat}(h:AA ss j=none): ¬AT ss j:=by simp only[AT,h];exact fun l=>l
theorem Pp(a b:A3):CB (a++b)=max (CB a) (CB b):=by
 induction a with
 |nil=>simp[CB]
 |cons x a ih=>simp only[List.cons_append,CB,ih];omega
theorem Pn{o:Ca}{m:Nat}: ∀{l:A3} {i:Nat},CB l≤m→EA o≤m→CB (l.set i o)≤m
 |[],i,h1,h2=>by simpa using h1
 |x::l,0,h1,h2=>by simp only[List.set_cons_zero,CB]at h1 ⊢;omega
 |x::l,i+1,h1,h2=>by
  simp only[List.set_cons_succ,CB]at h1 ⊢
  have:=Pn (l:=l) (i:=i) (o:=o) (m:=m) (by omega) h2
  omega
section
variable{E:JL}{Γ:Cx}{rv:Nat→AV}{fp:Fp}{f:Fr}{H:A3}
theorem Bn.ltP(I:Bn E Γ rv fp f H): ∀i,Pf E Γ.ss fp H i→i<H.length:=fun _ h=>h.lt I.le
theorem Bn.push(I:Bn E Γ rv fp f H){d:Nat}{φ:AI}{v:AV}(h:FR rv Γ.ss (Pf E Γ.ss fp H) H φ v):Bn E (Γ.push d φ) rv fp (put f (some d) v) H:=by
 refine⟨I.le,I.base,I.wf,I.fplt,I.rvlt,I.scal,I.inj,I.slots,?_,I.gh⟩
 intro t ψ e
 simp only[Cx.push,B4]at e
 simp only[put,get]
 split at e
 ·rename_i hd
  rw[if_pos hd]
  cases e
  exact h
 ·rename_i hd
  rw[if_neg hd]
  exact I.temps t ψ e
theorem Bn.fr(I:Bn E Γ rv fp f H){f':Fr}(h: ∀t φ,B4 Γ.ts t=some φ→get f' t=get f t):Bn E Γ rv fp f' H:=
 ⟨I.le,I.base,I.wf,I.fplt,I.rvlt,I.scal,I.inj,I.slots,fun t φ e=>by rw[h t φ e];exact I.temps t φ e,I.gh⟩
theorem Bn.chg(I:Bn E Γ rv fp f H){j:Nat}{S:D1}{v:AV}{F:Nat→Prop}{G:A3}(hnk:Ck (AA Γ.ss j)=false)(hS:JV S=false)(hl:H.length≤G.length)(hG: ∀i,i<H.length→(AT Γ.ss j→ ¬fp j i)→G[i]? =H[i]?)
  (hF: ∀i,F i→(AT Γ.ss j∧fp j i)∨(H.length≤i∧i<G.length)) (hk:AT Γ.ss j→v=rv j∨Γ.all (CX j)) (hw:CB G≤G.length) (hv:B8 v≤G.length) (hsc:Ck (some S)=true∨Am.scal v=true)
  (hs: ∀(rv':Nat→AV) (fp':Fp),rv' j=v→fp' j=F→(∀i,Pf E Γ.ss fp H i→Pf E ((j,S)::Γ.ss) fp' G i∧G[i]? =H[i]?)→(∀φ,(AT Γ.ss j→v=rv j∨CX j φ)→LQ rv rv' Γ.ss ((j,S)::Γ.ss) φ)→
   SR rv' fp' ((j,S)::Γ.ss) (Pf E ((j,S)::Γ.ss) fp' G) G j S):
  ∃rv' fp',rv' j=v∧AT ((j,S)::Γ.ss) j∧Bn E ⟨Γ.ts,(j,S)::Γ.ss⟩ rv' fp' f G:=by
 let rv':Nat→AV:=fun k=>if k=j then v else rv k
 let fp':Fp:=fun k=>if k=j then F else fp k
 have hrj:rv' j=v:=if_pos rfl
 have hfj:fp' j=F:=if_pos rfl
 have hr: ∀k,k≠j→rv' k=rv k:=fun k hk=>if_neg hk
 have hf: ∀k,k≠j→fp' k=fp k:=fun k hk=>if_neg hk
 have hlj:AT ((j,S)::Γ.ss) j:=Uw hS
 have hlv: ∀k,k≠j→(AT ((j,S)::Γ.ss) k↔AT Γ.ss k):=fun k hk=>L8 hk
 have hnot: ∀i,Pf E Γ.ss fp H i→AT Γ.ss j→ ¬fp j i:=by
  rintro i (⟨h1,h2⟩|⟨_,_,h⟩) l e
  ·exact((I.fplt j i l e).2 h1).1 (E.pk i h2)
  ·exact h j l e
 have hP: ∀i,Pf E Γ.ss fp H i→Pf E ((j,S)::Γ.ss) fp' G i∧G[i]? =H[i]? :=by
  intro i h
  refine⟨?_,hG i (h.lt I.le) (hnot i h)⟩
  rcases h with h|⟨h1,h2,h3⟩
  ·exact .inl h
  ·refine .inr ⟨h1,by omega,fun k l e=> ?_⟩
   by_cases hkj:k=j
   ·subst hkj
    rw[hfj]at e
    rcases hF i e with ⟨l',e'⟩|⟨h4,_⟩
    ·exact h3 k l' e'
    ·omega
   ·rw[hf k hkj]at e
    exact h3 k ((hlv k hkj).1 l) e
 have hsame: ∀φ,(AT Γ.ss j→v=rv j∨CX j φ)→LQ rv rv' Γ.ss ((j,S)::Γ.ss) φ:=by
  intro φ hφ k hkr l
  by_cases hkj:k=j
  ·subst hkj
   rcases hφ l with h|h
   ·exact⟨⟨hlj,fun e=>by rw[hnk]at e;cases e⟩,hrj.trans h⟩
   ·exact absurd h hkr
  ·exact⟨⟨(hlv k hkj).2 l,fun e=>by simp only[AA,if_neg (Ne.symm hkj)];exact e⟩,hr k hkj⟩
 refine⟨rv',fp',hrj,hlj,?_,?_,hw,?_,?_,?_,?_,?_,?_,?_⟩
 ·have:=I.le;omega
 ·intro i hi hK
  have hnf:AT Γ.ss j→ ¬fp j i:=fun l e=>((I.fplt j i l e).2 hi).1 hK
  rw[hG i (by have:=I.le;omega) hnf];exact I.base i hi hK
 ·intro k i l e
  by_cases hkj:k=j
  ·subst hkj
   rw[hfj]at e
   rcases hF i e with ⟨l',e'⟩|⟨h1,h2⟩
   ·have:=I.fplt k i l' e'
    exact⟨by omega,this.2⟩
   ·exact⟨h2,fun h=>absurd h (by have:=I.le;omega)⟩
  ·rw[hf k hkj]at e
   have:=I.fplt k i ((hlv k hkj).1 l) e
   exact⟨by omega,this.2⟩
 ·intro k l
  by_cases hkj:k=j
  ·subst hkj;rw[hrj];exact hv
  ·rw[hr k hkj];have:=I.rvlt k ((hlv k hkj).1 l);omega
 ·intro k l
  by_cases hkj:k=j
  ·subst hkj;rw[hrj];exact hsc.imp (fun h=>by simp only[AA,if_true];exact h) id
  ·rw[hr k hkj];exact(I.scal k ((hlv k hkj).1 l)).imp (fun h=>by simp only[AA,if_neg (Ne.symm hkj)];exact h) id
 ·intro k k' i l l' e e'
  by_cases hkj:k=j<;>by_cases hkj':k'=j
  ·rw[hkj,hkj']
  ·subst hkj
   rw[hfj]at e
   rw[hf k' hkj']at e'
   rcases hF i e with ⟨l1,e1⟩|⟨h1,_⟩
   ·exact I.inj k k' i l1 ((hlv k' hkj').1 l') e1 e'
   ·have:=(I.fplt k' i ((hlv k' hkj').1 l') e').1;omega
  ·subst hkj'
   rw[hfj]at e'
   rw[hf k hkj]at e
   rcases hF i e' with ⟨l1,e1⟩|⟨h1,_⟩
   ·exact I.inj k k' i ((hlv k hkj).1 l) l1 e e1
   ·have:=(I.fplt k i ((hlv k hkj).1 l) e).1;omega
  ·rw[hf k hkj]at e
   rw[hf k' hkj']at e'
   exact I.inj k k' i ((hlv k hkj).1 l) ((hlv k' hkj').1 l') e e'
 ·intro k S' e
  rw[AA]at e
  split at e
  ·rename_i hkj
   cases e
   subst hkj
   exact hs rv' fp' hrj hfj hP hsame
  ·rename_i hkj
   by_cases hg:JV S'=true
   ·cases S'<;>first|trivial|(simp[JV]at hg;done)
   ·have hlk:=Hg e (by simpa using hg)
    refine(I.slots k S' e).keep (hr k (Ne.symm hkj)) (hf k (Ne.symm hkj)) hP hl (fun i hi=>hG i (I.fplt k i hlk hi).1 fun l e'=>hkj (I.inj j k i l hlk e' hi)) (fun ps hps p hp=>hsame p.2 fun l=> ?_) (fun φ hφ=>hsame φ fun l=> ?_) fun sz els he=>hsame _ fun l=> ?_
    ·subst hps
     exact(hk l).imp (fun h=>h) fun h=>h.2.1 k ps e p hp
    ·subst hφ
     exact(hk l).imp (fun h=>h) fun h=>h.2.2.1 k φ (.inl e)
    ·subst he
     exact(hk l).imp (fun h=>h) fun h=>h.2.2.2 k sz els e
 ·intro t φ e
  exact(I.temps t φ e).mono hP (hsame φ fun l=>(hk l).imp (fun h=>h) fun h=>h.1 t φ e)
 ·intro k φ e
  rw[AA]at e
  split at e
  ·rename_i hkj
   cases e
   simp[JV]at hS
  ·exact(I.gh k φ e).mono hP (hsame φ fun l=>(hk l).imp (fun h=>h) fun h=>h.2.2.1 k φ (.inr e))
theorem Bn.more(I:Bn E Γ rv fp f H){j:Nat}{S:D1}{v:AV}{o:Ca}(hj: ¬AT Γ.ss j)(hm:EA o≤H.length+1)(hS:JV S=false)(hv:B8 v≤H.length+1)(hsc:Am.scal v=true)
  (hr: ∀(rv':Nat→AV) (fp':Fp),rv' j=v→(∀i,fp' j i↔i=H.length)→(∀i,Pf E Γ.ss fp H i→Pf E ((j,S)::Γ.ss) fp' (H++[o]) i∧(H++[o])[i]? =H[i]?)→
   (∀φ,LQ rv rv' Γ.ss ((j,S)::Γ.ss) φ)→SR rv' fp' ((j,S)::Γ.ss) (Pf E ((j,S)::Γ.ss) fp' (H++[o])) (H++[o]) j S):
  ∃rv' fp',rv' j=v∧AT ((j,S)::Γ.ss) j∧Bn E ⟨Γ.ts,(j,S)::Γ.ss⟩ rv' fp' f (H++[o]):=
 I.chg (F:=fun i=>i=H.length) (by
   cases e:Ck (AA Γ.ss j)with
   |false=>rfl
   |true=>exact absurd (G4 e) hj) hS (by simp) (fun i hi _=>List.getElem?_append_left hi) (fun i hi=> .inr ⟨by omega,by simp;omega⟩) (fun l=>absurd l hj)
  (by rw[Pp];have:=I.wf;simp only[CB,List.length_append,List.length_cons,List.length_nil];omega) (by simpa using hv) (.inr hsc)
  fun rv' fp' h1 h2 hP hs=>hr rv' fp' h1 (fun i=>by rw[h2]) hP fun φ=>hs φ fun l=>absurd l hj
theorem Bn.set(I:Bn E Γ rv fp f H){j id:Nat}{S:D1}{v:AV}{o:Ca}(hnk:Ck (AA Γ.ss j)=false)(hl:AT Γ.ss j)(hid: ∀i,fp j i↔i=id)(hm:EA o≤H.length)(hS:JV S=false)(hv:B8 v≤H.length)(hk:v=rv j∨Γ.all (CX j))
  (hsc:Ck (AA Γ.ss j)=true∨Am.scal v=true)
  (hs: ∀(rv':Nat→AV) (fp':Fp),rv' j=v→(∀i,fp' j i↔i=id)→(∀i,Pf E Γ.ss fp H i→Pf E ((j,S)::Γ.ss) fp' (H.set id o) i∧(H.set id o)[i]? =H[i]?)→
   (∀φ,v=rv j∨CX j φ→LQ rv rv' Γ.ss ((j,S)::Γ.ss) φ)→SR rv' fp' ((j,S)::Γ.ss) (Pf E ((j,S)::Γ.ss) fp' (H.set id o)) (H.set id o) j S):
  ∃rv' fp',rv' j=v∧AT ((j,S)::Γ.ss) j∧Bn E ⟨Γ.ts,(j,S)::Γ.ss⟩ rv' fp' f (H.set id o):=
 I.chg (F:=fp j) hnk hS (by simp) (fun i _ hn=>List.getElem?_set_ne fun e=>hn hl ((hid i).2 e.symm)) (fun i hi=> .inl ⟨hl,hi⟩) (fun _=>hk) (by simpa using Pn I.wf hm) (by simpa using hv) (hsc.elim (fun h=>by rw[hnk]at h;cases h) .inr)
  fun rv' fp' h1 h2 hP hs'=>hs rv' fp' h1 (fun i=>by rw[h2];exact hid i) hP fun φ h=>hs' φ fun _=>h
end
end Go.Proofs.Ytapafbjgdfgodaa.Am
namespace Go.Proofs.Ytapafbjgdfgodaa.Am
def KK(F:AI→AI):D1→D1
 | .cells ps=> .cells (ps.map fun p=>(p.1,F p.2))
 | .keep φ=> .keep (F φ)
 | .ghost φ=> .ghost (F φ)
 |s=>s
theorem L9{F:AI→AI}(o:Option D1):Ck (o.map (KK F))=Ck o:=by
 cases o with
 |none=>rfl
 |some S=>cases S<;>rfl
theorem LG{F:AI→AI}: ∀{ts:Ts} {t:Nat},B4 (ts.map fun p=>(p.1,F p.2)) t=(B4 ts t).map F
 |[],_=>rfl
 |(u,φ)::r,t=>by
  simp only[List.map_cons,B4]
  split
  ·rfl
  ·exact LG
theorem Eb{F:AI→AI}: ∀{ss:Ss} {j:Nat},AA (ss.map fun p=>(p.1,KK F p.2)) j=(AA ss j).map (KK F)
 |[],_=>rfl
 |(u,φ)::r,t=>by
  simp only[List.map_cons,AA]
  split
  ·rfl
  ·exact Eb
theorem KL{F:AI→AI}{ss:Ss}{j:Nat}:AT (ss.map fun p=>(p.1,KK F p.2)) j↔AT ss j:=by
 simp only[AT,Eb]
 cases AA ss j with
 |none=>exact Iff.rfl
 |some S=>cases S<;>exact Iff.rfl
theorem PR.map{rv rv':Nat→AV}{ss ss':Ss}{P Q:Nat→Prop}{H:A3}{F:AI→AI}: ∀{ps:List (Nat×AI)} {cs:List AV},(∀p∈ps,∀c,FC rv ss P H p.2 c→FC rv' ss' Q H (F p.2) c)→PR rv ss P H ps cs→
  PR rv' ss' Q H (ps.map fun p=>(p.1,F p.2)) cs
 |[],_,_,h=>h
 |(n,φ)::r,cs,s,⟨c,d,e,l,h,g⟩=>⟨c,d,e,l,s _ List.mem_cons_self c h,PR.map (fun p hp=>s p (List.mem_cons_of_mem _ hp)) g⟩
section
variable{E:JL}{Γ:Cx}{rv:Nat→AV}{fp:Fp}{f:Fr}{H:A3}
theorem Pf.same{ss ss':Ss}(h: ∀k,AT ss' k→AT ss k){i:Nat}:Pf E ss fp H i→Pf E ss' fp H i
 | .inl h=> .inl h
 | .inr ⟨h1,h2,h3⟩=> .inr ⟨h1,h2,fun j l=>h3 j (h j l)⟩
theorem Bn.map(I:Bn E Γ rv fp f H){F:AI→AI}{ss':Ss}(hf: ∀k S,AA ss' k=some S→S≠ .gone→ ∃S0,AA Γ.ss k=some S0∧S=KK F S0)(hag: ∀l,F (.aggk l)= .aggk l)
  (hFR:(∀i,Pf E Γ.ss fp H i→Pf E ss' fp H i)→ ∀φ v,FR rv Γ.ss (Pf E Γ.ss fp H) H φ v→FR rv ss' (Pf E ss' fp H) H (F φ) v)
  (hFC:(∀i,Pf E Γ.ss fp H i→Pf E ss' fp H i)→ ∀φ c,FC rv Γ.ss (Pf E Γ.ss fp H) H φ c→FC rv ss' (Pf E ss' fp H) H (F φ) c):Bn E ⟨Γ.ts.map fun p=>(p.1,F p.2),ss'⟩ rv fp f H:=by
 have hlv: ∀k,AT ss' k→AT Γ.ss k:=by
  intro k l
  simp only[AT]at l
  cases h:AA ss' k with
  |none=>rw[h]at l;exact l.elim
  |some S=>
   rw[h]at l
   have hg:S≠ .gone:=by rintro rfl;exact l
   obtain⟨S0,h0,rfl⟩:=hf k S h hg
   exact Hg h0 (by cases S0<;>first|rfl|exact l.elim)
 have hP: ∀i,Pf E Γ.ss fp H i→Pf E ss' fp H i:=fun i=>Pf.same hlv
 refine⟨I.le,I.base,I.wf,fun k i l e=>I.fplt k i (hlv k l) e,fun k l=>I.rvlt k (hlv k l),fun k l=>(I.scal k (hlv k l)).imp (fun h=> ?_) id,fun k k' i l l' e e'=>I.inj k k' i (hlv k l) (hlv k' l') e e',?_,?_,?_⟩
 ·simp only[AT]at l
  cases e:AA ss' k with
  |none=>rw[e]at l;exact l.elim
  |some S=>
   rw[e]at l
   obtain⟨S0,h0,rfl⟩:=hf k S e (by rintro rfl;exact l)
   rw[h0]at h
   cases S0<;>first|rfl|exact h
 ·intro k S e
  by_cases hg:S= .gone
  ·subst hg;trivial
  ·obtain⟨S0,h0,rfl⟩:=hf k S e hg
   have h:=I.slots k S0 h0
   cases S0 with
   |gone=>trivial
   |cells ps=>
    obtain⟨id,cs,h1,h2,h3,h4⟩:=h
    exact⟨id,cs,h1,h2,h3,h4.map fun p _ c=>hFC hP p.2 c⟩
   |row t g=>
    cases g with
    |nil=>exact h
    |mk l=>
     obtain⟨id,els,h1,h2,h3,h4⟩:=h
     exact⟨id,els,h1,h2,h3,h4.mono fun i hi=>⟨hP i hi,rfl⟩⟩
   |dom D x=>exact D.mono (fun i hi=>⟨hP i hi,rfl⟩) (fun _ _=>rfl) h
   |keep φ=>
    obtain⟨h1,h2⟩:=h
    exact⟨hFR hP φ _ h1,h2⟩
   |ghost φ=>trivial
   |rowk sz els=>
    obtain⟨g0,id,g1,g2,g3⟩:=h
    have:=hFR hP (.aggk els.flatten) _ ⟨g0,rfl⟩
    rw[hag]at this
    exact⟨this.1,id,g1,g2,g3⟩
 ·intro t φ e
  simp only[LG]at e
  obtain⟨ψ,h,rfl⟩:=Option.map_eq_some_iff.1 e
  exact hFR hP ψ _ (I.temps t ψ h)
 ·intro k φ e
  obtain⟨S0,h0,e'⟩:=hf k _ e (by simp)
  cases S0<;>simp only[KK,D1.ghost.injEq,reduceCtorEq]at e'
  subst e'
  exact hFR hP _ _ (I.gh k _ h0)
theorem FR.weak{ss ss':Ss}{P Q:Nat→Prop}{φ:AI}{v:AV}(hP: ∀i,P i→Q i)(hl: ∀j,¬CX j φ→AT ss j→AT ss' j∧(Ck (AA ss j)=true→Ck (AA ss' j)=true))(h:FR rv ss P H φ v):FR rv ss' Q H φ v:=
 h.mono (fun i hi=>⟨hP i hi,rfl⟩) fun j hj l=>⟨hl j hj l,rfl⟩
theorem FC.weak{ss ss':Ss}{P Q:Nat→Prop}{φ:AI}{c:List AV}(hP: ∀i,P i→Q i)(hl: ∀j,¬CX j φ→AT ss j→AT ss' j∧(Ck (AA ss j)=true→Ck (AA ss' j)=true))(h:FC rv ss P H φ c):FC rv ss' Q H φ c:=
 h.mono (fun i hi=>⟨hP i hi,rfl⟩) (Nat.le_refl _) fun j hj l=>⟨hl j hj l,rfl⟩
def IG(j:Nat)(F:AI→AI):AI→AI
 | .own k=>if k=j then F (.own k)else .own k
 | .ep k i o=>if k=j then F (.ep k i o)else .ep k i o
 | .cp k o=>if k=j then F (.cp k o)else .cp k o
 | .oc k o s n=>if k=j then F (.oc k o s n)else .oc k o s n
 |φ=>φ
def IU(j:Nat):AI→Prop
 | .kv k=>k≠j
 | .fnv _ js ks=>j∉js++ks
 | .aggk js=>j∉js
 | .tupk js=>j∉js
 |_=>True
theorem FR.noKeep{rv:Nat→AV}{ss:Ss}{P:Nat→Prop}{H:A3}{φ:AI}{v:AV}{j:Nat}(hj:Ck (AA ss j)=false)(h:FR rv ss P H φ v):IU j φ:=by
 have no: ∀{l:List Nat},Ja ss l→j∉l:=fun h hm=>by have:=h j hm;rw[hj]at this;cases this
 cases φ<;>try exact trivial
 ·exact fun e=>no h.1 (by simp[e])
 ·exact no h.1
 ·exact no h.1
 ·exact no h.1
theorem IF{j:Nat}{F:AI→AI}{φ:AI}(h:CX j φ):IG j F φ=φ:=by
 cases φ<;>simp only[CX]at h<;>simp only[IG]<;>first|rfl|(rw[if_neg h])
theorem H8{j:Nat}{F:AI→AI}{φ:AI}(hk:IU j φ)(h: ¬CX j φ):IG j F φ=F φ:=by
 cases φ<;>first
  |(simp only[CX,not_true_eq_false,ne_eq,Decidable.not_not]at h;simp only[IG,if_pos h];done)
  |exact absurd hk h
  |exact absurd trivial h
def Cx.kill(Γ:Cx)(j:Nat):Cx:=⟨Γ.ts.map fun p=>(p.1,IG j (fun _=> .junk) p.2),Γ.ss.map fun p=>(p.1,KK (IG j fun _=> .junk) p.2)⟩
theorem HU(j:Nat)(φ:AI)(hk:IU j φ):CX j (IG j (fun _=> .junk) φ):=by
 by_cases h:CX j φ
 ·rw[IF h];exact h
 ·rw[H8 hk h];trivial
theorem Bn.noKeepT(I:Bn E Γ rv fp f H){j:Nat}(hj:Ck (AA Γ.ss j)=false):Γ.all (IU j):=by
 refine⟨fun t φ e=>FR.noKeep hj (I.temps t φ e),fun k ps e p hp=> ?_,fun k φ e=> ?_,fun k sz els e=> ?_⟩
 ·obtain⟨id,cs,_,_,_,h⟩:=I.slots k _ e
  have key: ∀{ps:List (Nat×AI)} {cs:List AV},PR rv Γ.ss (Pf E Γ.ss fp H) H ps cs→ ∀p∈ps,IU j p.2:=by
   intro ps
   induction ps with
   |nil=>intro cs _ p hp;cases hp
   |cons q ps ih=>
    rintro cs ⟨c,d,_,_,h1,h2⟩ p hp
    rcases List.mem_cons.1 hp with rfl|hp
    ·obtain⟨n,φ⟩:=p
     cases φ<;>first|trivial|exact h1.elim|(obtain⟨v,_,h1⟩:=h1;exact FR.noKeep hj h1)
    ·exact ih h2 p hp
  exact key h p hp
 ·rcases e with e|e
  ·exact FR.noKeep hj (I.slots k _ e).1
  ·exact FR.noKeep hj (I.gh k φ e)
 ·have h0:=(I.slots k _ e).1
  exact fun hm=>by have:=h0 j hm;rw[hj]at this;cases this
theorem Sn(I:Bn E Γ rv fp f H){j:Nat}(hj:Ck (AA Γ.ss j)=false):(Γ.kill j).all (CX j):=by
 have hn:=I.noKeepT hj
 refine⟨fun t φ e=> ?_,fun k ps e p hp=> ?_,fun k φ e=> ?_,fun k sz els e=> ?_⟩
 ·simp only[Cx.kill,LG]at e
  obtain⟨ψ,h,rfl⟩:=Option.map_eq_some_iff.1 e
  exact HU j ψ (hn.1 t ψ h)
 ·simp only[Cx.kill,Eb]at e
  obtain⟨S,h,e⟩:=Option.map_eq_some_iff.1 e
  cases S<;>simp only[KK,D1.cells.injEq,reduceCtorEq]at e
  subst e
  obtain⟨q,hq,rfl⟩:=List.mem_map.1 hp
  exact HU j q.2 (hn.2.1 k _ h q hq)
 ·simp only[Cx.kill,Eb]at e
  rcases e with e|e
  ·obtain⟨S,h,e⟩:=Option.map_eq_some_iff.1 e
   cases S<;>simp only[KK,D1.keep.injEq,reduceCtorEq]at e
   subst e
   exact HU j _ (hn.2.2.1 k _ (.inl h))
  ·obtain⟨S,h,e⟩:=Option.map_eq_some_iff.1 e
   cases S<;>simp only[KK,D1.ghost.injEq,reduceCtorEq]at e
   subst e
   exact HU j _ (hn.2.2.1 k _ (.inr h))
 ·simp only[Cx.kill,Eb]at e
  obtain⟨S,h,e⟩:=Option.map_eq_some_iff.1 e
  cases S<;>simp only[KK,D1.rowk.injEq,reduceCtorEq]at e
  obtain⟨rfl,rfl⟩:=e
  exact hn.2.2.2 k _ _ h
theorem Bn.kill(I:Bn E Γ rv fp f H)(j:Nat)(hj:Ck (AA Γ.ss j)=false):Bn E (Γ.kill j) rv fp f H:=by
 have hl: ∀k,AT Γ.ss k→AT (Γ.kill j).ss k∧(Ck (AA Γ.ss k)=true→Ck (AA (Γ.kill j).ss k)=true):=fun k h=>⟨KL.2 h,fun e=>by rw[Cx.kill];simp only[Eb,L9];exact e⟩
 refine I.map (F:=IG j fun _=> .junk) (fun k S e _=> ?_) (fun l=> ?_) (fun hP φ v h=> ?_) (fun hP φ c h=> ?_)
 ·rw[Eb]at e
  obtain⟨S0,h0,rfl⟩:=Option.map_eq_some_iff.1 e
  exact⟨S0,h0,rfl⟩
 ·rfl
 ·by_cases hk:CX j φ
  ·rw[IF hk];exact h.weak hP fun k _=>hl k
  ·rw[H8 (FR.noKeep hj h) hk];trivial
 ·by_cases hk:CX j φ
  ·rw[IF hk];exact h.weak hP fun k _=>hl k
  ·have hk':IU j φ:=by
    cases φ<;>first|trivial|exact h.elim|(obtain⟨v,_,h⟩:=h;exact FR.noKeep hj h)
   rw[H8 hk' hk]
   exact FC.men I.ltP I.rvlt h
def Cx.turn(Γ:Cx)(j:Nat)(F:AI→AI):Cx:=⟨Γ.ts.map fun p=>(p.1,IG j F p.2),(j, .gone)::Γ.ss.map fun p=>(p.1,KK (IG j F) p.2)⟩
theorem Pf.gone(I:Bn E Γ rv fp f H){j id:Nat}(hl:AT Γ.ss j)(hid:fp j id){ss':Ss}(h: ∀k,AT ss' k→k≠j∧AT Γ.ss k)(hn:E.h.length≤id):Pf E ss' fp H id:=
 .inr ⟨hn,(I.fplt j id hl hid).1,fun k l e=>(h k l).1 (I.inj k j id (h k l).2 hl e hid)⟩
theorem Pt{F:AI→AI}{ss:Ss}{j:Nat}: ∀k,AT ((j, .gone)::ss.map fun p=>(p.1,KK F p.2)) k↔k≠j∧AT ss k:=by
 intro k
 by_cases hk:k=j
 ·subst hk
  simp only[AT,AA,if_true,VG,false_iff]
  exact fun h=>h.1 rfl
 ·rw[L8 hk,KL]
  exact⟨fun h=>⟨hk,h⟩,fun h=>h.2⟩
theorem U4{F:AI→AI}{ss:Ss}{j k:Nat}(hk:k≠j)(h:Ck (AA ss k)=true):Ck (AA ((j, .gone)::ss.map fun p=>(p.1,KK F p.2)) k)=true:=by
 simp only[AA,if_neg (Ne.symm hk),Eb,L9];exact h
theorem Bn.turn(I:Bn E Γ rv fp f H){j:Nat}{F:AI→AI}(hj:Ck (AA Γ.ss j)=false)
  (hF:(∀i,Pf E Γ.ss fp H i→Pf E (Γ.turn j F).ss fp H i)→ ∀φ v,¬CX j φ→FR rv Γ.ss (Pf E Γ.ss fp H) H φ v→FR rv (Γ.turn j F).ss (Pf E (Γ.turn j F).ss fp H) H (F φ) v∧FC rv (Γ.turn j F).ss (Pf E (Γ.turn j F).ss fp H) H (F φ) [v]):
  Bn E (Γ.turn j F) rv fp f H:=by
 have hlv: ∀k,AT (Γ.turn j F).ss k↔k≠j∧AT Γ.ss k:=Pt
 have keep: ∀φ,CX j φ→ ∀k,¬CX k φ→AT Γ.ss k→AT (Γ.turn j F).ss k∧(Ck (AA Γ.ss k)=true→Ck (AA (Γ.turn j F).ss k)=true):=fun φ h k hk l=>
  have hkj:k≠j:=fun e=>hk (e▸h)
  ⟨(hlv k).2 ⟨hkj,l⟩,U4 hkj⟩
 refine I.map (F:=IG j F) (fun k S e hg=> ?_) (fun _=>rfl) (fun hP φ v h=> ?_) (fun hP φ c h=> ?_)
 ·simp only[Cx.turn,AA]at e
  split at e
  ·cases e;exact absurd rfl hg
  ·rw[Eb]at e
   obtain⟨S0,h0,rfl⟩:=Option.map_eq_some_iff.1 e
   exact⟨S0,h0,rfl⟩
 ·by_cases hn:CX j φ
  ·rw[IF hn];exact h.weak hP (keep φ hn)
  ·rw[H8 (FR.noKeep hj h) hn];exact(hF hP φ v hn h).1
 ·by_cases hn:CX j φ
  ·rw[IF hn];exact h.weak hP (keep φ hn)
  ·have: ∃v,c=[v]∧FR rv Γ.ss (Pf E Γ.ss fp H) H φ v:=by
    cases φ<;>first|exact h|exact h.elim|exact absurd trivial hn
   obtain⟨v,rfl,h'⟩:=this
   rw[H8 (FR.noKeep hj h') hn]
   exact(hF hP φ v hn h').2
theorem FR.one{ss:Ss}{P:Nat→Prop}(hi: ∀j,AT ss j→B8 (rv j)≤H.length){φ:AI}{v:AV}{j:Nat}(hp: ∀i,P i→i<H.length)(hn: ¬CX j φ)(h:FR rv ss P H φ v):Bl [v]≤H.length:=by
 simpa [Bl]using FR.men hp hi (by rintro rfl;exact hn trivial) h
def Vg(t:T)(g:GS t.α):AI→AI
 | .own _=> .val (T.sl t) g
 |_=> .junk
theorem Bn.new(I:Bn E Γ rv fp f H){j:Nat}(hl:AT Γ.ss j)(hn:Nat.blt j Ul=true)(i:Nat)(h:fp j i):E.h.length≤i:=by
 rcases Nat.lt_or_ge i E.h.length with h'|h'
 ·have h1:=((I.fplt j i hl h).2 h').2
  have h2:j<Ul:=by rw[Nat.blt,Nat.ble_eq]at hn;exact hn
  omega
 ·exact h'
theorem Bn.frzRow(I:Bn E Γ rv fp f H){j:Nat}{t:T}{g:GS t.α}(hj:AA Γ.ss j=some (.row t g))(hnb:Nat.blt j Ul=true):Bn E (Γ.turn j (Vg t g)) rv fp f H:=by
 have hl:AT Γ.ss j:=Hg hj rfl
 have hn:=I.new hl hnb
 have hs:=I.slots j _ hj
 have hlv: ∀k,AT (Γ.turn j (Vg t g)).ss k↔k≠j∧AT Γ.ss k:=Pt
 refine I.turn (by rw[hj];rfl) fun hP φ v hr h=> ?_
 have hnk:IU j φ:=FR.noKeep (by rw[hj];rfl) h
 have hone:=FR.one I.rvlt I.ltP hr h
 cases φ with
 |own k=>
  simp only[CX,ne_eq,Decidable.not_not]at hr
  subst hr
  obtain⟨_,rfl⟩:=h
  have:JY t (Pf E (Γ.turn k (Vg t g)).ss fp H) H (rv k) g:=by
   cases g with
   |nil=>exact hs.1
   |mk l=>
    obtain⟨id,els,h1,h0,h2,h3⟩:=hs
    rw[h1]
    have hk:=(h0 id).2 rfl
    refine⟨Pf.gone I hl hk (fun k lk=>(hlv k).1 lk) (hn id hk),els,?_,h3.mono fun i hi=>⟨hP i hi,rfl⟩⟩
    simp[Dg,h2]
  exact⟨FB.2 this,_,rfl,this⟩
 |ep k i o=>exact⟨trivial,hone⟩
 |cp k o=>exact⟨trivial,hone⟩
 |oc k o s n=>exact⟨trivial,hone⟩
 |val t x=>exact absurd trivial hr
 |rp t x=>exact absurd trivial hr
 |tup l=>exact absurd trivial hr
 |junk=>exact absurd trivial hr
 |con c=>exact absurd trivial hr
 |kv k=>exact absurd hnk hr
 |fnv g js ks=>exact absurd hnk hr
 |aggk js=>exact absurd hnk hr
 |tupk js=>exact absurd hnk hr
def VI:Option D1→Prop
 |some (.keep _)=>True
 |_=>False
def IZ(ss:Ss):List Nat→Prop
 |[]=>True
 |j::r=>VI (AA ss j)∧IZ ss r
theorem SM{o:Option D1}(h:VI o):Ck o=true:=by
 unfold VI at h
 split at h
 ·rfl
 ·exact h.elim
theorem IY{ss:Ss}: ∀{l:List Nat},IZ ss l→Ja ss l
 |[],_,j,hj=>by cases hj
 |k::l,h,j,hj=>by
  rcases List.mem_cons.1 hj with rfl|hj
  ·exact SM h.1
  ·exact IY h.2 j hj
def Hd(ss:Ss):AI→Prop
 | .own k=>AT ss k
 | .ep k _ _=>AT ss k
 | .cp k _=>AT ss k
 | .oc k _ _ _=>AT ss k
 | .kv k=>IZ ss [k]
 | .fnv _ js ks=>IZ ss (js++ks)
 | .aggk js=>IZ ss js
 | .tupk js=>IZ ss js
 |_=>True
def S3(ss:Ss):List (Nat×AI)→Prop
 |[]=>True
 |p::r=>Hd ss p.2∧S3 ss r
def Zh(ss:Ss):D1→Prop
 | .cells ps=>S3 ss ps
 | .keep φ=>Hd ss φ
 | .ghost φ=>Hd ss φ
 | .rowk _ els=>IZ ss els.flatten
 |_=>True
def Ya(Γ:Cx)(ss:Ss):Ts→Prop
 |[]=>True
 |(t,φ)::r=>(B4 Γ.ts t=some φ∧Hd ss φ)∧Ya Γ ss r
def UV(Γ:Cx)(ss:Ss):Ss→Prop
 |[]=>True
 |(j,S)::r=>(AA Γ.ss j=some S∧Zh ss S)∧UV Γ ss r
def Sub(Γ' Γ:Cx):Prop:=Ya Γ Γ'.ss Γ'.ts∧UV Γ Γ'.ss Γ'.ss
theorem OW{ss:Ss}: ∀{ts:Ts} {t:Nat} {φ:AI},Ya Γ ss ts→B4 ts t=some φ→B4 Γ.ts t=some φ∧Hd ss φ
 |[],_,_,_,e=>by simp[B4]at e
 |(u,ψ)::r,t,φ,h,e=>by
  simp only[B4]at e
  split at e
  ·rename_i hu;cases e;subst hu;exact h.1
  ·exact OW h.2 e
theorem EQ{ss:Ss}: ∀{l:Ss} {j:Nat} {S:D1},UV Γ ss l→AA l j=some S→AA Γ.ss j=some S∧Zh ss S
 |[],_,_,_,e=>by simp[AA]at e
 |(u,ψ)::r,t,φ,h,e=>by
  simp only[AA]at e
  split at e
  ·rename_i hu;cases e;subst hu;exact h.1
  ·exact EQ h.2 e
theorem Np{ss:Ss}{φ:AI}(h:Hd ss φ): ∀j,¬CX j φ→AT ss j∧(¬IU j φ→Ck (AA ss j)=true):=by
 intro j hj
 have key: ∀{l:List Nat},IZ ss l→j∈l→AT ss j∧Ck (AA ss j)=true:=fun h hm=>⟨G4 (IY h j hm),IY h j hm⟩
 cases φ<;>first
  |exact absurd trivial hj
  |(simp only[CX,ne_eq,Decidable.not_not]at hj;subst hj;exact⟨h,fun hn=>absurd trivial hn⟩)
  |(simp only[CX,ne_eq,Decidable.not_not]at hj;exact⟨(key h (by simp[hj])).1,fun _=>(key h (by simp[hj])).2⟩)
  |exact⟨(key h (Decidable.not_not.1 hj)).1,fun _=>(key h (Decidable.not_not.1 hj)).2⟩
theorem No{ss:Ss}: ∀{ps:List (Nat×AI)},S3 ss ps→ ∀p∈ps,Hd ss p.2
 |[],_,p,hp=>by cases hp
 |q::r,h,p,hp=>by
  rcases List.mem_cons.1 hp with rfl|hp
  ·exact h.1
  ·exact No h.2 p hp
theorem Bn.sub{Γ':Cx}(I:Bn E Γ rv fp f H)(h:Sub Γ' Γ):Bn E Γ' rv fp f H:=by
 have hlv: ∀k,AT Γ'.ss k→AT Γ.ss k:=by
  intro k l
  cases e:AA Γ'.ss k with
  |none=>simp only[AT,e]at l;exact l.elim
  |some S=>
   have:=(EQ h.2 e).1
   simp only[AT,e]at l
   simp only[AT,this];exact l
 have hP: ∀i,Pf E Γ.ss fp H i→Pf E Γ'.ss fp H i:=fun i=>Pf.same hlv
 have hsame: ∀φ,Hd Γ'.ss φ→LQ rv rv Γ.ss Γ'.ss φ:=fun φ r j hj l=>by
  have hl:=(Np r j hj).1
  refine⟨⟨hl,fun e=> ?_⟩,rfl⟩
  cases e':AA Γ'.ss j with
  |none=>simp only[AT,e']at hl;exact hl.elim
  |some S=>rw[(EQ h.2 e').1]at e;exact e
 refine⟨I.le,I.base,I.wf,fun k i l e=>I.fplt k i (hlv k l) e,fun k l=>I.rvlt k (hlv k l),fun k l=>(I.scal k (hlv k l)).imp (fun e=> ?_) id,fun k k' i l l' e e'=>I.inj k k' i (hlv k l) (hlv k' l') e e',?_,?_,?_⟩
 ·cases e':AA Γ'.ss k with
  |none=>simp only[AT,e']at l;exact l.elim
  |some S=>rw[(EQ h.2 e').1]at e;exact e
 ·intro k S e
  obtain⟨e',r⟩:=EQ h.2 e
  refine(I.slots k S e').keep rfl rfl (fun i hi=>⟨hP i hi,rfl⟩) (Nat.le_refl _) (fun _ _=>rfl) (fun ps hps p hp=> ?_) (fun φ hφ=> ?_) fun sz els he=> ?_
  ·subst hps
   exact hsame p.2 (No r p hp)
  ·subst hφ
   exact hsame φ r
  ·subst he
   exact hsame (.aggk els.flatten) r
 ·intro t φ e
  obtain⟨e',r⟩:=OW h.1 e
  exact(I.temps t φ e').mono (fun i hi=>⟨hP i hi,rfl⟩) (hsame φ r)
 ·intro k φ e
  obtain⟨e',r⟩:=EQ h.2 e
  exact(I.gh k φ e').mono (fun i hi=>⟨hP i hi,rfl⟩) (hsame φ r)
end
end Go.Proofs.Ytapafbjgdfgodaa.Am
namespace Go.Proofs.Ytapafbjgdfgodaa.Am
def FP{σ β:Type}(F:σ→Option (σ⊕β)):Nat→σ→Option β
 |0,_=>none
 |n+1,s=>(F s).bind fun
  | .inl s'=>FP F n s'
  | .inr b=>some b
open Classical in
noncomputable def iter{σ β:Type}(F:σ→Option (σ⊕β))(s:σ):Option β:=
 if h: ∃n,(FP F n s).isSome=true then FP F (Classical.choose h) s else none
section
variable{σ β:Type}{F:σ→Option (σ⊕β)}
theorem Kr: ∀{n m:Nat} {s:σ} {b:β},n≤m→FP F n s=some b→FP F m s=some b
 |0,_,_,_,_,h=>by simp[FP]at h
 |n+1,0,_,_,hm,_=>by omega
 |n+1,m+1,s,b,hm,h=>by
  simp only[FP]at h ⊢
  obtain⟨r,hr,h⟩:=Option.bind_eq_some_iff.1 h
  rw[hr]
  cases r with
  |inl s'=>exact Kr (by omega) h
  |inr b'=>exact h
theorem Qt{n:Nat}{s:σ}{b:β}(h:FP F n s=some b):iter F s=some b:=by
 unfold iter
 have hx: ∃n,(FP F n s).isSome=true:=⟨n,by rw[h];rfl⟩
 rw[dif_pos hx]
 obtain⟨b',hb⟩:=Option.isSome_iff_exists.1 (Classical.choose_spec hx)
 have h1:=Kr (Nat.le_max_left n (Classical.choose hx)) h
 have h2:=Kr (Nat.le_max_right n (Classical.choose hx)) hb
 rw[hb,←h2,h1]
theorem LB{s:σ}{b:β}(h:iter F s=some b): ∃n,FP F n s=some b:=by
 unfold iter at h
 split at h
 ·exact⟨_,h⟩
 ·cases h
theorem DY{s s':σ}(h:F s=some (.inl s')):iter F s=iter F s':=by
 apply Option.ext
 intro b
 constructor
 ·intro e
  obtain⟨n,hn⟩:=LB e
  cases n with
  |zero=>simp[FP]at hn
  |succ n=>simp only[FP,h,Option.bind_some]at hn;exact Qt hn
 ·intro e
  obtain⟨n,hn⟩:=LB e
  exact Qt (n:=n+1) (by simp only[FP,h,Option.bind_some];exact hn)
theorem CY{s:σ}{b:β}(h:F s=some (.inr b)):iter F s=some b:=
 Qt (n:=1) (by simp only[FP,h,Option.bind_some])
end
inductive Kf where
 |seq (y:AC)
 |blk (id:Nat)
noncomputable def Fa(tb:Ce):List Kf→Ex×Fr×A3→Option (Ex×Fr×A3)
 |[],r=>some r
 | .seq y::ks,(.normal,f,h)=>(Bd tb (CF tb) y f h).bind (Fa tb ks)
 | .seq _::ks,r=>Fa tb ks r
 | .blk id::ks,(.exit id',f,h)=>if id'=id then Fa tb ks (.normal,f,h)else Fa tb ks (.exit id',f,h)
 | .blk _::ks,r=>Fa tb ks r
abbrev H6(ρ:Type):=JL→ρ→Ex→Fr→A3→Prop
structure Aa(tb:Ce)(Γ:Cx)(c:AC)(ks:List Kf){ρ:Type}(Q:H6 ρ) where
 m:Option ρ
 ok: ∀E f H,Rel E Γ f H→ ∀r,m=some r→ ∃e f' H',(Bd tb (CF tb) c f H).bind (Fa tb ks)=some (e,f',H')∧Q E r e f' H'
def rg(q:Bool)(l:List AZ):AC:=if q then .regq l else .reg l
section
variable{tb:Ce}{Γ:Cx}{ks:List Kf}{ρ:Type}{Q:H6 ρ}
def Aa.of{c c':AC}{ks':List Kf}(h: ∀f H,(Bd tb (CF tb) c' f H).bind (Fa tb ks')=(Bd tb (CF tb) c f H).bind (Fa tb ks))(s:Aa tb Γ c ks Q):Aa tb Γ c' ks' Q:=
 ⟨s.m,fun E f H R r hr=>by rw[h];exact s.ok E f H R r hr⟩
def Aa.weak{c:AC}{Γ':Cx}(s:Aa tb Γ' c ks Q)(h:Sub Γ' Γ):Aa tb Γ c ks Q:=
 ⟨s.m,fun E f H ⟨rv,fp,I⟩ r hr=>s.ok E f H ⟨rv,fp,I.sub h⟩ r hr⟩
def Aa.turn{c:AC}{Γ':Cx}(h: ∀E f H,Rel E Γ f H→Rel E Γ' f H)(s:Aa tb Γ' c ks Q):Aa tb Γ c ks Q:=
 ⟨s.m,fun E f H R r hr=>s.ok E f H (h E f H R) r hr⟩
def Aa.frzRow{c:AC}(j:Nat){t:T}{g:GS t.α}(h:AA Γ.ss j=some (.row t g))(hn:Nat.blt j Ul=true)(s:Aa tb (Γ.turn j (Vg t g)) c ks Q):Aa tb Γ c ks Q:=
 s.turn fun _ _ _ ⟨rv,fp,I⟩=>⟨rv,fp,I.frzRow h hn⟩
theorem Cr{q:Bool}{f:Fr}{H:A3}:Bd tb (CF tb) (rg q []) f H=some (.normal,f,H):=by
 cases q<;>simp[rg,Bd,ops,GD]
def Ai{x y:AC}(s:Aa tb Γ x (.seq y::ks) Q):Aa tb Γ (.seq x y) ks Q:=
 s.of fun f H=>by
  simp only[Bd]
  cases Bd tb (CF tb) x f H with
  |none=>rfl
  |some p=>obtain⟨e,f',H'⟩:=p;cases e<;>simp[Fa]
def AE{id:Nat}{x:AC}(s:Aa tb Γ x (.blk id::ks) Q):Aa tb Γ (.blk id x) ks Q:=
 s.of fun f H=>by
  simp only[Bd]
  cases Bd tb (CF tb) x f H with
  |none=>rfl
  |some p=>
   obtain⟨e,f',H'⟩:=p
   cases e<;>simp[Fa]
   split<;>simp
def Af{q:Bool}{y:AC}(s:Aa tb Γ y ks Q):Aa tb Γ (rg q []) (.seq y::ks) Q:=
 s.of fun f H=>by simp[Cr,Fa]
def AR{q:Bool}{id:Nat}(s:Aa tb Γ (rg q []) ks Q):Aa tb Γ (rg q []) (.blk id::ks) Q:=
 s.of fun f H=>by simp[Cr,Fa]
def Aa.skip(s:Aa tb Γ (rg false []) ks Q):Aa tb Γ .skip ks Q:=
 s.of fun f H=>by simp[Cr,Bd]
def Bb{id:Nat}{y:AC}(s:Aa tb Γ (.exit id) ks Q):Aa tb Γ (.exit id) (.seq y::ks) Q:=
 s.of fun f H=>by simp[Bd,Fa]
def Bc{id:Nat}(s:Aa tb Γ (rg false []) ks Q):Aa tb Γ (.exit id) (.blk id::ks) Q:=
 s.of fun f H=>by simp[Bd,Fa,Cr]
theorem Ni{f:Fr}{H:A3}: ∀ks:List Kf,Fa tb ks (.ret,f,H)=some (.ret,f,H)
 |[]=>rfl
 | .seq _::ks=>by simp[Fa,Ni ks]
 | .blk _::ks=>by simp[Fa,Ni ks]
def BB(tb:Ce)(Γ:Cx)(a:AO)(φ:AI):Prop:= ∀E rv fp f H,Bn E Γ rv fp f H→FR rv Γ.ss (Pf E Γ.ss fp H) H φ (eval tb f a)
def El(tb:Ce)(Γ:Cx)(o:Eu){β:Type}(a:Option β)(φ:β→AI):Prop:=
 ∀E rv fp f H,Bn E Γ rv fp f H→ ∀b,a=some b→ ∃v u,B7 tb (CF tb) (eval tb f) H o=some (v,u)∧u.getD H=H∧FR rv Γ.ss (Pf E Γ.ss fp H) H (φ b) v
theorem DQ{q:Bool}{d:Option Nat}{o:Eu}{l:List AZ}{f:Fr}{H:A3}{v:AV}{u:Option A3}(h:B7 tb (CF tb) (eval tb f) H o=some (v,u))(hu:u.getD H=H):
  Bd tb (CF tb) (rg q (⟨d,none,o⟩::l)) f H=Bd tb (CF tb) (rg q l) (put f d v) H:=by
 cases q<;>simp[rg,Bd,ops,GD,wanted,h,hu]
theorem Ec{d:Option Nat}{o:Eu}{l:List AZ}{f:Fr}{H:A3}{v:AV}{u:Option A3}(h:B7 tb (CF tb) (eval tb f) H o=some (v,u)):
  Bd tb (CF tb) (rg false (⟨d,none,o⟩::l)) f H=Bd tb (CF tb) (rg false l) (put f d v) (u.getD H):=by
 simp[rg,Bd,ops,wanted,h]
def Aa.op{q:Bool}{d:Nat}{o:Eu}{l:List AZ}{β:Type}{a:Option β}{φ:β→AI}(h:El tb Γ o a φ)(k:(b:β)→Aa tb (Γ.push d (φ b)) (rg q l) ks Q):Aa tb Γ (rg q (⟨some d,none,o⟩::l)) ks Q:=
 ⟨a.bind fun b=>(k b).m,fun E f H ⟨rv,fp,I⟩ r hr=>by
  obtain⟨b,hb,hr⟩:=Option.bind_eq_some_iff.1 hr
  obtain⟨v,u,h1,h2,h3⟩:=h E rv fp f H I b hb
  obtain⟨e,f',H',h4,h5⟩:=(k b).ok E (put f (some d) v) H ⟨rv,fp,I.push h3⟩ r hr
  exact⟨e,f',H',by rw[DQ h1 h2];exact h4,h5⟩⟩
def Al{q:Bool}{d:Nat}{o:Eu}{l:List AZ}{φ:AI}(h:El tb Γ o (some ()) fun _=>φ)(k:Aa tb (Γ.push d φ) (rg q l) ks Q):Aa tb Γ (rg q (⟨some d,none,o⟩::l)) ks Q:=
 ⟨k.m,fun E f H ⟨rv,fp,I⟩ r hr=>by
  obtain⟨v,u,h1,h2,h3⟩:=h E rv fp f H I () rfl
  obtain⟨e,f',H',h4,h5⟩:=k.ok E (put f (some d) v) H ⟨rv,fp,I.push h3⟩ r hr
  exact⟨e,f',H',by rw[DQ h1 h2];exact h4,h5⟩⟩
def Aq{q:Bool}{d:Nat}{o:Eu}{l:List AZ}{t:T}{x:t.α}(h:El tb Γ o (some ()) fun _=> .val t x)(k:(y:t.α)→Aa tb (Γ.push d (.val t y)) (rg q l) ks Q):Aa tb Γ (rg q (⟨some d,none,o⟩::l)) ks Q:=
 Al h (k x)
def Ix{q:Bool}{d:Nat}{o:Eu}{l:List AZ}{t:T}{x:t.α}(h:El tb Γ o (some ()) fun _=> .rp t x)(k:(y:t.α)→Aa tb (Γ.push d (.rp t y)) (rg q l) ks Q):Aa tb Γ (rg q (⟨some d,none,o⟩::l)) ks Q:=
 Al h (k x)
def Mr(tb:Ce)(Γ:Cx)(d:Option Nat)(o:Eu){β:Type}(a:Option β)(Γ':β→Cx):Prop:=
 ∀E rv fp f H,Bn E Γ rv fp f H→ ∀b,a=some b→ ∃v u,B7 tb (CF tb) (eval tb f) H o=some (v,u)∧ ∃rv' fp',Bn E (Γ' b) rv' fp' (put f d v) (u.getD H)
def Ej{d:Option Nat}{o:Eu}{l:List AZ}{β:Type}{a:Option β}{Γ':β→Cx}(h:Mr tb Γ d o a Γ')(k:(b:β)→Aa tb (Γ' b) (rg false l) ks Q):Aa tb Γ (rg false (⟨d,none,o⟩::l)) ks Q:=
 ⟨a.bind fun b=>(k b).m,fun E f H ⟨rv,fp,I⟩ r hr=>by
  obtain⟨b,hb,hr⟩:=Option.bind_eq_some_iff.1 hr
  obtain⟨v,u,h1,rv',fp',h3⟩:=h E rv fp f H I b hb
  obtain⟨e,f',H',h4,h5⟩:=(k b).ok E _ _ ⟨rv',fp',h3⟩ r hr
  exact⟨e,f',H',by rw[Ec h1];exact h4,h5⟩⟩
theorem F0{P:Nat→Prop}{H:A3}{v:AV}{x:Bool}:T.b.V P H v x↔v= .b x:=Oq
theorem CW{k:IntKind}{P:Nat→Prop}{H:A3}{v:AV}{x:Int}:(T.int k).V P H v x↔v= .i k x:=Oq
theorem Wz{P:Nat→Prop}{H:A3}{v:AV}{x:UInt8}:T.u8.V P H v x↔v= .i .u8 x.toNat:=Oq
theorem XB{P:Nat→Prop}{H:A3}{v:AV}{x:UInt32}:T.u32.V P H v x↔v= .i .u32 x.toNat:=Oq
theorem XA{P:Nat→Prop}{H:A3}{v:AV}{x:UInt64}:T.u64.V P H v x↔v= .i .u64 x.toNat:=Oq
def Aa.cond{a:AO}{b:Bool}{x y:AC}(h:BB tb Γ a (.val T.b b))(s:Aa tb Γ x ks Q)(s':Aa tb Γ y ks Q):Aa tb Γ (.cond a x y) ks Q:=
 ⟨if b=true then s.m else s'.m,fun E f H ⟨rv,fp,I⟩ r hr=>by
  have hv:=F0.1 (h E rv fp f H I)
  cases b with
  |true=>
   obtain⟨e,f',H',h4,h5⟩:=s.ok E f H ⟨rv,fp,I⟩ r (by simpa using hr)
   exact⟨e,f',H',by simp only[Bd,hv,if_true];exact h4,h5⟩
  |false=>
   obtain⟨e,f',H',h4,h5⟩:=s'.ok E f H ⟨rv,fp,I⟩ r (by simpa using hr)
   exact⟨e,f',H',by simp only[Bd,hv,Bool.false_eq_true,if_false];exact h4,h5⟩⟩
def Sl(tb:Ce){σ τ:Type}(Γl:σ→Cx)(Γx:τ→Cx)(id:Nat)(ks:List Kf)(Q:H6 ρ):H6 (σ⊕(τ⊕ρ)):=fun E r e f H=>
 match r with
 | .inl s=>e= .normal∧Rel E (Γl s) f H
 | .inr (.inl p)=>e= .exit id∧Rel E (Γx p) f H
 | .inr (.inr r)=>e≠ .normal∧ ∃e' f' H',Fa tb ks (e,f,H)=some (e',f',H')∧Q E r e' f' H'
theorem N1: ∀{l:List Nat} {f:Fr} {t:Nat},t∈l→get (keepL l f) t=get f t
 |u::l,f,t,h=>by
  simp only[keepL,List.map_cons,get]
  by_cases e:u=t
  ·subst e;rw[if_pos rfl]
  ·rw[if_neg e]
   rcases List.mem_cons.1 h with e'|h
   ·exact absurd e'.symm e
   ·exact N1 h
def TD(l:List Nat)(ts:Ts):Bool:=ts.all fun p=>l.any (Nat.beq p.1)
theorem Ny{l:List Nat}: ∀{ts:Ts} {t:Nat} {φ:AI},TD l ts=true→B4 ts t=some φ→t∈l
 |[],_,_,_,e=>by simp[B4]at e
 |(u,ψ)::r,t,φ,h,e=>by
  simp only[TD,List.all_cons,Bool.and_eq_true]at h
  simp only[B4]at e
  split at e
  ·rename_i hu
   subst hu
   obtain⟨x,hx,hb⟩:=List.any_eq_true.1 h.1
   have hb':u=x:=Nat.eq_of_beq_eq_true hb
   exact hb'▸hx
  ·exact Ny h.2 e
theorem Rel.keep{E:JL}{f:Fr}{H:A3}{l:List Nat}(h:TD l Γ.ts=true):Rel E Γ f H→Rel E Γ (keepL l f) H
 |⟨rv,fp,I⟩=>⟨rv,fp,I.fr fun _ _ e=>N1 (Ny h e)⟩
noncomputable def Aa.loop{σ τ:Type}{lv:List Nat}{x:AC}{id:Nat}(Γl:σ→Cx)(Γx:τ→Cx)(s0:σ)(h0:Sub (Γl s0) Γ)(hl: ∀s,TD lv (Γl s).ts=true)
  (body:(s:σ)→Aa tb (Γl s) x [] (Sl tb Γl Γx id ks Q)) (k:(p:τ)→Aa tb (Γx p) (.exit id) ks Q):Aa tb Γ (.loop lv x) ks Q:=
 ⟨(iter (fun s=>(body s).m) s0).bind (Sum.elim (fun p=>(k p).m) some),fun E f H ⟨rv,fp,I⟩ r hr=>by
  obtain⟨b,hb,hr⟩:=Option.bind_eq_some_iff.1 hr
  obtain⟨n,hn⟩:=LB hb
  have key: ∀n s f H,Rel E (Γl s) f H→FP (fun s=>(body s).m) n s=some b→ ∃e f' H',Mz (Gf lv (Bd tb (CF tb) x)) n f H=some (e,f',H')∧e≠ .normal∧Sl tb Γl Γx id ks Q E (.inr b) e f' H':=by
   intro n
   induction n with
   |zero=>intro s f H _ h;simp[FP]at h
   |succ n ih=>
    intro s f H R h
    simp only[FP]at h
    obtain⟨r1,h1,h⟩:=Option.bind_eq_some_iff.1 h
    obtain⟨e,f',H',h2,h3⟩:=(body s).ok E (keepL lv f) H (R.keep (hl s)) r1 h1
    have h2':Bd tb (CF tb) x (keepL lv f) H=some (e,f',H'):=by
     obtain⟨p,hp,h2⟩:=Option.bind_eq_some_iff.1 h2
     rw[hp,←h2];rfl
    cases r1 with
    |inl s'=>
     obtain⟨rfl,R'⟩:=h3
     obtain⟨e2,f2,H2,h4,h5⟩:=ih s' (keepL lv f') H' (R'.keep (hl s')) h
     exact⟨e2,f2,H2,by simp only[Mz,Gf,h2',Option.map_some];exact h4,h5⟩
    |inr b'=>
     simp only[Option.some.injEq]at h
     subst h
     have hne:e≠ .normal:=by
      cases b' with
      |inl p=>rw[h3.1];simp
      |inr r=>exact h3.1
     refine⟨e,f',H',?_,hne,h3⟩
     simp only[Mz,Gf,h2',Option.map_some]
     cases e<;>first|exact absurd rfl hne|rfl
  obtain⟨e,f1,H1,h1,h2,h3⟩:=key n s0 f H ⟨rv,fp,I.sub h0⟩ hn
  have hlp:Bd tb (CF tb) (.loop lv x) f H=some (e,f1,H1):=by
   simp only[Bd]
   exact VD _ h1
  rw[hlp]
  cases b with
  |inr r'=>
   simp only[Sum.elim_inr,Option.some.injEq]at hr
   subst hr
   exact h3.2
  |inl p=>
   obtain⟨rfl,R⟩:=h3
   simp only[Sum.elim_inl]at hr
   obtain⟨e2,f2,H2,h4,h5⟩:=(k p).ok E f1 H1 R r hr
   exact⟨e2,f2,H2,by simpa [Bd]using h4,h5⟩⟩
def AY{q:Bool}{σ τ:Type}{Γl:σ→Cx}{Γx:τ→Cx}{id:Nat}(s:σ)(h:Sub (Γl s) Γ):Aa tb Γ (rg q []) [] (Sl tb Γl Γx id ks Q):=
 ⟨some (.inl s),fun E f H ⟨rv,fp,I⟩ r hr=>by
  cases hr
  exact⟨.normal,f,H,by simp[Cr,Fa],rfl,rv,fp,I.sub h⟩⟩
def B1{σ τ:Type}{Γl:σ→Cx}{Γx:τ→Cx}{id:Nat}(p:τ)(h:Sub (Γx p) Γ):Aa tb Γ (.exit id) [] (Sl tb Γl Γx id ks Q):=
 ⟨some (.inr (.inl p)),fun E f H ⟨rv,fp,I⟩ r hr=>by
  cases hr
  exact⟨.exit id,f,H,by simp[Bd,Fa],rfl,rv,fp,I.sub h⟩⟩
def Ou(s:Aa tb Γ .ret [] Q):Aa tb Γ .ret ks Q:=
 s.of fun f H=>by simp[Bd,Ni,Fa]
def Bq{σ τ:Type}{Γl:σ→Cx}{Γx:τ→Cx}{id:Nat}{ks':List Kf}(s:Aa tb Γ .ret ks Q):Aa tb Γ .ret ks' (Sl tb Γl Γx id ks Q):=
 Ou ⟨s.m.map fun r=> .inr (.inr r),fun E f H R r hr=>by
  obtain⟨r',h1,rfl⟩:=Option.map_eq_some_iff.1 hr
  obtain⟨e,f',H',h2,h3⟩:=s.ok E f H R r' h1
  refine⟨.ret,f,H,by simp[Bd,Fa],by simp,e,f',H',?_,h3⟩
  simpa [Bd]using h2⟩
end
end Go.Proofs.Ytapafbjgdfgodaa.Am
namespace Go.Proofs.Ytapafbjgdfgodaa.Am
def CP:List T→Type
 |[]=>Unit
 |[a]=>a.α
 |a::b::r=>a.α×CP (b::r)
def MG(P:Nat→Prop)(H:A3):(l:List T)→List AV→CP l→Prop
 |[],vs,_=>vs=[]
 |[a],vs,x=> ∃v,vs=[v]∧a.V P H v x
 |a::b::r,vs,x=> ∃v q,vs=v::q∧a.V P H v x.1∧MG P H (b::r) q x.2
def Z5(P:Nat→Prop)(H:A3)(l:List T)(v:AV)(x:CP l):Prop:= ∃vs,v=EL vs∧MG P H l vs x
structure Z8(tb:Ce)(g:Nat)(P:Nat→Prop)(h:A3)(args:List AV)(Rs:List T)(r:CP Rs):Prop where
 call: ∃v u,C2 tb (CF tb) h g args=some (v,u)∧u.getD h=h∧Z5 P h Rs v r
def Spec(tb:Ce)(g:Nat)(As Rs:List T)(F:CP As→Option (CP Rs)):Prop:=
 ∀(P:Nat→Prop) (h:A3) (args:List AV) (xs:CP As),(∀i,P i→i<h.length)→CB h≤h.length→MG P h As args xs→ ∀r,F xs=some r→Z8 tb g P h args Rs r
section
variable{tb:Ce}
theorem MG.mono{P Q:Nat→Prop}{H G:A3}(m: ∀i,P i→Q i∧G[i]? =H[i]?): ∀{l:List T} {vs:List AV} {x:CP l},MG P H l vs x→MG Q G l vs x
 |[],_,_,h=>h
 |[a],_,_,⟨v,e,h⟩=>⟨v,e,h.mono m⟩
 |_::_::_,_,_,⟨v,q,e,h,g⟩=>⟨v,q,e,h.mono m,MG.mono m g⟩
theorem MG.frz{P Q:Nat→Prop}{H:A3}{n:Nat}(hw:CB (H.take n)≤n)(hp: ∀i,P i→i<n→Q i): ∀{l:List T} {vs:List AV} {x:CP l},(∀t∈l,t.dep≤11)→MG P H l vs x→
  ∃vs',VU H n vs=some vs'∧MG Q (H.take n) l vs' x
 |[],_,_,_,h=>by rw[show _=[]from h];exact⟨[],rfl,rfl⟩
 |[a],_,_,hd,⟨v,e,h⟩=>by
  obtain⟨v',e',r⟩:=h.frz (d:=11) (hd a List.mem_cons_self) (by omega) hw hp
  exact⟨[v'],by rw[e];simp[VU,Cz,e'],v',rfl,r⟩
 |a::b::l,_,_,hd,⟨v,q,e,h,g⟩=>by
  obtain⟨v',e',r⟩:=h.frz (d:=11) (hd a List.mem_cons_self) (by omega) hw hp
  obtain⟨q',e2,r2⟩:=MG.frz hw hp (fun t ht=>hd t (List.mem_cons_of_mem _ ht)) g
  refine⟨v'::q',?_,v',q',rfl,r,r2⟩
  have e2':Cz (Am.frz H n 12) q=some q':=e2
  rw[e];simp[VU,Cz,e',e2']
def ZH(E:JL)(Rs:List T)(res:List Ge)(r:CP Rs)(f:Fr)(H:A3):Prop:=
 ∃P vs,(∀i,P i→i<E.h.length→E.P0 i)∧results f H res=some vs∧MG P H Rs vs r∧E.h.length≤H.length∧ ∀i,i<E.h.length→E.K i→H[i]? =E.h[i]?
def XE(Rs:List T)(res:List Ge):H6 (CP Rs):=fun E r e f H=>(e= .ret∨e= .normal)∧ZH E Rs res r f H
def XD(Γ:Cx)(a:Ge)(t:T)(x:t.α):Prop:=
 ∀E rv fp f H,Bn E Γ rv fp f H→ ∀r vs,results f H r=some vs→ ∃v,results f H (a::r)=some (v::vs)∧t.V (Pf E Γ.ss fp H) H v x
inductive Sk(Γ:Cx):(Rs:List T)→List Ge→CP Rs→Type 1 where
 |nil:Sk Γ [] [] ()
 |one {a:Ge} {t:T} {x:t.α}:XD Γ a t x→Sk Γ [t] [a] x
 |cons {a:Ge} {t u:T} {x:t.α} {Rs:List T} {l:List Ge} {y:CP (u::Rs)}:XD Γ a t x→Sk Γ (u::Rs) l y→Sk Γ (t::u::Rs) (a::l) (x,y)
theorem Sk.spec{Γ:Cx}{E:JL}{rv:Nat→AV}{fp:Fp}{f:Fr}{H:A3}(I:Bn E Γ rv fp f H): ∀{Rs:List T} {l:List Ge} {y:CP Rs},Sk Γ Rs l y→ ∃vs,results f H l=some vs∧MG (Pf E Γ.ss fp H) H Rs vs y
 |_,_,_, .nil=>⟨[],rfl,rfl⟩
 |_,_,_, .one h=>by
  obtain⟨v,h1,h2⟩:=h E rv fp f H I [] [] rfl
  exact⟨[v],h1,v,rfl,h2⟩
 |_,_,_, .cons h r=>by
  obtain⟨vs,g1,g2⟩:=r.spec I
  obtain⟨v,h1,h2⟩:=h E rv fp f H I _ vs g1
  exact⟨v::vs,h1,v,vs,rfl,h2,g2⟩
def Aa.ret{Γ:Cx}{ks:List Kf}{Rs:List T}{res:List Ge}{r:CP Rs}(h:Sk Γ Rs res r):Aa tb Γ .ret ks (XE Rs res):=
 Ou ⟨some r,fun E f H ⟨rv,fp,I⟩ r' hr=>by
  cases hr
  obtain⟨vs,h1,h2⟩:=h.spec I
  refine⟨.ret,f,H,by simp[Bd,Fa], .inl rfl,Pf E Γ.ss fp H,vs,?_,h1,h2,I.le,I.base⟩
  rintro i (h|h) hi
  ·exact h.2
  ·omega⟩
def Aa.fin{Γ:Cx}{q:Bool}{Rs:List T}{res:List Ge}{r:CP Rs}(h:Sk Γ Rs res r):Aa tb Γ (rg q []) [] (XE Rs res):=
 ⟨some r,fun E f H ⟨rv,fp,I⟩ r' hr=>by
  cases hr
  obtain⟨vs,h1,h2⟩:=h.spec I
  refine⟨.normal,f,H,by simp[Cr,Fa], .inr rfl,Pf E Γ.ss fp H,vs,?_,h1,h2,I.le,I.base⟩
  rintro i (h|h) hi
  ·exact h.2
  ·omega⟩
theorem Bk{Γ:Cx}{n:Nat}{t:T}{x:t.α}(h:B4 Γ.ts n=some (.val t x)):XD Γ (.tmp n) t x:=by
 intro E rv fp f H I r vs hr
 exact⟨_,by simp[results,hr],I.temps n _ h⟩
def Mo:(l:List T)→Nat→CP l→Ts
 |[],_,_=>[]
 |[a],k,x=>[(k, .val a x)]
 |a::b::r,k,x=>(k, .val a x.1)::Mo (b::r) (k+1) x.2
theorem P7{P:Nat→Prop}{H:A3}{rv:Nat→AV}{ss:Ss}: ∀{l:List T} {vs:List AV} {k:Nat} {x:CP l},MG P H l vs x→ ∀t φ,B4 (Mo l k x) t=some φ→k≤t∧FR rv ss P H φ (get ((vs.zipIdx k).map fun p=>(p.2,p.1)) t)
 |[],_,_,_,_,t,φ,e=>by simp[Mo,B4]at e
 |[a],_,k,x,⟨v,rfl,h⟩,t,φ,e=>by
  simp only[Mo,B4]at e
  split at e
  ·rename_i hk
   cases e
   subst hk
   exact⟨Nat.le_refl _,by simpa [get,FR]using h⟩
  ·cases e
 |a::b::r,_,k,x,⟨v,q,rfl,h,g⟩,t,φ,e=>by
  simp only[Mo,B4]at e
  simp only[List.zipIdx_cons,List.map_cons,get]
  split at e
  ·rename_i hk
   cases e
   subst hk
   exact⟨Nat.le_refl _,by rw[if_pos rfl];exact h⟩
  ·rename_i hk
   obtain⟨h1,h2⟩:=P7 g t φ e
   exact⟨by omega,by rw[if_neg hk];exact h2⟩
theorem MG.length{P:Nat→Prop}{H:A3}: ∀{l:List T} {vs:List AV} {x:CP l},MG P H l vs x→vs.length=l.length
 |[],_,_,h=>by rw[show _=[]from h];rfl
 |[a],_,_,⟨v,rfl,h⟩=>rfl
 |a::b::r,_,_,⟨v,q,rfl,h,g⟩=>by simp[MG.length g]
theorem Spec.of{g:Nat}{fn:EP}{As Rs:List T}(hf:tb.prim g=none∧tb.fns g=some fn)(hw:fn.warm=false)(hn:fn.np=As.length)(hd:Rs.all (fun t=>Nat.ble t.dep 11)=true)
  (s:(xs:CP As)→Aa tb ⟨Mo As 0 xs,[]⟩ fn.body [] (XE Rs fn.res)):Spec tb g As Rs fun xs=>(s xs).m:=by
 intro P h args xs hP hwf hargs r hr
 let E:JL:=⟨h,P,fun _=>True,hP,fun _ _=>trivial,fun _=> .junk⟩
 have hPf: ∀i,P i→Pf E [] (fun _ _=>False) h i∧h[i]? =h[i]? :=fun i hi=>⟨.inl ⟨hP i hi,hi⟩,rfl⟩
 have I:Bn E ⟨Mo As 0 xs,[]⟩ (fun _=> .junk) (fun _ _=>False) (args.zipIdx.map fun p=>(p.2,p.1)) h:=by
  refine⟨Nat.le_refl _,fun _ _ _=>rfl,hwf,fun j id l=>l.elim,fun j l=>l.elim,fun j l=>l.elim,fun j k id l=>l.elim,fun j S e=>by simp[AA]at e,fun t φ e=> ?_,fun j φ e=>by simp[AA]at e⟩
  exact(P7 (hargs.mono hPf) t φ e).2
 obtain⟨e,f',H',h1,he,P',vs,hP',h2,h3,hle,hbase⟩:=(s xs).ok E _ h ⟨_,_,I⟩ r hr
 have h4:H'.take h.length=h:=by
  apply List.ext_getElem?
  intro i
  rw[List.getElem?_take]
  split
  ·rename_i hi;exact hbase i hi trivial
  ·rename_i hi;rw[List.getElem?_eq_none (by omega)]
 have h1':Bd tb (CF tb) fn.body (args.zipIdx.map fun p=>(p.2,p.1)) h=some (e,f',H'):=by
  obtain⟨p,hp,h1⟩:=Option.bind_eq_some_iff.1 h1
  rw[hp,←h1];rfl
 have hwf':CB (H'.take h.length)≤h.length:=by rw[h4];exact hwf
 obtain⟨vs',h5,h6⟩:=h3.frz hwf' hP' fun t ht=>Nat.le_of_ble_eq_true (List.all_eq_true.1 hd t ht)
 have hbody:body tb (CF tb) fn args h=some (EL vs',some h):=by
  have hnp:args.length=fn.np:=by rw[hn,hargs.length]
  simp only[body,hnp,if_true,h1',Option.bind_some]
  have hq:S5 fn.warm h.length H' vs=(EL vs',some h):=by
   rw[hw]
   simp only[S5,Ro,h5]
   rw[if_pos hwf',h4]
  rcases he with rfl|rfl
  ·simp[h2,hq]
  ·simp[h2,hq]
 refine⟨EL vs',some h,?_,rfl,vs',rfl,by rw[h4]at h6;exact h6⟩
 simp only[C2,hf.1]
 rw[Wi,hf.2]
 simp only[Option.bind_some]
 exact hbody
end
end Go.Proofs.Ytapafbjgdfgodaa.Am
namespace Go.Proofs.Ytapafbjgdfgodaa.Am
section
variable{tb:Ce}{Γ:Cx}
theorem IE{n:Nat}{φ:AI}(h:B4 Γ.ts n=some φ):BB tb Γ (.t n) φ:=fun _ _ _ _ _ I=>I.temps n φ h
def XT(ts:Ts)(n:Nat):AI:=match B4 ts n with
 |some φ=>φ
 |none=> .junk
theorem Ah{n:Nat}:BB tb Γ (.t n) (XT Γ.ts n):=fun E rv fp f H I=>by
 unfold XT
 cases h:B4 Γ.ts n with
 |none=>trivial
 |some φ=>exact I.temps n φ h
theorem r_{α:Sort _}{a:α}:a=a:=rfl
theorem BA{k:IntKind}{n:Int}:BB tb Γ (.k (.i k n)) (.val (T.int k) n):=fun _ _ _ _ _ _=>CW.2 rfl
theorem CM{x:Bool}:BB tb Γ (.k (.b x)) (.val T.b x):=fun _ _ _ _ _ _=>F0.2 rfl
theorem Xo{n:Int}(x:UInt8)(h:n=x.toNat):BB tb Γ (.k (.i .u8 n)) (.val T.u8 x):=fun _ _ _ _ _ _=>Wz.2 (by rw[h];rfl)
theorem GF{t:T}:BB tb Γ (.k .nils) (.val (T.sl t) .nil):=fun _ _ _ _ _ _=>FB.2 rfl
theorem AQ{a:AO}{φ:AI}(h:BB tb Γ a φ):El tb Γ (.mv a) (some ()) fun _=>φ:=
 fun E rv fp f H I _ _=>⟨_,none,rfl,rfl,h E rv fp f H I⟩
structure IT where
 t:T
 k:IntKind
 toI:t.α→Int
 ofI:Int→t.α
 V: ∀{P:Nat→Prop} {H:A3} {v:AV} {x:t.α},t.V P H v x↔v= .i k (toI x)
 h: ∀n,toI (ofI n)=k.wrap n
theorem WE(n:Int):IntKind.u8.wrap n=n%256:=by simp[IntKind.wrap,IntKind.bits,IntKind.signed]
theorem UT(n:Int):IntKind.u32.wrap n=n%4294967296:=by simp[IntKind.wrap,IntKind.bits,IntKind.signed]
theorem US(n:Int):IntKind.u64.wrap n=n%18446744073709551616:=by simp[IntKind.wrap,IntKind.bits,IntKind.signed]
def IT.int(k:IntKind):IT:=⟨T.int k,k,fun x=>x,k.wrap,CW,fun _=>rfl⟩
def IT.u8:IT:=⟨T.u8, .u8,fun x:UInt8=>(x.toNat:Int),fun n=>UInt8.ofNat (n%256).toNat,Wz,fun n=>by
 rw[WE,UInt8.toNat_ofNat'];omega⟩
def IT.u32:IT:=⟨T.u32, .u32,fun x:UInt32=>(x.toNat:Int),fun n=>UInt32.ofNat (n%4294967296).toNat,XB,fun n=>by
 rw[UT,UInt32.toNat_ofNat'];omega⟩
def IT.u64:IT:=⟨T.u64, .u64,fun x:UInt64=>(x.toNat:Int),fun n=>UInt64.ofNat (n%18446744073709551616).toNat,XA,fun n=>by
 rw[US,UInt64.toNat_ofNat'];omega⟩
theorem Jg{rv:Nat→AV}{ss:Ss}{P:Nat→Prop}{H:A3}{I:IT}{x:I.t.α}{v:AV}(h:FR rv ss P H (.val I.t x) v):v= .i I.k (I.toI x):=I.V.1 h
theorem NG{rv:Nat→AV}{ss:Ss}{P:Nat→Prop}{H:A3}(I:IT){n:Int}:FR rv ss P H (.val I.t (I.ofI n)) (.i I.k (I.k.wrap n)):=I.V.2 (by rw[I.h])
section
variable{I J:IT}{x y:I.t.α}{a b:AO}
theorem BR(ha:BB tb Γ a (.val I.t x))(hb:BB tb Γ b (.val I.t y)):El tb Γ (.bin .add a b) (some (I.ofI (I.toI x+I.toI y))) fun z=> .val I.t z:=by
 rintro E rv fp f H R z ⟨⟩
 exact⟨_,none,by simp only[B7,Jg (ha E rv fp f H R),Jg (hb E rv fp f H R),bin,if_true];rfl,rfl,NG I⟩
theorem R7(ha:BB tb Γ a (.val I.t x))(hb:BB tb Γ b (.val I.t y)):El tb Γ (.bin .sub a b) (some (I.ofI (I.toI x-I.toI y))) fun z=> .val I.t z:=by
 rintro E rv fp f H R z ⟨⟩
 exact⟨_,none,by simp only[B7,Jg (ha E rv fp f H R),Jg (hb E rv fp f H R),bin,if_true];rfl,rfl,NG I⟩
theorem Zs(ha:BB tb Γ a (.val I.t x))(hb:BB tb Γ b (.val I.t y)):El tb Γ (.bin .mul a b) (some (I.ofI (I.toI x*I.toI y))) fun z=> .val I.t z:=by
 rintro E rv fp f H R z ⟨⟩
 exact⟨_,none,by simp only[B7,Jg (ha E rv fp f H R),Jg (hb E rv fp f H R),bin,if_true];rfl,rfl,NG I⟩
theorem R8(ha:BB tb Γ a (.val I.t x))(hb:BB tb Γ b (.val I.t y)):El tb Γ (.bin .quo a b) (if I.toI y=0 then none else some (I.ofI ((I.toI x).tdiv (I.toI y)))) fun z=> .val I.t z:=by
 intro E rv fp f H R z hz
 split at hz
 ·cases hz
 ·rename_i h0
  cases hz
  exact⟨_,none,by simp only[B7,Jg (ha E rv fp f H R),Jg (hb E rv fp f H R),bin,if_true,if_neg h0];rfl,rfl,NG I⟩
def Wp(op:BinOp)(k:IntKind)(x y:Int):Int:=
 match op with
 | .and=>(BitVec.ofInt k.bits x&&&BitVec.ofInt k.bits y).toNat
 | .or=>(BitVec.ofInt k.bits x|||BitVec.ofInt k.bits y).toNat
 | .xor=>(BitVec.ofInt k.bits x^^^BitVec.ofInt k.bits y).toNat
 |_=>(BitVec.ofInt k.bits x&&& ~~~(BitVec.ofInt k.bits y)).toNat
theorem Zu(ha:BB tb Γ a (.val I.t x))(hb:BB tb Γ b (.val I.t y)):El tb Γ (.bin .and a b) (some (I.ofI (Wp .and I.k (I.toI x) (I.toI y)))) fun z=> .val I.t z:=by
 rintro E rv fp f H R z ⟨⟩
 exact⟨_,none,by simp only[B7,Jg (ha E rv fp f H R),Jg (hb E rv fp f H R),bin,if_true];rfl,rfl,NG I⟩
theorem Zr{y:J.t.α}(ha:BB tb Γ a (.val I.t x))(hb:BB tb Γ b (.val J.t y)):El tb Γ (.bin .shl a b) (if J.toI y<0 then none else some (I.ofI (I.toI x*2^(min (J.toI y).toNat I.k.bits)))) fun z=> .val I.t z:=by
 intro E rv fp f H R z hz
 split at hz
 ·cases hz
 ·rename_i h0
  cases hz
  exact⟨_,none,by simp only[B7,Jg (ha E rv fp f H R),Jg (hb E rv fp f H R),bin,if_neg h0];rfl,rfl,NG I⟩
def X1:BinOp→Int→Int→Bool
 | .eql,x,y=>decide (x=y)
 | .neq,x,y=> !decide (x=y)
 | .lss,x,y=>decide (x<y)
 | .leq,x,y=>decide (x≤y)
 | .gtr,x,y=>decide (y<x)
 |_,x,y=>decide (y≤x)
def TI:BinOp→Bool
 | .eql| .neq| .lss| .leq| .gtr| .geq=>true
 |_=>false
theorem X5{op:BinOp}{k:IntKind}{x y:Int}(h:TI op=true):bin op (.i k x) (.i k y)=some (.b (X1 op x y)):=by
 cases op<;>simp only[TI,Bool.false_eq_true]at h<;>simp only[bin,if_true,X1]<;>rfl
theorem NC{op:BinOp}(h:TI op=true)(ha:BB tb Γ a (.val I.t x))(hb:BB tb Γ b (.val I.t y)):El tb Γ (.bin op a b) (some (X1 op (I.toI x) (I.toI y))) fun z=> .val T.b z:=by
 rintro E rv fp f H R z ⟨⟩
 exact⟨_,none,by simp only[B7,Jg (ha E rv fp f H R),Jg (hb E rv fp f H R),X5 h];rfl,rfl,F0.2 rfl⟩
theorem VQ{k:IntKind}(hk:k=J.k)(ha:BB tb Γ a (.val I.t x)):El tb Γ (.cvi k a) (some (J.ofI (I.toI x))) fun z=> .val J.t z:=by
 rintro E rv fp f H R z ⟨⟩
 subst hk
 exact⟨_,none,by simp only[B7,Jg (ha E rv fp f H R)],rfl,NG J⟩
theorem XS{mx:Bool}(ha:BB tb Γ a (.val I.t x))(hb:BB tb Γ b (.val I.t y)):El tb Γ (.mnx mx a b) (some (if mx then(if I.toI y>I.toI x then y else x)else(if I.toI y<I.toI x then y else x))) fun z=> .val I.t z:=by
 rintro E rv fp f H R z ⟨⟩
 refine⟨_,none,by simp only[B7,Jg (ha E rv fp f H R),Jg (hb E rv fp f H R),if_true];rfl,rfl,I.V.2 ?_⟩
 cases mx<;>simp only[if_true,Bool.false_eq_true,if_false]<;>split<;>rfl
end
theorem VO{k:IntKind}{x y:Int}{a b:AO}(ha:BB tb Γ a (.val (T.int k) x))(hb:BB tb Γ b (.val (T.int k) y)):El tb Γ (.bin .rem a b) (if y=0 then none else some (x.tmod y)) fun z=> .val (T.int k) z:=by
 intro E rv fp f H R z hz
 split at hz
 ·cases hz
 ·rename_i h0
  cases hz
  exact⟨_,none,by simp only[B7,CW.1 (ha E rv fp f H R),CW.1 (hb E rv fp f H R),bin,if_true,if_neg h0];rfl,rfl,CW.2 rfl⟩
section
variable{a b:AO}
theorem BI{x:Bool}(ha:BB tb Γ a (.val T.b x)):El tb Γ (.un .not a) (some (!x)) fun z=> .val T.b z:=by
 rintro E rv fp f H R z ⟨⟩
 exact⟨_,none,by simp only[B7,F0.1 (ha E rv fp f H R),un];rfl,rfl,F0.2 rfl⟩
def Gg{α:Type}(l:List α)(i:Int):Option α:=if 0≤i then l[i.toNat]? else none
def WB(len:Nat)(lo hi:Option Int):Option (Nat×Nat):=
 (match hi with
  |none=>some len
  |some n=>if 0≤n∧n≤len then some n.toNat else none).bind fun h=>
 (match lo with
  |none=>some 0
  |some n=>if 0≤n∧n≤h then some n.toNat else none).bind fun l=>some (l,h)
inductive WD(tb:Ce)(Γ:Cx):Option AO→Option Int→Prop where
 |none:WD tb Γ none none
 |some {a:AO} {k:IntKind} {n:Int}:BB tb Γ a (.val (T.int k) n)→WD tb Γ (some a) (some n)
theorem P4{lo hi:Option AO}{l h:Option Int}(hl:WD tb Γ lo l)(hh:WD tb Γ hi h){E:JL}{rv:Nat→AV}{fp:Fp}{f:Fr}{H:A3}(R:Bn E Γ rv fp f H)(len:Nat):DS (eval tb f) len lo hi=WB len l h:=by
 cases hl with
 |none=>
  cases hh with
  |none=>rfl
  |some hh=>simp only[DS,WB,EN,CW.1 (hh E rv fp f H R),Gr,Option.bind_some]
 |some hl=>
  cases hh with
  |none=>simp only[DS,WB,EN,CW.1 (hl E rv fp f H R),Gr,Option.bind_some]
  |some hh=>simp only[DS,WB,EN,CW.1 (hl E rv fp f H R),CW.1 (hh E rv fp f H R),Gr,Option.bind_some]
variable{x y:ZR}
end
def gd(g:Nat)(w:Bool)(o:AZ):AZ:=match o.g with
 |none=>{o with g:=some (g,w)}
 |some _=>o
def T2:List Nat→List AZ→Bool
 |_,[]=>true
 |seen,o::r=>(match o.g with
  |none=>true
  |some (t,_)=>seen.any (Nat.beq t))&&T2 (match o.d with|some d=>d::seen|none=>seen) r
def FY(l:List AZ):List Nat:=l.filterMap (·.d)
structure AD(tb:Ce)(Γ:Cx)(q:Bool)(l:List AZ)(t:Nat) where
 m:Option Bool
 ok: ∀E rv fp f H,Bn E Γ rv fp f H→ ∀b,m=some b→ ∃f',Bd tb (CF tb) (rg q l) f H=some (.normal,f',H)∧get f' t= .b b∧ ∀u,u∉FY l→get f' u=get f u
def AD.nil{q:Bool}{t:Nat}{b:Bool}(h:BB tb Γ (.t t) (.val T.b b)):AD tb Γ q [] t:=
 ⟨some b,fun E rv fp f H I _ hb=>by
  cases hb
  exact⟨f,Cr,F0.1 (h E rv fp f H I),fun _ _=>rfl⟩⟩
def AD.op{q:Bool}{t d:Nat}{o:Eu}{l:List AZ}{β:Type}{a:Option β}{φ:β→AI}(h:El tb Γ o a φ)(k:(b:β)→AD tb (Γ.push d (φ b)) q l t):AD tb Γ q (⟨some d,none,o⟩::l) t:=
 ⟨a.bind fun b=>(k b).m,fun E rv fp f H I r hr=>by
  obtain⟨b,hb,hr⟩:=Option.bind_eq_some_iff.1 hr
  obtain⟨v,u,h1,h2,h3⟩:=h E rv fp f H I b hb
  obtain⟨f',h4,h5,h6⟩:=(k b).ok E rv fp (put f (some d) v) H (I.push h3) r hr
  refine⟨f',by rw[DQ h1 h2];exact h4,h5,fun u hu=> ?_⟩
  simp only[FY,List.filterMap_cons,List.mem_cons,not_or]at hu
  rw[h6 u hu.2]
  simp only[put,get]
  rw[if_neg (Ne.symm hu.1)]⟩
def A6{q:Bool}{t d:Nat}{o:Eu}{l:List AZ}{u:T}{x:u.α}(h:El tb Γ o (some ()) fun _=> .val u x)(k:(y:u.α)→AD tb (Γ.push d (.val u y)) q l t):AD tb Γ q (⟨some d,none,o⟩::l) t:=
 ⟨(k x).m,(AD.op (a:=some ()) (φ:=fun _=> .val u x) h fun _=>k x).ok⟩
def Iz{q:Bool}{t d:Nat}{o:Eu}{l:List AZ}{u:T}{x:u.α}(h:El tb Γ o (some ()) fun _=> .rp u x)(k:(y:u.α)→AD tb (Γ.push d (.rp u y)) q l t):AD tb Γ q (⟨some d,none,o⟩::l) t:=
 ⟨(k x).m,(AD.op (a:=some ()) (φ:=fun _=> .rp u x) h fun _=>k x).ok⟩
def A8{q:Bool}{t d:Nat}{o:Eu}{l:List AZ}{φ:AI}(h:El tb Γ o (some ()) fun _=>φ)(k:AD tb (Γ.push d φ) q l t):AD tb Γ q (⟨some d,none,o⟩::l) t:=
 ⟨k.m,(AD.op (a:=some ()) (φ:=fun _=>φ) h fun _=>k).ok⟩
theorem Es{q:Bool}: ∀{l r:List AZ} {f f':Fr} {H H':A3},Bd tb (CF tb) (rg q l) f H=some (.normal,f',H')→Bd tb (CF tb) (rg q (l++r)) f H=Bd tb (CF tb) (rg q r) f' H'
 |[],r,f,f',H,H',h=>by rw[Cr]at h;cases h;rfl
 |o::l,r,f,f',H,H',h=>by
  cases q with
  |true=>
   simp only[rg,if_true,Bd,List.cons_append,GD]at h ⊢
   cases hw:wanted f o.g with
   |none=>rw[hw]at h;simp at h
   |some w=>
    rw[hw]at h
    simp only[Option.bind_some]at h ⊢
    cases w with
    |false=>
     simp only[Bool.false_eq_true,if_false]at h ⊢
     exact Es (q:=true) (l:=l) (r:=r) (by simpa [rg,Bd]using h)
    |true=>
     simp only[if_true]at h ⊢
     cases hp:B7 tb (CF tb) (eval tb f) H o.o with
     |none=>rw[hp]at h;simp at h
     |some p=>
      rw[hp]at h
      simp only[Option.bind_some]at h ⊢
      split at h
      ·rename_i hs
       rw[if_pos hs]
       exact Es (q:=true) (l:=l) (r:=r) (by simpa [rg,Bd]using h)
      ·simp at h
  |false=>
   simp only[rg,Bool.false_eq_true,if_false,Bd,List.cons_append,ops]at h ⊢
   cases hw:wanted f o.g with
   |none=>rw[hw]at h;simp at h
   |some w=>
    rw[hw]at h
    simp only[Option.bind_some]at h ⊢
    cases w with
    |false=>
     simp only[Bool.false_eq_true,if_false]at h ⊢
     exact Es (q:=false) (l:=l) (r:=r) (by simpa [rg,Bd]using h)
    |true=>
     simp only[if_true]at h ⊢
     cases hp:B7 tb (CF tb) (eval tb f) H o.o with
     |none=>rw[hp]at h;simp at h
     |some p=>
      rw[hp]at h
      simp only[Option.bind_some]at h ⊢
      exact Es (q:=false) (l:=l) (r:=r) (by simpa [rg,Bd]using h)
def HV(g:Nat)(w:Bool):Nat→List AZ→Option (List AZ×List AZ)
 |0,L=>some ([],L)
 |n+1,⟨d,some (g',w'),o⟩::r=>(HV g w n r).map fun p=>(if Nat.beq g' g&&(w'==w)then⟨d,none,o⟩::p.1 else⟨d,some (g',w'),o⟩::p.1,p.2)
 |_,_=>none
theorem Hb{g:Nat}{w:Bool}: ∀{n:Nat} {L l R:List AZ},HV g w n L=some (l,R)→L=l.map (gd g w)++R
 |0,L,l,R,h=>by simp only[HV,Option.some.injEq,Prod.mk.injEq]at h;rw[←h.1,←h.2];rfl
 |n+1,[],l,R,h=>by simp[HV]at h
 |n+1,⟨d,none,o⟩::r,l,R,h=>by simp[HV]at h
 |n+1,⟨d,some (g',w'),o⟩::r,l,R,h=>by
  simp only[HV]at h
  obtain⟨p,hp,h⟩:=Option.map_eq_some_iff.1 h
  have ih:=Hb (l:=p.1) (R:=p.2) hp
  simp only[Prod.mk.injEq]at h
  obtain⟨h1,rfl⟩:=h
  split at h1
  ·rename_i hc
   simp only[Bool.and_eq_true,beq_iff_eq]at hc
   obtain⟨hc,rfl⟩:=hc
   have hc:=Nat.eq_of_beq_eq_true hc
   subst hc
   rw[←h1,ih];rfl
  ·rw[←h1,ih];rfl
theorem wanted_put{f:Fr}{g:Nat}{w:Bool}{v:AV}{d:Option Nat}(h:d≠some g):get (put f d v) g=get f g:=by
 cases d with
 |none=>rfl
 |some d=>simp only[put,get];rw[if_neg (fun e=>h (by rw[e]))]
theorem PX{q:Bool}{g:Nat}{w:Bool}: ∀{l:List AZ} {f:Fr} {H:A3},get f g= .b w→g∉FY l→Bd tb (CF tb) (rg q (l.map (gd g w))) f H=Bd tb (CF tb) (rg q l) f H
 |[],_,_,_,_=>rfl
 |o::l,f,H,h,hn=>by
  have hd:o.d≠some g:=fun e=>hn (by simp[FY,e])
  have hn':g∉FY l:=fun e=>hn (by
   simp only[FY,List.filterMap_cons]at e ⊢
   cases o.d<;>simp[e])
  have hwt:wanted f (gd g w o).g=wanted f o.g:=by
   cases ho:o.g with
   |none=>simp[gd,ho,wanted,h]
   |some p=>simp[gd,ho]
  have hoo:(gd g w o).o=o.o:=by cases ho:o.g<;>simp[gd,ho]
  have hod:(gd g w o).d=o.d:=by cases ho:o.g<;>simp[gd,ho]
  have ih: ∀v H',Bd tb (CF tb) (rg q (l.map (gd g w))) (put f o.d v) H'=Bd tb (CF tb) (rg q l) (put f o.d v) H':=fun v H'=>PX (by rw[wanted_put (w:=w) hd];exact h) hn'
  cases q with
  |true=>
   have ih': ∀v H',GD tb (CF tb) H' (l.map (gd g w)) (put f o.d v)=GD tb (CF tb) H' l (put f o.d v):=fun v H'=>by
    have:=ih v H'
    simp only[rg,if_true,Bd]at this
    cases h1:GD tb (CF tb) H' (l.map (gd g w)) (put f o.d v)<;>cases h2:GD tb (CF tb) H' l (put f o.d v)<;>simp_all
   simp only[rg,if_true,Bd,List.map_cons,GD,hwt,hoo,hod,ih']
  |false=>
   have ih': ∀v H',ops tb (CF tb) (l.map (gd g w)) (put f o.d v) H'=ops tb (CF tb) l (put f o.d v) H':=fun v H'=>by
    have:=ih v H'
    simp only[rg,Bool.false_eq_true,if_false,Bd]at this
    cases h1:ops tb (CF tb) (l.map (gd g w)) (put f o.d v) H'<;>cases h2:ops tb (CF tb) l (put f o.d v) H'<;>simp_all [Prod.ext_iff]
   simp only[rg,Bool.false_eq_true,if_false,Bd,List.map_cons,ops,hwt,hoo,hod,ih']
theorem MI{q:Bool}{g:Nat}{w:Bool}: ∀{l:List AZ} {seen:List Nat} {f:Fr} {H:A3},get f g= .b (!w)→g∉FY l→T2 seen l=true→(∀t∈seen,get f t= .tup [])→
  ∃f',Bd tb (CF tb) (rg q (l.map (gd g w))) f H=some (.normal,f',H)∧ ∀u,u∉FY l→get f' u=get f u
 |[],seen,f,H,_,_,_,_=>⟨f,Cr,fun _ _=>rfl⟩
 |o::l,seen,f,H,h,hn,hs,hseen=>by
  have hd:o.d≠some g:=fun e=>hn (by simp[FY,e])
  have hn':g∉FY l:=fun e=>hn (by
   simp only[FY,List.filterMap_cons]at e ⊢
   cases o.d<;>simp[e])
  simp only[T2,Bool.and_eq_true]at hs
  have hwt:wanted f (gd g w o).g=some false:=by
   cases ho:o.g with
   |none=>simp[gd,ho,wanted,h]
   |some p=>
    obtain⟨t,b⟩:=p
    simp only[gd,ho,wanted]
    have:=hs.1
    rw[ho]at this
    obtain⟨x,hx,hb⟩:=List.any_eq_true.1 this
    have hb:=Nat.eq_of_beq_eq_true hb
    subst hb
    rw[hseen _ hx]
  have hod:(gd g w o).d=o.d:=by cases ho:o.g<;>simp[gd,ho]
  obtain⟨f',h1,h2⟩:=MI (q:=q) (w:=w) (l:=l) (seen:=match o.d with|some d=>d::seen|none=>seen) (f:=put f o.d (.tup [])) (H:=H)
   (by rw[wanted_put (w:=w) hd];exact h) hn' hs.2 (fun t ht=>by
    cases hdd:o.d with
    |none=>rw[hdd]at ht;exact hseen t ht
    |some d=>
     rw[hdd]at ht
     simp only[put,get]
     by_cases e:d=t
     ·rw[if_pos e]
     ·rw[if_neg e]
      rcases List.mem_cons.1 ht with e'|ht
      ·exact absurd e'.symm e
      ·exact hseen t ht)
  refine⟨f',?_,fun u hu=> ?_⟩
  ·cases q with
   |true=>
    simp only[rg,if_true,Bd]at h1 ⊢
    simp only[List.map_cons,GD,hwt,Option.bind_some,Bool.false_eq_true,if_false,hod];exact h1
   |false=>
    simp only[rg,Bool.false_eq_true,if_false,Bd]at h1 ⊢
    simp only[List.map_cons,ops,hwt,Option.bind_some,Bool.false_eq_true,if_false,hod];exact h1
  ·have hu':u∉FY l:=fun e=>hu (by
    simp only[FY,List.filterMap_cons]at e ⊢
    cases o.d<;>simp[e])
   rw[h2 u hu']
   exact wanted_put (w:=w) fun e=>hu (by simp[FY,e])
def SI(l:List Nat)(n:Nat):Bool:=l.any (Nat.beq n)
theorem Jz{l:List Nat}{n:Nat}(h:SI l n=false):n∉l:=by
 intro hm
 rw[SI,List.any_eq_false]at h
 exact h n hm (by simp)
def TT(l:List Nat)(ts:Ts):Bool:=ts.all fun p=> !SI l p.1
theorem It{l:List Nat}: ∀{ts:Ts} {t:Nat} {φ:AI},TT l ts=true→B4 ts t=some φ→t∉l
 |[],_,_,_,e=>by simp[B4]at e
 |(u,ψ)::r,t,φ,h,e=>by
  simp only[TT,List.all_cons,Bool.and_eq_true,Bool.not_eq_true']at h
  simp only[B4]at e
  split at e
  ·rename_i hu;subst hu;exact Jz h.1
  ·exact It (by simpa [TT]using h.2) e
def UG(g:Nat)(l:List AZ)(ts:Ts):Bool:=T2 [] l&&(!SI (FY l) g&&TT (FY l) ts)
theorem Vj{f:Fr}{H:A3}{E:JL}{rv:Nat→AV}{fp:Fp}(I:Bn E Γ rv fp f H){d:Nat}{z:Bool}:Bn E (Γ.push d (.val T.b z)) rv fp (put f (some d) (.b z)) H:=I.push (F0.2 rfl)
def BS(b:Bool)(m:Option Bool):Option Bool:=if b=true then m else some false
def Ek(b:Bool)(m:Option Bool):Option Bool:=if b=true then some true else m
variable{ks:List Kf}{ρ:Type}{Q:H6 ρ}
def Aa.and{q:Bool}{L l rest:List AZ}{g t d:Nat}{b:Bool}(n:Nat)(og:B4 Γ.ts g=some (.val T.b b))(h:HV g true n L=some (l,⟨some d,none, .pick (.t g) (.t t) (.k (.b false))⟩::rest))(hc:UG g l Γ.ts=true)
  (grp:AD tb Γ q l t) (k:(z:Bool)→Aa tb (Γ.push d (.val T.b z)) (rg q rest) ks Q):Aa tb Γ (rg q L) ks Q:=
 ⟨(BS b grp.m).bind fun z=>(k z).m,fun E f H ⟨rv,fp,I⟩ r hr=>by
  obtain⟨z,hz,hr⟩:=Option.bind_eq_some_iff.1 hr
  have hL:=Hb h
  simp only[UG,Bool.and_eq_true,Bool.not_eq_true']at hc
  obtain⟨hc1,hc2,hc3⟩:=hc
  have hg:=F0.1 (I.temps g _ og)
  have hng:=Jz hc2
  have fin: ∃f',Bd tb (CF tb) (rg q (l.map (gd g true))) f H=some (.normal,f',H)∧(∀u,u∉FY l→get f' u=get f u)∧(if b then get f' t else .b false)= .b z:=by
   cases b with
   |true=>
    obtain⟨f',h1,h2,h3⟩:=grp.ok E rv fp f H I z (by simpa [BS,Ek]using hz)
    exact⟨f',by rw[PX hg hng];exact h1,h3,by simpa using h2⟩
   |false=>
    obtain⟨f',h1,h2⟩:=MI (tb:=tb) (q:=q) (w:=true) (H:=H) hg hng hc1 (by simp)
    exact⟨f',h1,h2,by simpa [BS,Ek]using hz⟩
  obtain⟨f',h1,h2,h3⟩:=fin
  have hp:B7 tb (CF tb) (eval tb f') H (.pick (.t g) (.t t) (.k (.b false)))=some (.b z,none):=by
   simp only[B7,eval,h2 g hng,hg]
   rw[←h3]
  have I':Bn E Γ rv fp f' H:=I.fr fun u φ e=>h2 u (It hc3 e)
  obtain⟨e,f2,H2,h4,h5⟩:=(k z).ok E _ H ⟨rv,fp,Vj I'⟩ r hr
  exact⟨e,f2,H2,by rw[hL,Es h1,DQ hp rfl];exact h4,h5⟩⟩
def Aa.or{q:Bool}{L l rest:List AZ}{g t d:Nat}{b:Bool}(n:Nat)(og:B4 Γ.ts g=some (.val T.b b))(h:HV g false n L=some (l,⟨some d,none, .pick (.t g) (.k (.b true)) (.t t)⟩::rest))(hc:UG g l Γ.ts=true)
  (grp:AD tb Γ q l t) (k:(z:Bool)→Aa tb (Γ.push d (.val T.b z)) (rg q rest) ks Q):Aa tb Γ (rg q L) ks Q:=
 ⟨(Ek b grp.m).bind fun z=>(k z).m,fun E f H ⟨rv,fp,I⟩ r hr=>by
  obtain⟨z,hz,hr⟩:=Option.bind_eq_some_iff.1 hr
  have hL:=Hb h
  simp only[UG,Bool.and_eq_true,Bool.not_eq_true']at hc
  obtain⟨hc1,hc2,hc3⟩:=hc
  have hg:=F0.1 (I.temps g _ og)
  have hng:=Jz hc2
  have fin: ∃f',Bd tb (CF tb) (rg q (l.map (gd g false))) f H=some (.normal,f',H)∧(∀u,u∉FY l→get f' u=get f u)∧(if b then .b true else get f' t)= .b z:=by
   cases b with
   |false=>
    obtain⟨f',h1,h2,h3⟩:=grp.ok E rv fp f H I z (by simpa [BS,Ek]using hz)
    exact⟨f',by rw[PX hg hng];exact h1,h3,by simpa using h2⟩
   |true=>
    obtain⟨f',h1,h2⟩:=MI (tb:=tb) (q:=q) (w:=false) (H:=H) hg hng hc1 (by simp)
    exact⟨f',h1,h2,by simpa [BS,Ek]using hz⟩
  obtain⟨f',h1,h2,h3⟩:=fin
  have hp:B7 tb (CF tb) (eval tb f') H (.pick (.t g) (.k (.b true)) (.t t))=some (.b z,none):=by
   simp only[B7,eval,h2 g hng,hg]
   rw[←h3]
  have I':Bn E Γ rv fp f' H:=I.fr fun u φ e=>h2 u (It hc3 e)
  obtain⟨e,f2,H2,h4,h5⟩:=(k z).ok E _ H ⟨rv,fp,Vj I'⟩ r hr
  exact⟨e,f2,H2,by rw[hL,Es h1,DQ hp rfl];exact h4,h5⟩⟩
def AD.and{q:Bool}{L l rest:List AZ}{g t t' d:Nat}{b:Bool}(n:Nat)(og:B4 Γ.ts g=some (.val T.b b))(h:HV g true n L=some (l,⟨some d,none, .pick (.t g) (.t t) (.k (.b false))⟩::rest))(hc:UG g l Γ.ts=true)
  (hd:(FY l).all (SI (FY L))=true) (hd':(d::FY rest).all (SI (FY L))=true)
  (grp:AD tb Γ q l t) (k:(z:Bool)→AD tb (Γ.push d (.val T.b z)) q rest t'):AD tb Γ q L t':=
 ⟨(BS b grp.m).bind fun z=>(k z).m,fun E rv fp f H I r hr=>by
  obtain⟨z,hz,hr⟩:=Option.bind_eq_some_iff.1 hr
  have hL:=Hb h
  simp only[UG,Bool.and_eq_true,Bool.not_eq_true']at hc
  obtain⟨hc1,hc2,hc3⟩:=hc
  have hg:=F0.1 (I.temps g _ og)
  have hng:=Jz hc2
  have sub: ∀{m:List Nat},m.all (SI (FY L))=true→ ∀u,u∉FY L→u∉m:=fun hm u hu hum=>by
   have:=List.all_eq_true.1 hm u hum
   obtain⟨x,hx,hb⟩:=List.any_eq_true.1 this
   exact hu (Nat.eq_of_beq_eq_true hb▸hx)
  have fin: ∃f',Bd tb (CF tb) (rg q (l.map (gd g true))) f H=some (.normal,f',H)∧(∀u,u∉FY l→get f' u=get f u)∧(if b then get f' t else .b false)= .b z:=by
   cases b with
   |true=>
    obtain⟨f',h1,h2,h3⟩:=grp.ok E rv fp f H I z (by simpa [BS,Ek]using hz)
    exact⟨f',by rw[PX hg hng];exact h1,h3,by simpa using h2⟩
   |false=>
    obtain⟨f',h1,h2⟩:=MI (tb:=tb) (q:=q) (w:=true) (H:=H) hg hng hc1 (by simp)
    exact⟨f',h1,h2,by simpa [BS,Ek]using hz⟩
  obtain⟨f',h1,h2,h3⟩:=fin
  have hp:B7 tb (CF tb) (eval tb f') H (.pick (.t g) (.t t) (.k (.b false)))=some (.b z,none):=by
   simp only[B7,eval,h2 g hng,hg]
   rw[←h3]
  have I':Bn E Γ rv fp f' H:=I.fr fun u φ e=>h2 u (It hc3 e)
  obtain⟨f2,h4,h5,h6⟩:=(k z).ok E rv fp _ H (Vj I') r hr
  refine⟨f2,by rw[hL,Es h1,DQ hp rfl];exact h4,h5,fun u hu=> ?_⟩
  have hu':=sub hd' u hu
  rw[h6 u fun e=>hu' (List.mem_cons_of_mem _ e),wanted_put (w:=true) (fun e=>hu' (by cases e;exact List.mem_cons_self)),h2 u (sub hd u hu)]⟩
end
end Go.Proofs.Ytapafbjgdfgodaa.Am
namespace Go.Proofs.Ytapafbjgdfgodaa.Am
structure AB(t u:T)(off:Nat) where
 get:t.α→u.α
 put:t.α→u.α→t.α
 le:off+u.sz≤t.sz
 getR: ∀{P:Nat→Prop} {H:A3} {cs:List AV} {x:t.α},t.R P H cs x→u.R P H (sub cs off u.sz) (get x)
 putR: ∀{P:Nat→Prop} {H:A3} {cs:List AV} {x:t.α} {c:List AV} {y:u.α},t.R P H cs x→u.R P H c y→t.R P H (Bm cs off c) (put x y)
def A0(t:T):AB t t 0 where
 get:=fun x=>x
 put:=fun _ y=>y
 le:=by omega
 getR:=fun{P H cs x} h=>by
  have:=t.len h
  rw[show sub cs 0 t.sz=cs by simp only[sub,List.drop_zero];exact List.take_of_length_le (by omega)];exact h
 putR:=fun{P H cs x c y} h g=>by
  have h1:=t.len h
  have h2:=t.len g
  rw[show Bm cs 0 c=c by simp[Bm,List.drop_eq_nil_of_le (show cs.length≤c.length by omega)]];exact g
def BC{a b u:T}{off:Nat}(F:AB a u off):AB (T.prod a b) u off where
 get:=fun x=>F.get x.1
 put:=fun x y=>(F.put x.1 y,x.2)
 le:=Nat.le_trans F.le (Nat.le_add_right _ _)
 getR:=fun{P H cs x} ⟨c,d,e,h,g⟩=>by
  have h1:=a.len h
  have h2:=F.le
  have:=F.getR h
  rw[show sub cs off u.sz=sub c off u.sz by
   subst e
   simp only[sub]
   rw[List.drop_append_of_le_length (by omega),List.take_append_of_le_length (by simp;omega)]]
  exact this
 putR:=fun{P H cs x c' y} ⟨c,d,e,h,g⟩ k=>by
  have h1:=a.len h
  have h2:=F.le
  have h3:=u.len k
  refine⟨Bm c off c',d,?_,F.putR h k,g⟩
  subst e
  simp only[Bm]
  rw[List.take_append_of_le_length (by omega),List.drop_append_of_le_length (by omega)]
  simp
def A2{a b u:T}{off:Nat}(F:AB b u off):AB (T.prod a b) u (a.sz+off) where
 get:=fun x=>F.get x.2
 put:=fun x y=>(x.1,F.put x.2 y)
 le:=by have:=F.le;show a.sz+off+u.sz≤a.sz+b.sz;omega
 getR:=fun{P H cs x} ⟨c,d,e,h,g⟩=>by
  have h1:=a.len h
  have:=F.getR g
  rw[show sub cs (a.sz+off) u.sz=sub d off u.sz by
   subst e
   simp only[sub]
   rw[←List.drop_drop,List.drop_left' h1]]
  exact this
 putR:=fun{P H cs x c' y} ⟨c,d,e,h,g⟩ k=>by
  have h1:=a.len h
  refine⟨c,Bm d off c',?_,h,F.putR g k⟩
  subst e
  simp only[Bm]
  rw[List.take_append,List.take_of_length_le (by omega),show a.sz+off-c.length=off by omega]
  rw[show a.sz+off+c'.length=c.length+(off+c'.length) by omega,←List.drop_drop,List.drop_left' rfl]
  simp
def AB.iso{t u:T}{off:Nat}{β:Type}{f:β→t.α}{g:t.α→β}{hfg: ∀y,f (g y)=y}(F:AB t u off):AB (T.iso t β f g hfg) u off where
 get:=fun x=>F.get (f x)
 put:=fun x y=>g (F.put (f x) y)
 le:=F.le
 getR:=fun h=>F.getR h
 putR:=fun{P H cs x c y} h k=>by
  show t.R P H _ (f (g _))
  rw[hfg]
  exact F.putR h k
def Ar.set{α:Type}{n:Nat}(a:Ar α n)(i:Nat)(x:α):Ar α n:=⟨a.l.set i x,by rw[List.length_set];exact a.len⟩
section
variable{tb:Ce}{Γ:Cx}{a b:AO}
theorem JY.len{t:T}{P:Nat→Prop}{H:A3}{v:AV}: ∀{g:GS t.α},JY t P H v g→JI v=some g.l.length
 | .nil,h=>by rw[show v=_ from h];rfl
 | .mk l,⟨bp,els,e,h⟩=>by
  have hl:=h.length
  cases v<;>simp only[GO]at bp<;>simp only[Dg]at e<;>simp only[JI,GS.l,Option.some.injEq]
  ·split at e
   ·cases e;exact hl
   ·cases e
  ·obtain⟨r,hr,e⟩:=Option.bind_eq_some_iff.1 e
   split at e
   ·rename_i hc
    cases e
    rw[List.length_take,List.length_drop]at hl
    omega
   ·cases e
  ·obtain⟨r,hr,e⟩:=Option.bind_eq_some_iff.1 e
   split at e
   ·cases e
    rename_i hc
    rw[←hl]
    have: ∀(n:Nat) (l:List AV) (sz:Nat),(B6 sz n l).length=n:=by
     intro n
     induction n with
     |zero=>intro l sz;rfl
     |succ n ih=>intro l sz;simp[B6,ih]
    exact(this _ _ _).symm
   ·cases e
theorem JY.els{t:T}{P:Nat→Prop}{H:A3}{v:AV}: ∀{g:GS t.α},JY t P H v g→ ∃els,Dg H t.sz v=some els∧BE t P H els g.l
 | .nil,h=>by rw[show v=_ from h];exact⟨[],rfl,trivial⟩
 | .mk l,⟨_,els,e,h⟩=>⟨els,e,h⟩
theorem C4{t:T}{g:GS t.α}(ha:BB tb Γ a (.val (T.sl t) g)):El tb Γ (.len a) (some (g.l.length:Int)) fun z=> .val (T.int .i64) z:=by
 rintro E rv fp f H R z ⟨⟩
 exact⟨_,none,by simp only[B7,(FB.1 (ha E rv fp f H R)).len,Option.map_some],rfl,CW.2 rfl⟩
theorem MO{t:T}{g:GS t.α}{neg:Bool}(ha:BB tb Γ a (.val (T.sl t) g)):El tb Γ (.eq neg .sl a (.k .nils)) (some (match g with| .nil=> !neg| .mk _=>neg)) fun z=> .val T.b z:=by
 rintro E rv fp f H R z ⟨⟩
 have hv:=FB.1 (ha E rv fp f H R)
 refine⟨_,none,?_,rfl,F0.2 rfl⟩
 cases g with
 |nil=>
  have hv':eval tb f a= .nils:=hv
  show val ((NN .sl (eval tb f a) .nils).map _)=_
  rw[hv']
  cases neg<;>rfl
 |mk l=>
  obtain⟨hb,_⟩:=hv
  show val ((NN .sl (eval tb f a) .nils).map _)=_
  cases hx:eval tb f a<;>rw[hx]at hb<;>simp only[GO]at hb<;>cases neg<;>rfl
theorem KZ{sz:Nat}: ∀{n i:Nat} {l c:List AV},n*sz≤l.length→(B6 sz n l)[i]? =some c→sub l (i*sz) sz=c∧i*sz+sz≤l.length
 |0,i,l,c,_,h=>by simp[B6]at h
 |n+1,0,l,c,hl,h=>by
  simp only[B6,List.getElem?_cons_zero,Option.some.injEq]at h
  rw[Nat.succ_mul]at hl
  exact⟨by simpa [sub]using h,by omega⟩
 |n+1,i+1,l,c,hl,h=>by
  simp only[B6,List.getElem?_cons_succ]at h
  rw[Nat.succ_mul]at hl
  obtain⟨h1,h2⟩:=KZ (l:=l.drop sz) (by simp;omega) h
  simp only[List.length_drop]at h2
  refine⟨?_,by rw[Nat.succ_mul];omega⟩
  simp only[sub,List.drop_drop]at h1 ⊢
  rw[show(i+1)*sz=sz+i*sz by rw[Nat.succ_mul];omega];exact h1
theorem J4{els:List (List AV)}{i:Nat}{c:List AV}(hc:els[i]? =some c):(els.drop i).flatten=c++(els.drop (i+1)).flatten:=by
 obtain⟨hi,rfl⟩:=List.getElem?_eq_some_iff.1 hc
 rw[List.drop_eq_getElem_cons hi,List.flatten_cons]
theorem QN{c d:List AV}{o k:Nat}(h:o+k≤c.length):sub (c++d) o k=sub c o k:=by
 simp only[sub]
 rw[List.drop_append_of_le_length (by omega),List.take_append_of_le_length (by simp;omega)]
theorem JY.addr{t:T}{P:Nat→Prop}{H:A3}{v:AV}{i:Nat}{x:t.α}: ∀{g:GS t.α},JY t P H v g→g.l[i]? =some x→ ∃p,N9 H t.sz v i=some p∧UQ t P H p x
 | .nil,_,h=>by simp[GS.l]at h
 | .mk l,⟨bp,els,e,h⟩,hx=>by
  obtain⟨c,hc,hr⟩:=h.get hx
  have hi:i<els.length:=(List.getElem?_eq_some_iff.1 hc).1
  have hlen:=t.len hr
  have hsub: ∀cs:List AV,cs=c→sub cs 0 t.sz=c:=fun cs e=>by
   subst e;simp only[sub,List.drop_zero];exact List.take_of_length_le (by omega)
  simp only[N9,e,Option.bind_some,if_pos hi]
  cases v<;>simp only[GO]at bp
  ·refine⟨.ip c 0,by simp[hc],trivial,c,0,rfl,by omega,by rw[hsub c rfl];exact hr,fun m hm=> ?_⟩
   simpa [B8]using t.men hr hm
  ·rename_i id k lo len
   simp only[Dg]at e
   obtain⟨r,hrow,e⟩:=Option.bind_eq_some_iff.1 e
   split at e
   ·rename_i hcd
    cases e
    have hc':r.2.2[lo+i]? =some c:=by
     rw[List.getElem?_take]at hc
     split at hc
     ·rwa [List.getElem?_drop]at hc
     ·cases hc
    refine⟨.pe id k (lo+i) 0,rfl,bp,_,0,by simp only[place,hrow,Option.bind_some,if_pos hcd.1];rfl,by rw[J4 hc'];simp;omega,by rw[J4 hc',QN (by omega),hsub c rfl];exact hr,fun m hm=>by simp only[B8];exact hm _ bp⟩
   ·cases e
  ·rename_i sz' id off len
   simp only[Dg]at e
   obtain⟨r,hrow,e⟩:=Option.bind_eq_some_iff.1 e
   split at e
   ·rename_i hcd
    cases e
    obtain⟨h1,h2⟩:=KZ (by simp;omega) hc
    simp only[List.length_drop]at h2
    refine⟨.ptr id (off+i*t.sz),rfl,bp,r,off+i*t.sz,by simp[place,hrow],by omega,?_,fun m hm=>by simp only[B8];exact hm _ bp⟩
    have:sub r (off+i*t.sz) t.sz=c:=by
     simp only[sub,List.drop_drop]at h1 ⊢;exact h1
    rw[this];exact hr
   ·cases e
theorem C0{t:T}{g:GS t.α}{k:IntKind}{i:Int}{sz:Nat}(hs:sz=t.sz)(ha:BB tb Γ a (.val (T.sl t) g))(hb:BB tb Γ b (.val (T.int k) i)):El tb Γ (.ias sz a b) (Gg g.l i) fun x=> .rp t x:=by
 intro E rv fp f H R x hx
 simp only[Gg]at hx
 split at hx
 ·rename_i h0
  obtain⟨p,h1,h2⟩:=(FB.1 (ha E rv fp f H R)).addr hx
  subst hs
  exact⟨p,none,by simp only[B7,CW.1 (hb E rv fp f H R),Gr,Option.bind_some,if_pos h0,h1,val,Option.map_some],rfl,h2⟩
 ·cases hx
theorem UQ.load{t:T}{P:Nat→Prop}{H:A3}{p:AV}{x:t.α}(h:UQ t P H p x): ∃v,load H t.agg t.sz p=some v∧t.V P H v x:=by
 obtain⟨_,cs,off,e,l,r,_⟩:=h
 obtain⟨v,h1,h2⟩:=T.V.of r
 exact⟨v,by simp only[Am.load,e,Option.bind_some,if_pos l,h1],h2⟩
theorem DF{t:T}{x:t.α}{ag:Bool}{n:Nat}(hag:ag=t.agg)(hn:n=t.sz)(ha:BB tb Γ a (.rp t x)):El tb Γ (.ld ag n a) (some ()) fun _=> .val t x:=by
 rintro E rv fp f H R z ⟨⟩
 obtain⟨v,h1,h2⟩:=UQ.load (ha E rv fp f H R)
 subst hag hn
 exact⟨v,none,by simp only[B7,h1,val,Option.map_some],rfl,h2⟩
theorem UQ.shift{t u:T}{off:Nat}(F:AB t u off){P:Nat→Prop}{H:A3}{p:AV}{x:t.α}(h:UQ t P H p x): ∃v,shift off p=some v∧UQ u P H v (F.get x):=by
 obtain⟨hp,cs,o,e,l,r,hm⟩:=h
 have hle:=F.le
 have hr:=F.getR r
 have hsub:sub (sub cs o t.sz) off u.sz=sub cs (o+off) u.sz:=by
  simp only[sub]
  rw[List.drop_take,List.take_take,List.drop_drop,Nat.min_eq_left (by omega)]
 rw[hsub]at hr
 cases p<;>simp only[Qb]at hp<;>simp only[place]at e
 ·rename_i id o'
  obtain⟨cs',hc,e⟩:=Option.map_eq_some_iff.1 e
  cases e
  refine⟨_,rfl,hp,cs,o+off,by simp[place,hc],by omega,hr,fun m hm=>by simp only[B8];exact hm _ hp⟩
 ·rename_i id n i o'
  obtain⟨row,hrow,e⟩:=Option.bind_eq_some_iff.1 e
  split at e
  ·rename_i hn
   cases e
   refine⟨_,rfl,hp,_,_,by simp only[place,hrow,Option.bind_some];rw[if_pos hn],by omega,hr,fun m hm=>by simp only[B8];exact hm _ hp⟩
  ·cases e
 ·rename_i cs' o'
  cases e
  exact⟨_,rfl,hp,cs,o+off,rfl,by omega,hr,fun m h=>by simpa [B8]using hm m h⟩
theorem JJ{t u:T}{x:t.α}{off:Nat}(F:AB t u off)(ha:BB tb Γ a (.rp t x)):El tb Γ (.fa off a) (some ()) fun _=> .rp u (F.get x):=by
 rintro E rv fp f H R z ⟨⟩
 obtain⟨v,h1,h2⟩:=UQ.shift F (ha E rv fp f H R)
 exact⟨v,none,by simp only[B7,h1,val,Option.map_some],rfl,h2⟩
theorem Zt{t u:T}{x:t.α}{off n:Nat}{ag:Bool}(F:AB t u off)(hag:ag=u.agg)(hn:n=u.sz)(ht:t.agg=true)(ha:BB tb Γ a (.val t x)):El tb Γ (.fld ag off n a) (some ()) fun _=> .val u (F.get x):=by
 rintro E rv fp f H R z ⟨⟩
 rcases ha E rv fp f H R with ⟨_,cs,e,r⟩|⟨e,_⟩
 ·obtain⟨v,h1,h2⟩:=T.V.of (F.getR r)
  have hl:=t.len r
  have hle:=F.le
  subst hag hn
  exact⟨v,none,by simp only[B7,e,if_pos (show off+u.sz≤cs.length by omega),h1,val,Option.map_some],rfl,h2⟩
 ·rw[ht]at e;cases e
end
end Go.Proofs.Ytapafbjgdfgodaa.Am
namespace Go.Proofs.Ytapafbjgdfgodaa.Am
def EY:List (Nat×AI)→Nat→Option (Nat×AI×Nat)
 |[],_=>none
 |(n,φ)::r,o=>if Nat.blt o n then some (n,φ,o)else EY r (o-n)
def Kl:List (Nat×AI)→Nat→AI→List (Nat×AI)
 |[],_,_=>[]
 |(n,φ)::r,o,ψ=>if Nat.blt o n then(n,ψ)::r else(n,φ)::Kl r (o-n) ψ
theorem Ll{a b:Nat}:Nat.blt a b=true↔a<b:=by
 rw[Nat.blt,Nat.ble_eq];exact Iff.rfl
section
variable{rv:Nat→AV}{ss:Ss}{P:Nat→Prop}{H:A3}
theorem Dv: ∀{ps:List (Nat×AI)} {o o' N:Nat} {φ:AI} {cs:List AV},PR rv ss P H ps cs→EY ps o=some (N,φ,o')→
  ∃b c,c.length=N∧o=b+o'∧o'<c.length∧b+c.length≤cs.length∧FC rv ss P H φ c∧(∀m k,m+k≤c.length→sub cs (b+m) k=sub c m k)∧
   (∀m d ψ,m+d.length≤c.length→FC rv ss P H ψ (Bm c m d)→PR rv ss P H (Kl ps o ψ) (Bm cs (b+m) d))
 |[],o,o',N,φ,cs,_,h=>by simp[EY]at h
 |(n,ψ)::r,o,o',N,φ,cs,⟨c,d,e,hl,hc,hr⟩,h=>by
  simp only[EY]at h
  split at h
  ·rename_i ho
   rw[Ll]at ho
   cases h
   subst e
   refine⟨0,c,hl,by omega,by omega,by simp,hc,?_,?_⟩
   ·intro m k hm
    simp only[sub,Nat.zero_add]
    rw[List.drop_append_of_le_length (by omega),List.take_append_of_le_length (by simp;omega)]
   ·intro m d' χ hm hf
    simp only[Kl,Ll.2 ho,if_true]
    refine⟨Bm c m d',d,?_,?_,hf,hr⟩
    ·simp only[Bm,Nat.zero_add]
     rw[List.take_append_of_le_length (by omega),List.drop_append_of_le_length (by omega)]
     simp
    ·simp only[Bm,List.length_append,List.length_take,List.length_drop];omega
  ·rename_i ho
   have ho': ¬o<n:=fun e=>ho (Ll.2 e)
   obtain⟨b,c',h0,h1,h2,h3,h4,h5,h6⟩:=Dv hr h
   subst e
   refine⟨n+b,c',h0,by omega,h2,by simp;omega,h4,?_,?_⟩
   ·intro m k hm
    rw[←h5 m k hm]
    simp only[sub]
    rw[show n+b+m=c.length+(b+m) by omega,←List.drop_drop,List.drop_left' rfl]
   ·intro m d' χ hm hf
    have:=h6 m d' χ hm hf
    simp only[Kl,if_neg ho]
    refine⟨c,_,?_,hl,hc,this⟩
    simp only[Bm]
    rw[List.take_append,List.take_of_length_le (by omega),show n+b+m-c.length=b+m by omega]
    rw[show n+b+m+d'.length=c.length+(b+m+d'.length) by omega,←List.drop_drop,List.drop_left' rfl]
    simp
end
def Cx.setS(Γ:Cx)(j:Nat)(S:D1):Cx:=⟨Γ.ts,(j,S)::Γ.ss⟩
section
variable{tb:Ce}{Γ:Cx}{a b:AO}
theorem Ay{j o off:Nat}(ha:BB tb Γ a (.cp j o)):El tb Γ (.fa off a) (some ()) fun _=> .cp j (o+off):=by
 rintro E rv fp f H R z ⟨⟩
 obtain⟨l,id,e,hv⟩:=ha E rv fp f H R
 exact⟨.ptr id (o+off),none,by simp only[B7,hv,shift,val,Option.map_some],rfl,l,id,e,rfl⟩
theorem Fj{E:JL}{rv:Nat→AV}{fp:Fp}{f:Fr}{H:A3}(R:Bn E Γ rv fp f H){j:Nat}{ps:List (Nat×AI)}(hj:AA Γ.ss j=some (.cells ps)){id:Nat}(e:rv j= .ptr id 0):
  ∃cs,(∀i,fp j i↔i=id)∧BD H id=some cs∧PR rv Γ.ss (Pf E Γ.ss fp H) H ps cs:=by
 obtain⟨id',cs,h1,h0,h2,h3⟩:=R.slots j _ hj
 rw[e]at h1;cases h1
 exact⟨cs,h0,h2,h3⟩
theorem Ax{t u:T}{x:t.α}{j o o' n N:Nat}{ag:Bool}{ps:List (Nat×AI)}(ha:BB tb Γ a (.cp j o))(hj:AA Γ.ss j=some (.cells ps))(hp:EY ps o=some (N, .val t x,o'))(F:AB t u o')(hag:ag=u.agg)(hn:n=u.sz):
  El tb Γ (.ld ag n a) (some ()) fun _=> .val u (F.get x):=by
 rintro E rv fp f H R z ⟨⟩
 obtain⟨l,id,e,hv⟩:=ha E rv fp f H R
 obtain⟨cs,h0,h2,h3⟩:=Fj R hj e
 obtain⟨b',c,e0,e1,e2,e3,e4,e5,_⟩:=Dv h3 hp
 have hle:=F.le
 have hl:=t.len e4
 have hr:=F.getR e4
 rw[←e5 o' u.sz (by omega),←e1]at hr
 obtain⟨v,g1,g2⟩:=T.V.of hr
 subst hag hn
 exact⟨v,none,by simp only[B7,hv,Am.load,place,h2,Option.map_some,Option.bind_some,if_pos (show o+u.sz≤cs.length by omega),g1,val],rfl,g2⟩
def VK:AI→Bool
 | .own _=>true
 | .cp _ _=>true
 | .ep _ _ _=>true
 | .rp _ _=>true
 | .oc _ _ _ _=>true
 | .con _=>true
 | .fnv _ _ _=>true
 | .kv _=>true
 |_=>false
theorem Uz{φ:AI}(h:VK φ=true){rv:Nat→AV}{ss:Ss}{P:Nat→Prop}{H:A3}{c:List AV}:FC rv ss P H φ c↔ ∃v,c=[v]∧FR rv ss P H φ v:=by
 cases φ<;>simp only[VK,Bool.false_eq_true]at h<;>exact Iff.rfl
theorem FX{φ:AI}{j o N:Nat}{ps:List (Nat×AI)}(ha:BB tb Γ a (.cp j o))(hj:AA Γ.ss j=some (.cells ps))(hp:EY ps o=some (N,φ,0))(hφ:VK φ=true):
  El tb Γ (.ld false 1 a) (some ()) fun _=>φ:=by
 rintro E rv fp f H R z ⟨⟩
 obtain⟨l,id,e,hv⟩:=ha E rv fp f H R
 obtain⟨cs,h0,h2,h3⟩:=Fj R hj e
 obtain⟨b',c,e0,e1,e2,e3,e4,e5,_⟩:=Dv h3 hp
 obtain⟨v,rfl,hr⟩:=(Uz hφ).1 e4
 have hs:=e5 0 1 (by simp)
 rw[Nat.add_zero]at e1 hs
 subst e1
 simp only[List.length_cons,List.length_nil]at e3
 exact⟨v,none,by simp only[B7,hv,Am.load,place,h2,Option.map_some,Option.bind_some,if_pos (show o+1≤cs.length by omega),hs,val];rfl,rfl,hr⟩
theorem Su{cs d:List AV}{o:Nat}(h:o+d.length≤cs.length):(Bm cs o d).length=cs.length:=by
 simp only[Bm,List.length_append,List.length_take,List.length_drop];omega
theorem Id{cs d:List AV}{o m:Nat}(h:Bl cs≤m)(g:Bl d≤m):Bl (Bm cs o d)≤m:=by
 simp only[Bm,DL]
 have:=IV cs o
 have:=He cs (o+d.length)
 omega
theorem Z6{φ ψ:AI}{j o o' n N:Nat}{ps:List (Nat×AI)}(ha:BB tb Γ a (.cp j o))(hj:AA Γ.ss j=some (.cells ps))(hp:EY ps o=some (N,φ,o'))
  (hb: ∀E rv fp f H,Bn E Γ rv fp f H→ ∀c,FC rv Γ.ss (Pf E Γ.ss fp H) H φ c→c.length=N→o'<c.length→(cellsOf (eval tb f b)).length=n∧o'+n≤c.length∧Bl (cellsOf (eval tb f b))≤H.length∧FC rv Γ.ss (Pf E Γ.ss fp H) H ψ (Bm c o' (cellsOf (eval tb f b)))):
  Mr tb Γ none (.st n a b) (some ()) fun _=>Γ.setS j (.cells (Kl ps o ψ)):=by
 rintro E rv fp f H R z ⟨⟩
 obtain⟨l,id,e,hv⟩:=ha E rv fp f H R
 obtain⟨cs,h0,h2,h3⟩:=Fj R hj e
 obtain⟨b',c,e0,e1,e2,e3,e4,e5,e6⟩:=Dv h3 hp
 obtain⟨g1,g2,g3,g4⟩:=hb E rv fp f H R c e4 e0 e2
 have hpr:=e6 o' _ ψ (by omega) g4
 rw[←e1]at hpr
 have hmen:=PR.men R.ltP R.rvlt h3
 have hlt:=(R.fplt j id l ((h0 id).2 rfl)).1
 have hv0:=R.rvlt j l
 obtain⟨rv',fp',_,_,R'⟩:=R.set (j:=j) (S:= .cells (Kl ps o ψ)) (v:=rv j) (o:= .cells (CN H id) (Bm cs o (cellsOf (eval tb f b)))) (by rw[hj];rfl) l h0 (by simp only[EA];exact Id hmen g3) rfl hv0 (.inl rfl) (R.scal j l) fun rv' fp' e1 e2 hP hs=>
  ⟨id,_,by rw[e1,e],e2,by simp[BD,hlt],PR.mono hP (by simp) (fun p _=>hs p.2 (.inl rfl)) hpr⟩
 refine⟨.junk,some (H.set id (Ca.cells (CN H id) (Bm cs o (cellsOf (eval tb f b))))),?_,rv',fp',R'⟩
 simp only[B7,hv,store,h2,Option.bind_some]
 rw[if_pos ⟨g1,by omega⟩]
 rfl
theorem Be{t u:T}{x:t.α}{y:u.α}{j o o' n N:Nat}{ps:List (Nat×AI)}(ha:BB tb Γ a (.cp j o))(hb:BB tb Γ b (.val u y))(hj:AA Γ.ss j=some (.cells ps))(hp:EY ps o=some (N, .val t x,o'))(F:AB t u o')(hn:n=u.sz):
  Mr tb Γ none (.st n a b) (some (F.put x y)) fun z=>Γ.setS j (.cells (Kl ps o (.val t z))):=by
 have:=Z6 (n:=n) (ψ:= .val t (F.put x y)) ha hj hp (b:=b) fun E rv fp f H R c hc _ _=>by
  have hv:=T.V.cells (hb E rv fp f H R)
  have hle:=F.le
  have h1:=u.len hv
  have h2:=t.len hc
  exact⟨by rw[h1,hn],by omega,u.men hv R.ltP,F.putR hc hv⟩
 intro E rv fp f H R z hz
 cases hz
 exact this E rv fp f H R () rfl
theorem Bi{t:T}{d t0:Nat}{z:List AV}(j:Nat)(hz:z=t.zc)(hj:AA Γ.ss j=none):Mr tb Γ (some d) (.alloc t0 z) (some t.z) fun z=>⟨(d, .cp j 0)::Γ.ts,(j, .cells [(t.sz, .val t z)])::Γ.ss⟩:=by
 intro E rv fp f H R _ hz0
 cases hz0
 subst hz
 have hzm:Bl t.zc≤0:=t.men (t.hz (fun _=>False) []) (fun _ h=>h.elim)
 obtain⟨rv',fp',h1,h2,h3⟩:=R.more (j:=j) (S:= .cells [(t.sz, .val t t.z)]) (v:= .ptr H.length 0) (o:= .cells (some t0) t.zc) (ER hj) (by simp only[EA];omega) rfl (by simp[B8]) rfl fun rv' fp' e1 e2 hP hs=>
  ⟨_,t.zc,e1,e2,by simp[BD],t.zc,[],(List.append_nil _).symm,t.len (t.hz (fun _=>False) []),t.hz _ _,rfl⟩
 exact⟨_,_,rfl,rv',fp',h3.push (φ:= .cp j 0) ⟨h2,_,h1,rfl⟩⟩
theorem B5{t:T}{x:t.α}{d n t0:Nat}(j:Nat)(hn:n=t.sz)(hj:AA Γ.ss j=none)(ha:BB tb Γ a (.val t x)):Mr tb Γ (some d) (.box t0 n a) (some ()) fun _=>⟨(d, .cp j 0)::Γ.ts,(j, .cells [(t.sz, .val t x)])::Γ.ss⟩:=by
 rintro E rv fp f H R _ ⟨⟩
 have hv:=T.V.cells (ha E rv fp f H R)
 have hl:=t.len hv
 have hm:=t.men hv R.ltP
 obtain⟨rv',fp',h1,h2,h3⟩:=R.more (j:=j) (S:= .cells [(t.sz, .val t x)]) (v:= .ptr H.length 0) (o:= .cells (some t0) (cellsOf (eval tb f a))) (ER hj) (by simp only[EA];omega) rfl (by simp[B8]) rfl fun rv' fp' e1 e2 hP hs=>
  ⟨_,cellsOf (eval tb f a),e1,e2,by simp[BD],cellsOf (eval tb f a),[],(List.append_nil _).symm,hl,t.mono hP hv,rfl⟩
 refine⟨.ptr H.length 0,some (H++[Ca.cells (some t0) (cellsOf (eval tb f a))]),by simp only[B7];rw[if_pos (by rw[hl,hn])],rv',fp',h3.push (φ:= .cp j 0) ⟨h2,_,h1,rfl⟩⟩
def Z0{α:Type}:GS α→List α→GS α
 | .nil,[]=> .nil
 | .nil,l=> .mk l
 | .mk a,l=> .mk (a++l)
theorem Bn.moreNil{E:JL}{rv:Nat→AV}{fp:Fp}{f:Fr}{H:A3}(R:Bn E Γ rv fp f H){j:Nat}(t:T)(hj: ¬AT Γ.ss j): ∃rv' fp',rv' j= .nils∧AT ((j, .row t .nil)::Γ.ss) j∧Bn E ⟨Γ.ts,(j, .row t .nil)::Γ.ss⟩ rv' fp' f H:=
 R.chg (F:=fun _=>False) (v:= .nils) (G:=H) (by
   cases e:Ck (AA Γ.ss j)with
   |false=>rfl
   |true=>exact absurd (G4 e) hj) rfl (Nat.le_refl _) (fun _ _ _=>rfl) (fun _ h=>h.elim) (fun l=>absurd l hj) R.wf (by simp[B8]) (.inr rfl) fun rv' fp' e1 e2 _ _=>⟨e1,fun i h=>by rw[e2]at h;exact h⟩
theorem born{t:T}{n j:Nat}(hj:AA Γ.ss j=none)(ha:B4 Γ.ts n=some (.val (T.sl t) .nil)): ∀E f H,Rel E Γ f H→Rel E ⟨(n, .own j)::Γ.ts,(j, .row t .nil)::Γ.ss⟩ f H:=by
 rintro E f H ⟨rv,fp,R⟩
 obtain⟨rv',fp',h1,h2,I⟩:=R.moreNil t (ER hj)
 have hv:get f n= .nils:=FB.1 (R.temps n _ ha)
 refine⟨rv',fp',I.le,I.base,I.wf,I.fplt,I.rvlt,I.scal,I.inj,I.slots,fun u φ e=> ?_,I.gh⟩
 simp only[B4]at e
 split at e
 ·rename_i hu
  cases e
  subst hu
  exact⟨h2,by rw[h1,hv]⟩
 ·exact I.temps u φ e
theorem TO{t:T}{i o j N:Nat}{ps:List (Nat×AI)}(hj:AA Γ.ss j=none)(hij:Nat.beq i j=false)(hi:AA Γ.ss i=some (.cells ps))(hp:EY ps o=some (N, .val (T.sl t) .nil,0)):
  ∀E f H,Rel E Γ f H→Rel E ⟨Γ.ts,(i, .cells (Kl ps o (.own j)))::(j, .row t .nil)::Γ.ss⟩ f H:=by
 rintro E f H ⟨rv,fp,R⟩
 obtain⟨rv',fp',h1,h2,I⟩:=R.moreNil t (ER hj)
 have hne:i≠j:=by rintro rfl;simp[Nat.beq_refl]at hij
 have hi':AA ((j, .row t .nil)::Γ.ss) i=some (.cells ps):=by simp only[AA,if_neg (Ne.symm hne)];exact hi
 obtain⟨id,cs,e1,e0,e2,e3⟩:=I.slots i _ hi'
 obtain⟨b',c,g0,g1,g2,g3,g4,g5,g6⟩:=Dv e3 hp
 obtain⟨v,rfl,hv⟩:=g4
 have hv':v= .nils:=hv
 subst hv'
 have hs:Bm [.nils] 0 [.nils]=([.nils]:List AV):=rfl
 have hpr:=g6 0 [.nils] (.own j) (by simp) (by rw[hs];exact⟨_,rfl,h2,h1.symm⟩)
 have hsame:Bm cs (b'+0) [.nils]=cs:=by
  have h:=g5 0 1 (by simp)
  simp only[Nat.add_zero,sub,List.drop_zero,List.take_succ_cons,List.take_zero]at h ⊢
  simp only[List.length_cons,List.length_nil]at g3
  simp only[Bm,List.length_cons,List.length_nil]
  rw[←h,List.append_assoc,←List.drop_drop,List.take_append_drop,List.take_append_drop]
 rw[hsame]at hpr
 have hli:AT ((j, .row t .nil)::Γ.ss) i:=Hg hi' rfl
 obtain⟨rv2,fp2,_,_,I2⟩:=I.chg (j:=i) (S:= .cells (Kl ps o (.own j))) (v:=rv' i) (F:=fp' i) (G:=H) (by rw[hi'];rfl) rfl (Nat.le_refl _) (fun _ _ _=>rfl) (fun _ h=> .inl ⟨hli,h⟩) (fun _=> .inl rfl) I.wf (I.rvlt i hli) (.inr ((I.scal i hli).resolve_left (by rw[hi'];simp[Ck]))) fun rv2 fp2 f1 f2 hP hs=>
  ⟨id,cs,by rw[f1];exact e1,by rw[f2];exact e0,e2,hpr.mono hP (Nat.le_refl _) fun p _=>hs p.2 fun _=> .inl rfl⟩
 exact⟨rv2,fp2,I2⟩
end
end Go.Proofs.Ytapafbjgdfgodaa.Am
namespace Go.Proofs.Ytapafbjgdfgodaa.Am
section
variable{tb:Ce}{Γ:Cx}{a b:AO}
def W3(tb:Ce)(Γ:Cx)(a:AO)(t:T)(l:List t.α):Prop:= ∀E rv fp f H,Bn E Γ rv fp f H→ ∃els,SH H t.sz (eval tb f a)=some els∧BE t (Pf E Γ.ss fp H) H els l
theorem My{t:T}{g:GS t.α}(ha:BB tb Γ a (.val (T.sl t) g)):W3 tb Γ a t g.l:=by
 intro E rv fp f H R
 have hv:=FB.1 (ha E rv fp f H R)
 obtain⟨els,e,h⟩:=hv.els
 refine⟨els,?_,h⟩
 have hs:=hv.sca
 cases hx:eval tb f a<;>rw[hx]at e hv<;>first
  |exact e
  |(cases g<;>first|(have hv':=hv;cases hv';done)|(have:=hv.1;simp only[GO]at this;done))
def MS{α:Type}(bytes:Nat)(g:GS α)(l:List α):Option (GS α):=if(g.l.length+l.length)*bytes≤GH then some (Z0 g l)else none
theorem JT: ∀(x y:List (List AV)),C1 (x++y)=max (C1 x) (C1 y)
 |[],y=>by simp[C1]
 |z::x,y=>by simp only[List.cons_append,C1,JT x y];omega
theorem I9{t:T}{g:GS t.α}{l:List t.α}{d j t0 sz bytes:Nat}(hs:sz=t.sz)(ha:BB tb Γ a (.own j))(hj:AA Γ.ss j=some (.row t g))(hb:W3 tb Γ b t l):
  Mr tb Γ (some d) (.app t0 sz bytes a b) (MS bytes g l) fun g'=>⟨(d, .own j)::(Γ.kill j).ts,(j, .row t g')::(Γ.kill j).ss⟩:=by
 intro E rv fp f H R g' hg
 simp only[MS]at hg
 split at hg
 ·rename_i hle
  cases hg
  subst hs
  obtain⟨els,e,hels⟩:=hb E rv fp f H R
  have hel:=hels.length
  have hlive:AT Γ.ss j:=Hg hj rfl
  have hnk:Ck (AA Γ.ss j)=false:=by rw[hj];rfl
  have hka:=Sn R hnk
  have K:=R.kill j hnk
  have hkk:Ck (AA (Γ.kill j).ss j)=false:=by rw[Cx.kill];simp only[Eb,L9];exact hnk
  have hkl:AT (Γ.kill j).ss j:=KL.2 hlive
  have hslot:=R.slots j _ hj
  have hPk: ∀i,Pf E Γ.ss fp H i→Pf E (Γ.kill j).ss fp H i:=fun i=>Pf.same fun k l=>KL.1 l
  have hels':=hels.mono (Q:=Pf E (Γ.kill j).ss fp H) (G:=H) fun i hi=>⟨hPk i hi,rfl⟩
  have hmen:=hels'.men K.ltP
  obtain⟨_,hv⟩:=ha E rv fp f H R
  simp only[B7,e,Option.bind_some,hv]
  cases g with
  |nil=>
   obtain⟨hr,hf⟩:=hslot
   rw[hr]
   simp only[GS.l,List.length_nil,Nat.zero_add]at hle
   cases l with
   |nil=>
    have:els=[]:=List.length_eq_zero_iff.1 hel
    subst this
    obtain⟨rv',fp',h1,h2,h3⟩:=K.chg (j:=j) (S:= .row t .nil) (v:= .nils) (F:=fp j) (G:=H) hkk rfl (Nat.le_refl _) (fun _ _ _=>rfl) (fun i hi=>absurd hi (hf i)) (fun _=> .inr hka) K.wf (by simp[B8]) (.inr rfl)
     fun rv' fp' e1 e2 _ _=>⟨e1,fun i=>by rw[e2];exact hf i⟩
    exact⟨.nils,none,rfl,rv',fp',h3.push (φ:= .own j) ⟨h2,h1.symm⟩⟩
   |cons x l=>
    have hne: ¬els.length=0:=by rw[hel];simp
    obtain⟨rv',fp',h1,h2,h3⟩:=K.chg (j:=j) (S:= .row t (.mk (x::l))) (v:= .orow H.length els.length 0 els.length) (F:=fun i=>i=H.length) (G:=H++[.row (some t0) false t.sz els]) hkk rfl (by simp) (fun i hi _=>List.getElem?_append_left hi)
     (fun i hi=> .inr ⟨by omega,by simp;omega⟩) (fun _=> .inr hka) (by rw[Pp];have:=K.wf;simp only[CB,EA,List.length_append,List.length_cons,List.length_nil];omega) (by simp[B8]) (.inr rfl)
     fun rv' fp' e1 e2 hP _=>⟨_,els,e1,fun i=>by rw[e2],by simp[rowAt],hels'.mono hP⟩
    refine⟨.orow H.length els.length 0 els.length,some (H++[Ca.row (some t0) false t.sz els]),?_,rv',fp',h3.push (φ:= .own j) ⟨h2,h1.symm⟩⟩
    simp only[Wu,if_neg hne]
    rw[if_pos (by rw[hel];exact hle)]
  |mk q=>
   obtain⟨id,old,hr,hf,h2,h3⟩:=hslot
   rw[hr]
   have hlen:=h3.length
   have h3':=h3.mono (Q:=Pf E (Γ.kill j).ss fp H) (G:=H) fun i hi=>⟨hPk i hi,rfl⟩
   have hm3:=h3'.men K.ltP
   have hidlt:=(K.fplt j id hkl ((hf id).2 rfl)).1
   simp only[GS.l]at hle
   simp only[Wu,h2,Option.bind_some]
   rw[if_pos ⟨trivial,trivial,trivial,trivial,by rw[hlen,hel];exact hle,trivial⟩]
   by_cases h0:els.length=0
   ·rw[if_pos h0]
    have hnil:els=[]:=List.length_eq_zero_iff.1 h0
    subst hnil
    have hl0:l=[]:=List.length_eq_zero_iff.1 hel.symm
    subst hl0
    obtain⟨rv',fp',g1,g2,g3⟩:=K.chg (j:=j) (S:= .row t (.mk q)) (v:=rv j) (F:=fp j) (G:=H) hkk rfl (Nat.le_refl _) (fun _ _ _=>rfl) (fun i hi=> .inl ⟨hkl,hi⟩) (fun _=> .inl rfl) K.wf (K.rvlt j hkl) (.inr (by rw[hr];rfl))
     fun rv' fp' e1 e2 hP _=>⟨id,old,by rw[e1];exact hr,by rw[e2];exact hf,h2,h3'.mono hP⟩
    refine⟨.orow id old.length 0 old.length,none,rfl,rv',fp',?_⟩
    have:=g3.push (d:=d) (φ:= .own j) (v:=rv j) ⟨g2,g1.symm⟩
    rw[hr]at this
    simpa [Z0,Cx.push]using this
   ·rw[if_neg h0]
    obtain⟨rv',fp',g1,g2,g3⟩:=K.set (j:=j) (S:= .row t (.mk (q++l))) (v:= .orow id (old++els).length 0 (old++els).length) (o:= .row (N0 (CN H id) t0) false t.sz (old++els)) hkk hkl hf (by simp only[EA,JT];omega) rfl (by simp only[B8];omega) (.inr hka) (.inr rfl)
     fun rv' fp' e1 e2 hP _=>⟨id,old++els,e1,e2,by simp[rowAt,hidlt],(h3'.app hels').mono hP⟩
    refine⟨.orow id (old++els).length 0 (old++els).length,some (H.set id (.row (N0 (CN H id) t0) false t.sz (old++els))),by rw[List.length_append],rv',fp',g3.push (φ:= .own j) ⟨g2,g1.symm⟩⟩
 ·cases hg
theorem XN{t:T}{g:GS t.α}{j:Nat}(ha:BB tb Γ a (.own j))(hj:AA Γ.ss j=some (.row t g)){E:JL}{rv:Nat→AV}{fp:Fp}{f:Fr}{H:A3}(R:Bn E Γ rv fp f H):
  (g= .nil∧eval tb f a= .nils)∨ ∃id els l,g= .mk l∧rv j= .orow id els.length 0 els.length∧(∀i,fp j i↔i=id)∧rowAt H id=some (false,t.sz,els)∧BE t (Pf E Γ.ss fp H) H els l∧eval tb f a= .orow id els.length 0 els.length:=by
 obtain⟨_,hv⟩:=ha E rv fp f H R
 have hs:=R.slots j _ hj
 cases g with
 |nil=>exact .inl ⟨rfl,hv.trans hs.1⟩
 |mk l=>
  obtain⟨id,els,h1,h0,h2,h3⟩:=hs
  exact .inr ⟨id,els,l,rfl,h1,h0,h2,h3,hv.trans h1⟩
theorem LE{t:T}{g:GS t.α}{j:Nat}(ha:BB tb Γ a (.own j))(hj:AA Γ.ss j=some (.row t g)):El tb Γ (.len a) (some (g.l.length:Int)) fun z=> .val (T.int .i64) z:=by
 rintro E rv fp f H R z ⟨⟩
 rcases XN ha hj R with ⟨rfl,hv⟩|⟨id,els,l,rfl,_,_,_,h,hv⟩
 ·exact⟨_,none,by simp only[B7,hv,JI,Option.map_some];rfl,rfl,CW.2 rfl⟩
 ·exact⟨_,none,by simp only[B7,hv,JI,Option.map_some,h.length];rfl,rfl,CW.2 rfl⟩
def EM(n:Nat)(i:Int):Option Nat:=if 0≤i∧i.toNat<n then some i.toNat else none
theorem Ku{t:T}{g:GS t.α}{j sz:Nat}{k:IntKind}{i:Int}(hs:sz=t.sz)(ha:BB tb Γ a (.own j))(hj:AA Γ.ss j=some (.row t g))(hb:BB tb Γ b (.val (T.int k) i)):
  El tb Γ (.ias sz a b) (EM g.l.length i) fun n=> .ep j n 0:=by
 intro E rv fp f H R n hn
 simp only[EM]at hn
 split at hn
 ·rename_i hc
  cases hn
  subst hs
  have hl:AT Γ.ss j:=Hg hj rfl
  rcases XN ha hj R with ⟨rfl,hv⟩|⟨id,els,l,rfl,hid,_,hr,h,hv⟩
  ·simp[GS.l]at hc
  ·have hlen:=h.length
   simp only[GS.l]at hc
   have hx:N9 H t.sz (.orow id els.length 0 els.length) i.toNat=some (.pe id els.length (0+i.toNat) 0):=by
    simp[N9,Dg,hr,hlen,hc.2]
   refine⟨.pe id els.length (0+i.toNat) 0,none,by simp only[B7,hv,CW.1 (hb E rv fp f H R),Gr,Option.bind_some,if_pos hc.1,hx,val,Option.map_some],rfl,hl,id,els.length,hid,by omega,by rw[Nat.zero_add]⟩
 ·cases hn
theorem R9{t u:T}{g:GS t.α}{j i off n:Nat}{ag:Bool}(hag:ag=u.agg)(hn:n=u.sz)(F:AB t u off)(ha:BB tb Γ a (.ep j i off))(hj:AA Γ.ss j=some (.row t g)):El tb Γ (.ld ag n a) ((g.l[i]?).map F.get) fun z=> .val u z:=by
 intro E rv fp f H R z hz
 obtain⟨x,hx,rfl⟩:=Option.map_eq_some_iff.1 hz
 obtain⟨_,id,m,hid,hi,hv⟩:=ha E rv fp f H R
 have hs:=R.slots j _ hj
 cases g with
 |nil=>simp[GS.l]at hx
 |mk l=>
  obtain⟨id',els,h1,h0,h2,h3⟩:=hs
  rw[hid]at h1;cases h1
  obtain⟨c,hc,hr⟩:=h3.get hx
  have hle:=F.le
  have hl:=t.len hr
  obtain⟨v,g1,g2⟩:=T.V.of (F.getR hr)
  subst hag hn
  refine⟨v,none,?_,rfl,g2⟩
  have hlf:off+u.sz≤((els.drop i).flatten).length:=by rw[J4 hc];simp;omega
  simp only[B7,hv,Am.load,place,h2,Option.bind_some,if_pos,Option.map_some,if_pos hlf,val]
  rw[J4 hc,QN (by omega),g1];rfl
def GS.set{α:Type}:GS α→Nat→α→GS α
 | .nil,_,_=> .nil
 | .mk l,i,x=> .mk (l.set i x)
theorem XW{t u:T}{g:GS t.α}{y:u.α}{j i off n:Nat}(hn:n=u.sz)(F:AB t u off)(ha:BB tb Γ a (.ep j i off))(hb:BB tb Γ b (.val u y))(hj:AA Γ.ss j=some (.row t g)):
  Mr tb Γ none (.st n a b) ((g.l[i]?).map fun x=>g.set i (F.put x y)) fun g'=>Γ.setS j (.row t g'):=by
 intro E rv fp f H R g' hg
 obtain⟨x,hx,rfl⟩:=Option.map_eq_some_iff.1 hg
 obtain⟨hl,id,m,hid,hi,hv⟩:=ha E rv fp f H R
 have hs:=R.slots j _ hj
 cases g with
 |nil=>simp[GS.l]at hx
 |mk l=>
  obtain⟨id',els,h1,h0,h2,h3⟩:=hs
  rw[hid]at h1;cases h1
  obtain⟨c,hc,hr⟩:=h3.get hx
  have hle:=F.le
  have hlen:=t.len hr
  have hy:=T.V.cells (hb E rv fp f H R)
  have hyl:=u.len hy
  have hput:=F.putR hr hy
  have hidlt:=(R.fplt j id hl ((h0 id).2 rfl)).1
  have hall:=h3.set (i:=i) hput
  have hmm:=hall.men R.ltP
  obtain⟨rv',fp',_,_,R'⟩:=R.set (j:=j) (S:= .row t (GS.set (.mk l) i (F.put x y))) (v:=rv j) (o:= .row (CN H id) false t.sz (els.set i (Bm c off (cellsOf (eval tb f b))))) (by rw[hj];rfl) hl h0 (by simpa [EA]using hmm) rfl (R.rvlt j hl) (.inl rfl) (R.scal j hl)
   fun rv' fp' e1 e2 hP _=>⟨id,_,by rw[e1,hid,List.length_set],e2,by simp[rowAt,hidlt],hall.mono hP⟩
  refine⟨.junk,some (H.set id (.row (CN H id) false t.sz (els.set i (Bm c off (cellsOf (eval tb f b)))))),?_,rv',fp',R'⟩
  subst hn
  simp only[B7,hv,store,h2,Option.bind_some]
  rw[if_pos ⟨trivial,trivial,hyl⟩]
  simp only[hc,Option.bind_some]
  rw[if_pos (show off+u.sz≤c.length by omega)]
  rfl
end
end Go.Proofs.Ytapafbjgdfgodaa.Am
namespace Go.Proofs.Ytapafbjgdfgodaa.Am
section
variable{tb:Ce}{Γ:Cx}{a b:AO}
theorem P3{P:Nat→Prop}{H:A3}: ∀{els:List (List AV)} {l:ZR},BE T.u8 P H els l→Fu els=some l
 |[],[],_=>rfl
 |c::els,x::l,h=>by
  have hc:c=[.i .u8 x.toNat]:=h.1
  subst hc
  simp only[Fu,P3 h.2,Option.map_some]
  congr 2
  simp
def S8{α:Type}(g:GS α)(c d:Nat):GS α:=match g with
 | .nil=> .nil
 | .mk l=> .mk ((l.take d).drop c)
def XM{α:Type}(g:GS α)(lo hi:Option Int):Option (GS α):=(WB g.l.length lo hi).map fun p=>S8 g p.1 p.2
theorem YR{n:Nat}{lo hi:Option Int}{p:Nat×Nat}(h:WB n lo hi=some p):p.1≤p.2∧p.2≤n:=by
 unfold WB at h
 obtain⟨u,hu,h⟩:=Option.bind_eq_some_iff.1 h
 obtain⟨l,hl,h⟩:=Option.bind_eq_some_iff.1 h
 cases h
 have h1:u≤n:=by
  cases hi with
  |none=>cases hu;omega
  |some m=>simp only[]at hu;split at hu<;>cases hu;omega
 have h2:l≤u:=by
  cases lo with
  |none=>cases hl;omega
  |some m=>simp only[]at hl;split at hl<;>cases hl;omega
 exact⟨h2,h1⟩
theorem Ik{sz:Nat}: ∀{len c d:Nat} {l:List AV},c≤d→d≤len→((B6 sz len l).take d).drop c=B6 sz (d-c) (l.drop (c*sz))
 |len,0,0,l,_,_=>by simp[B6]
 |len,c+1,0,l,h,_=>by omega
 |0,c,d+1,l,_,h=>by omega
 |len+1,0,d+1,l,_,h=>by
  have:=Ik (sz:=sz) (len:=len) (c:=0) (d:=d) (l:=l.drop sz) (by omega) (by omega)
  simp only[List.drop_zero,Nat.zero_mul,Nat.sub_zero]at this
  simp[B6,this]
 |len+1,c+1,d+1,l,h1,h2=>by
  have:=Ik (sz:=sz) (len:=len) (c:=c) (d:=d) (l:=l.drop sz) (by omega) (by omega)
  simp only[B6,List.take_succ_cons,List.drop_succ_cons,this,List.drop_drop,Nat.succ_mul]
  rw[show d+1-(c+1)=d-c by omega,Nat.add_comm sz]
theorem JY.resl{t:T}{P:Nat→Prop}{H:A3}{v:AV}{c d:Nat}(h1:c≤d): ∀{g:GS t.α},d≤g.l.length→JY t P H v g→ ∃w,Am.resl H t.sz v c d=some w∧JY t P H w (S8 g c d)
 | .nil,_,h=>by rw[show v=_ from h];exact⟨.nils,rfl,rfl⟩
 | .mk l,hd,⟨bp,els,e,h⟩=>by
  have hl:=h.length
  simp only[GS.l]at hd
  have hall:=h.take (n:=d) |>.drop (n:=c)
  cases v<;>simp only[GO]at bp<;>simp only[Dg]at e
  ·split at e
   ·rename_i hs
    cases e
    subst hs
    exact⟨.sl t.sz ((els.take d).drop c),by simp[Am.resl],trivial,_,by simp[Dg],hall⟩
   ·cases e
  ·rename_i id k lo len
   obtain⟨r,hr,e⟩:=Option.bind_eq_some_iff.1 e
   split at e
   ·rename_i hc
    cases e
    rw[List.length_take,List.length_drop]at hl
    refine⟨.orow id k (lo+c) (d-c),by simp only[Am.resl,hr,Option.bind_some];rw[if_pos hc],bp,(r.2.2.drop (lo+c)).take (d-c),?_,?_⟩
    ·simp only[Dg,hr,Option.bind_some]
     rw[if_pos ⟨hc.1,hc.2.1,by omega⟩]
    ·have:(((r.2.2.drop lo).take len).take d).drop c=(r.2.2.drop (lo+c)).take (d-c):=by
      rw[List.take_take,Nat.min_eq_left (by omega),List.drop_take,List.drop_drop]
     rw[this]at hall
     exact hall
   ·cases e
  ·rename_i sz' id off len
   obtain⟨r,hr,e⟩:=Option.bind_eq_some_iff.1 e
   split at e
   ·rename_i hc
    have he:some (B6 t.sz len (r.drop off))=some els:=e
    cases he
    obtain⟨hs,hc⟩:=hc
    subst hs
    have hcl:(B6 t.sz len (r.drop off)).length=len:=by
     have: ∀(n:Nat) (l:List AV),(B6 t.sz n l).length=n:=by
      intro n
      induction n with
      |zero=>intro l;rfl
      |succ n ih=>intro l;simp[B6,ih]
     exact this _ _
    rw[hcl]at hl
    refine⟨.ocel t.sz id (off+c*t.sz) (d-c),by simp only[Am.resl,if_true],bp,B6 t.sz (d-c) (r.drop (off+c*t.sz)),?_,?_⟩
    ·have hmul:(d-c)*t.sz+c*t.sz≤len*t.sz:=by
      rw[←Nat.add_mul];exact Nat.mul_le_mul_right _ (by omega)
     simp only[Dg,hr,Option.bind_some]
     rw[if_pos ⟨trivial,by omega⟩]
    ·have:=Ik (sz:=t.sz) (len:=len) (c:=c) (d:=d) (l:=r.drop off) h1 (by omega)
     rw[this,List.drop_drop]at hall
     exact hall
   ·cases e
theorem XR{t:T}{g:GS t.α}{sz:Nat}{lo hi:Option AO}{l h:Option Int}(hs:sz=t.sz)(ha:BB tb Γ a (.val (T.sl t) g))(hl:WD tb Γ lo l)(hh:WD tb Γ hi h):El tb Γ (.sll sz a lo hi) (XM g l h) fun z=> .val (T.sl t) z:=by
 intro E rv fp f H R z hz
 obtain⟨p,hp,rfl⟩:=Option.map_eq_some_iff.1 hz
 have hv:=FB.1 (ha E rv fp f H R)
 obtain⟨h1,h2⟩:=YR hp
 obtain⟨w,h3,h4⟩:=hv.resl h1 h2
 subst hs
 exact⟨w,none,by simp only[B7,hv.len,Option.bind_some,P4 hl hh R,hp,h3,val,Option.map_some],rfl,FB.2 h4⟩
inductive Ty(tb:Ce)(Γ:Cx)(t:T):List (Nat×Nat×AO)→t.α→t.α→Prop where
 |nil (x:t.α):Ty tb Γ t [] x x
 |cons {u:T} {off n:Nat} {a:AO} {r:List (Nat×Nat×AO)} {x z:t.α} {y:u.α} (F:AB t u off) (hn:n=u.sz) (h:BB tb Γ a (.val u y)) (k:Ty tb Γ t r (F.put x y) z):Ty tb Γ t ((off,n,a)::r) x z
theorem Ty.spec{t:T}{E:JL}{rv:Nat→AV}{fp:Fp}{f:Fr}{H:A3}(R:Bn E Γ rv fp f H): ∀{ps:List (Nat×Nat×AO)} {x z:t.α} {cs:List AV},Ty tb Γ t ps x z→t.R (Pf E Γ.ss fp H) H cs x→
  ∃ds,Jh cs (eval tb f) ps=some ds∧t.R (Pf E Γ.ss fp H) H ds z
 |_,_,_,cs, .nil _,h=>⟨cs,rfl,h⟩
 |_,_,_,cs, .cons (u:=u) (off:=off) F hn ho k,h=>by
  have hv:=T.V.cells (ho E rv fp f H R)
  have hl:=u.len hv
  have hle:=F.le
  have ht:=t.len h
  obtain⟨ds,h1,h2⟩:=k.spec R (F.putR h hv)
  refine⟨ds,?_,h2⟩
  simp only[Jh]
  rw[if_pos ⟨by rw[hl,hn],by omega⟩]
  exact h1
theorem Dy{t:T}{zero:List AV}{ps:List (Nat×Nat×AO)}{z:t.α}(hz:zero=t.zc)(ht:t.agg=true)(h:Ty tb Γ t ps t.z z):El tb Γ (.bld zero ps) (some z) fun z=> .val t z:=by
 rintro E rv fp f H R _ ⟨⟩
 subst hz
 obtain⟨ds,h1,h2⟩:=h.spec R (t.hz _ _)
 exact⟨.agg ds,none,by simp only[B7,h1,Option.map_some,val],rfl, .inl ⟨ht,ds,rfl,h2⟩⟩
inductive Sp(tb:Ce)(Γ:Cx)(t:T):List (Nat×AO)→List t.α→List t.α→Prop where
 |nil (l:List t.α):Sp tb Γ t [] l l
 |cons {i:Nat} {a:AO} {r:List (Nat×AO)} {l m:List t.α} {y:t.α} (hi:Nat.blt i l.length=true) (h:BB tb Γ a (.val t y)) (k:Sp tb Γ t r (l.set i y) m):Sp tb Γ t ((i,a)::r) l m
theorem Sp.spec{t:T}{E:JL}{rv:Nat→AV}{fp:Fp}{f:Fr}{H:A3}(R:Bn E Γ rv fp f H): ∀{ps:List (Nat×AO)} {l m:List t.α} {els:List (List AV)},Sp tb Γ t ps l m→BE t (Pf E Γ.ss fp H) H els l→
  ∃ds,Hh els t.sz (eval tb f) ps=some ds∧BE t (Pf E Γ.ss fp H) H ds m
 |_,_,_,els, .nil _,h=>⟨els,rfl,h⟩
 |_,_,_,els, .cons (i:=i) hi ho k,h=>by
  have hv:=T.V.cells (ho E rv fp f H R)
  have hl:=t.len hv
  have hlen:=h.length
  rw[Ll]at hi
  obtain⟨ds,h1,h2⟩:=k.spec R (h.set (i:=i) hv)
  refine⟨ds,?_,h2⟩
  simp only[Hh]
  rw[if_pos ⟨hl,by omega⟩]
  exact h1
theorem KQ{t:T}{zero:List (List AV)}{sz n:Nat}{ps:List (Nat×AO)}{l:List t.α}(hs:sz=t.sz)(hz:zero=List.replicate n t.zc)(h:Sp tb Γ t ps (List.replicate n t.z) l):El tb Γ (.bll sz zero ps) (some l) fun l=> .val (T.sl t) (.mk l):=by
 rintro E rv fp f H R _ ⟨⟩
 subst hz hs
 obtain⟨ds,h1,h2⟩:=h.spec R (BE.rep (t.hz _ _) n)
 exact⟨.sl t.sz ds,none,by simp only[B7,h1,Option.map_some,val],rfl,FB.2 ⟨trivial,ds,by simp[Dg],h2⟩⟩
theorem Ar.get_lt{α:Type}{n:Nat}(x:Ar α n){i:Nat}{y:α}(h:x.l[i]? =some y):i<n:=by
 have:=(List.getElem?_eq_some_iff.1 h).1
 have:=x.len
 omega
theorem RF{sz:Nat}: ∀{l:List (List AV)} {i:Nat} {c:List AV},(∀e∈l,e.length=sz)→l[i]? =some c→sub l.flatten (i*sz) sz=c
 |[],i,c,_,h=>by simp at h
 |d::l,0,c,hl,h=>by
  simp only[List.getElem?_cons_zero,Option.some.injEq]at h
  subst h
  have:=hl d List.mem_cons_self
  simp[sub,this]
 |d::l,i+1,c,hl,h=>by
  simp only[List.getElem?_cons_succ]at h
  have h1:=hl d List.mem_cons_self
  have:=RF (l:=l) (fun e he=>hl e (List.mem_cons_of_mem _ he)) h
  simp only[sub]at this ⊢
  rw[List.flatten_cons,show(i+1)*sz=d.length+i*sz by rw[Nat.succ_mul];omega,←List.drop_drop,List.drop_left' rfl]
  exact this
theorem Mi{sz:Nat}: ∀{l:List (List AV)} {i:Nat} {c:List AV},(∀e∈l,e.length=sz)→i<l.length→c.length=sz→Bm l.flatten (i*sz) c=(l.set i c).flatten
 |[],i,c,_,h,_=>by simp at h
 |d::l,0,c,hl,h,hc=>by
  have:=hl d List.mem_cons_self
  simp only[Bm,Nat.zero_mul,List.take_zero,Nat.zero_add,List.nil_append,List.set_cons_zero,List.flatten_cons]
  rw[hc,←this,List.drop_left' rfl]
 |d::l,i+1,c,hl,h,hc=>by
  have h1:=hl d List.mem_cons_self
  have ih:=Mi (l:=l) (fun e he=>hl e (List.mem_cons_of_mem _ he)) (by simpa using h) hc
  simp only[Bm]at ih ⊢
  rw[List.flatten_cons,List.set_cons_succ,List.flatten_cons,←ih,show(i+1)*sz=d.length+i*sz by rw[Nat.succ_mul];omega]
  rw[List.take_append,List.take_of_length_le (by omega),show d.length+i*sz-d.length=i*sz by omega]
  rw[show d.length+i*sz+c.length=d.length+(i*sz+c.length) by omega,←List.drop_drop,List.drop_left' rfl]
  simp
def AB.at(n:Nat)(t:T)(i:Nat)(hi:i<n):AB (A1 n t) t (i*t.sz) where
 get:=fun x=>x.l[i]'(by rw[x.len];exact hi)
 put:=fun x y=>x.set i y
 le:=by
  show i*t.sz+t.sz≤n*t.sz
  rw[←Nat.succ_mul];exact Nat.mul_le_mul_right _ hi
 getR:=fun{P H cs x} ⟨css,e,h⟩=>by
  obtain⟨c,hc,hr⟩:=h.get (i:=i) (x:=x.l[i]'(by rw[x.len];exact hi)) (List.getElem?_eq_getElem _)
  rw[e,RF h.lens hc];exact hr
 putR:=fun{P H cs x c y} ⟨css,e,h⟩ k=>by
  have hlen:=h.length
  have hx:=x.len
  have hc:=t.len k
  exact⟨css.set i c,by rw[e];exact Mi h.lens (by omega) hc,h.set k⟩
def GR{t u w:T}{o o':Nat}(F:AB t u o)(G:AB u w o'):AB t w (o+o') where
 get:=fun x=>G.get (F.get x)
 put:=fun x y=>F.put x (G.put (F.get x) y)
 le:=by have:=F.le;have:=G.le;omega
 getR:=fun{P H cs x} h=>by
  have h1:=F.le
  have h2:=G.le
  have h3:=t.len h
  have:=G.getR (F.getR h)
  rw[show sub cs (o+o') w.sz=sub (sub cs o u.sz) o' w.sz by
   simp only[sub]
   rw[List.drop_take,List.take_take,List.drop_drop,Nat.min_eq_left (by omega)]]
  exact this
 putR:=fun{P H cs x c y} h k=>by
  have h1:=F.le
  have h2:=G.le
  have h3:=t.len h
  have h4:=w.len k
  have:=F.putR h (G.putR (F.getR h) k)
  rw[show Bm cs (o+o') c=Bm cs o (Bm (sub cs o u.sz) o' c) by
   have hsl:(Bm (sub cs o u.sz) o' c).length=u.sz:=by
    rw[Su]<;>simp only[sub,List.length_take,List.length_drop]<;>omega
   apply List.ext_getElem?
   intro i
   simp only[Bm,sub,List.getElem?_append,List.getElem?_take,List.getElem?_drop,List.length_append,List.length_take,List.length_drop]
   have hl2:(Bm (sub cs o u.sz) o' c).length=u.sz:=hsl
   simp only[Bm,sub,List.length_append,List.length_take,List.length_drop]at hl2
   repeat' split
   all_goals first|rfl|omega|(congr 1;omega)|(exfalso;omega)]
  exact this
theorem U1{n:Nat}{i:Int}{m:Nat}(h:EM n i=some m):0≤i∧m=i.toNat∧m<n:=by
 unfold EM at h
 split at h
 ·rename_i hc;cases h;exact⟨hc.1,rfl,hc.2⟩
 ·cases h
theorem H4{j o len sz:Nat}{k:IntKind}{i:Int}(ha:BB tb Γ a (.cp j o))(hb:BB tb Γ b (.val (T.int k) i)):El tb Γ (.iaa len sz a b) (EM len i) fun m=> .cp j (o+m*sz):=by
 intro E rv fp f H R m hm
 obtain⟨h0,rfl,h1⟩:=U1 hm
 obtain⟨l,id,e,hv⟩:=ha E rv fp f H R
 exact⟨.ptr id (o+i.toNat*sz),none,by simp only[B7,hv,CW.1 (hb E rv fp f H R),Gr,Option.bind_some,if_pos (show 0≤i∧i<(len:Int) by omega),shift,val,Option.map_some],rfl,l,id,e,rfl⟩
theorem Mf{s t:T}{x:s.α}{n j o o' m k N:Nat}{ag:Bool}{ps:List (Nat×AI)}(F:AB s (A1 n t) o')(hag:ag=t.agg)(hk:k=t.sz)(ha:BB tb Γ a (.cp j (o+m*t.sz)))(hj:AA Γ.ss j=some (.cells ps))(hp:EY ps o=some (N, .val s x,o')):
  El tb Γ (.ld ag k a) ((F.get x).l[m]?) fun y=> .val t y:=by
 intro E rv fp f H R y hy
 have hlt:=(F.get x).get_lt hy
 obtain⟨l,id,e,hv⟩:=ha E rv fp f H R
 obtain⟨cs,h0,h2,h3⟩:=Fj R hj e
 obtain⟨b',c,e0,e1,e2,e3,e4,e5,_⟩:=Dv h3 hp
 have G:=GR F (AB.at n t m hlt)
 have hr:=(GR F (AB.at n t m hlt)).getR e4
 have hle:=(GR F (AB.at n t m hlt)).le
 have hl:=s.len e4
 have:(GR F (AB.at n t m hlt)).get x=y:=(List.getElem?_eq_some_iff.1 hy).2
 rw[this,←e5 (o'+m*t.sz) t.sz (by omega),show b'+(o'+m*t.sz)=o+m*t.sz by omega]at hr
 obtain⟨v,g1,g2⟩:=T.V.of hr
 subst hag hk
 exact⟨v,none,by simp only[B7,hv,Am.load,place,h2,Option.map_some,Option.bind_some,if_pos (show o+m*t.sz+t.sz≤cs.length by omega),g1,val],rfl,g2⟩
end
end Go.Proofs.Ytapafbjgdfgodaa.Am
