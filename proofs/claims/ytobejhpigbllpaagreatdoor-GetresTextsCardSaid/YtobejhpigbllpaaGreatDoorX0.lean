/-
  An abstract machine over flat lists of abstract cells: its values, its code and what its code does. Nothing here is about memory.
  The machine's equations: a loop is its body and the loop again; a call is its body, in which calls are calls again.
  The machine's values and memory as those of the model: what an abstract value says of a value in a world; that it goes on saying it.
  Types as sets of Lean values, and what cells of the machine's say of such a value; memory that P names is no more written.
  What is known at a point of a function's code: of its temporaries and of the memory that it made itself.
  What is known, put otherwise: fewer things; a slot that is no more written.
  What a function's code computes, as a Lean value, and that it does: the shapes of code.
  A function: its arguments, its results; what its code computes is what a call of it comes to.
  What operations come to, on typed values: numbers, texts, tests.
  What operations come to, on typed values: fields, slices, memory, calls.
  What operations come to, on typed values: memory of the function's own, calls, equality.
  What operations come to, on typed values: slices that grow, texts and bytes, structures, calls, equality.
  What operations come to, on typed values: texts and bytes, pieces of slices, literals, arrays, calls, equality.
-/
import GoSem.Step
import Derived.Attr
import Derived.Calls
import Derived.Still
namespace Go.Proofs.YtobejhpigbllpaaGreatDoor.Am
inductive AV where
 |b (x:Bool)
 |i (k:IntKind) (n:Int)
 |s (l:List UInt8)
 |agg (cs:List AV)
 |tup (cs:List AV)
 |nilp
 |ptr (id off:Nat)
 |pe (id n i off:Nat)
 |ip (cs:List AV) (off:Nat)
 |nils
 |sl (sz:Nat) (els:List (List AV))
 |orow (id n lo len:Nat)
 |ocel (sz id off len:Nat)
 |nilm
 |mp (id:Nat)
 |nilf
 |fn (f:Fn) (first captured:List AV)
 |nili
 |ifc (t:Nat) (v:AV)
 |junk
 deriving Inhabited
inductive BF where
 |cells (t:Option Nat) (cs:List AV)
 |row (t:Option Nat) (fz:Bool) (sz:Nat) (els:List (List AV))
 |map (es:List (AV×AV))
 |iter (l:List UInt8) (pos:Nat)
 deriving Inhabited
abbrev Av:=List BF
abbrev Fr:=List (Nat×AV)
def get:Fr→Nat→AV
 |[],_=> .junk
 |(u,v)::r,t=>if u=t then v else get r t
def put(f:Fr)(d:Option Nat)(v:AV):Fr:=
 match d with
 |some t=>(t,v)::f
 |none=>f
inductive CK where
 |b
 |i (k:IntKind)
 |s
 deriving DecidableEq,Inhabited
inductive EK where
 |one (c:CK)
 |agg (l:List CK)
 |p
 |m
 |f
 |n
 |sl
 deriving DecidableEq,Inhabited
def zz:List (Nat×AV)→List AV
 |[]=>[]
 |(n,v)::r=>List.replicate n v++zz r
def kk:List (Nat×CK)→List CK
 |[]=>[]
 |(n,c)::r=>List.replicate n c++kk r
inductive AO where
 |t (n:Nat)
 |k (v:AV)
 |f (n:Nat)
 |g (n:Nat)
 deriving Inhabited
inductive HN where
 |mv (x:AO)
 |pick (c a b:AO)
 |alloc (t:Nat) (zero:List AV)
 |box (t n:Nat) (x:AO)
 |bld (zero:List AV) (parts:List (Nat×Nat×AO))
 |bls (t sz:Nat) (zero:List (List AV)) (parts:List (Nat×AO))
 |bll (sz:Nat) (zero:List (List AV)) (parts:List (Nat×AO))
 |ld (agg:Bool) (n:Nat) (a:AO)
 |st (n:Nat) (a x:AO)
 |nilc (x:AO)
 |bin (op:BinOp) (x y:AO)
 |eq (neg:Bool) (ek:EK) (x y:AO)
 |un (op:UnOp) (x:AO)
 |cvi (k:IntKind) (x:AO)
 |cvid (x:AO)
 |cvb (t:Nat) (x:AO)
 |cvr (x:AO)
 |cvs (x:AO)
 |cvc (x:AO)
 |mkf (fn:Fn) (first captured:List AO)
 |mkm
 |mks (t sz bytes:Nat) (zero:List AV) (len cap:AO)
 |sls (x:AO) (lo hi:Option AO)
 |sll (sz:Nat) (x:AO) (lo hi:Option AO)
 |sla (n sz:Nat) (x:AO) (lo hi:Option AO)
 |fa (off:Nat) (x:AO)
 |fld (agg:Bool) (off n:Nat) (x:AO)
 |ias (sz:Nat) (x i:AO)
 |iaa (len sz:Nat) (x i:AO)
 |ixa (len sz:Nat) (agg:Bool) (x i:AO)
 |ixs (x i:AO)
 |lkp (ek:EK) (zero:AV) (ok:Bool) (m k:AO)
 |mup (ek:EK) (m k v:AO)
 |rng (x:AO)
 |nxt (x:AO)
 |ext (x:AO) (i:Nat)
 |s2a (n sz:Nat) (x:AO)
 |mkif (t:Nat) (x:AO)
 |call (f:Nat) (xs:List AO)
 |callv (x:AO) (xs:List AO)
 |len (x:AO)
 |lens (x:AO)
 |app (t sz bytes:Nat) (s x:AO)
 |cpy (sz:Nat) (d s:AO)
 |mnx (max:Bool) (x y:AO)
 |clr (zero:List AV) (x:AO)
 |del (ek:EK) (m k:AO)
 |lenm (m:AO)
 |cvp (x:AO)
 |cvu (t n:Nat) (x:AO)
 |eqp (neg:Bool) (x y:AO)
 |isni (neg:Bool) (x:AO)
 |capn (x:AO)
 |usd (x:AO)
 |ust (t:Nat) (x n:AO)
 |die
 deriving Inhabited
structure AT where
 d:Option Nat
 g:Option (Nat×Bool)
 o:HN
 deriving Inhabited
inductive AC where
 |skip
 |reg (ops:List AT)
 |regq (ops:List AT)
 |regd (ops:List AT) (w:List (Option (Nat×Nat)))
 |seq (x y:AC)
 |cond (c:AO) (x y:AC)
 |blk (id:Nat) (x:AC)
 |loop (AZ:List Nat) (x:AC)
 |exit (id:Nat)
 |ret
 |keep (AZ:List Nat) (x:AC)
 |scope (x:AC)
 |stop
 deriving Inhabited
inductive Ex where
 |normal
 |exit (id:Nat)
 |ret
 deriving DecidableEq,Inhabited
inductive KR where
 |tmp (t:Nat)
 |cell (agg:Bool) (n:Nat) (t:Nat)
 deriving Inhabited
structure CI where
 warm:Bool
 np:Nat
 nt:Nat
 res:List KR
 body:AC
 deriving Inhabited
structure CW where
 fns:Nat→Option CI
 gl:Nat→Option (List AV)
 prim:Nat→Option (List AV→Av→Option (AV×Option Av))
mutual
def B7:AV→Nat
 | .ptr id _=>id+1
 | .pe id _ _ _=>id+1
 | .orow id _ _ _=>id+1
 | .ocel _ id _ _=>id+1
 | .mp id=>id+1
 | .ip cs _=>Bg cs
 | .sl _ els=>CJ els
 | .fn _ a b=>max (Bg a) (Bg b)
 | .ifc _ v=>B7 v
 | .agg cs=>Bg cs
 | .tup cs=>Bg cs
 |_=>0
def Bg:List AV→Nat
 |[]=>0
 |v::r=>max (B7 v) (Bg r)
def CJ:List (List AV)→Nat
 |[]=>0
 |l::r=>max (Bg l) (CJ r)
end
def Ej:BF→Nat
 | .cells _ cs=>Bg cs
 | .row _ _ _ els=>CJ els
 | .map es=>max (Bg (es.map (·.1))) (Bg (es.map (·.2)))
 | .iter _ _=>0
def CB:Av→Nat
 |[]=>0
 |o::r=>max (Ej o) (CB r)
def cellsOf:AV→List AV
 | .agg cs=>cs
 | .tup _=>[]
 | .junk=>[]
 |v=>[v]
def sub(cs:List AV)(off n:Nat):List AV:=(cs.drop off).take n
def Bw(cs:List AV)(off:Nat)(new:List AV):List AV:=cs.take off++new++cs.drop (off+new.length)
def Ho(agg:Bool)(cs:List AV):Option AV:=
 match agg,cs with
 |true,cs=>some (.agg cs)
 |false,[v]=>some v
 |false,_=>none
def BX(h:Av)(id:Nat):Option (List AV):=
 match h[id]? with
 |some (.cells _ cs)=>some cs
 |_=>none
def rowAt(h:Av)(id:Nat):Option (Bool×Nat×List (List AV)):=
 match h[id]? with
 |some (.row _ fz sz els)=>some (fz,sz,els)
 |_=>none
def Ek(h:Av)(id:Nat):Option Nat:=
 match h[id]? with
 |some (.cells t _)=>t
 |some (.row t _ _ _)=>t
 |_=>none
def UB(l:Option Nat)(t:Nat):Option Nat:=if l=some t then some t else none
def Mb(h:Av)(id:Nat):Option (List (AV×AV)):=
 match h[id]? with
 |some (.map es)=>some es
 |_=>none
def Xl(h:Av)(id:Nat):Option (List UInt8×Nat):=
 match h[id]? with
 |some (.iter l p)=>some (l,p)
 |_=>none
def place(h:Av):AV→Option (List AV×Nat)
 | .ptr id off=>(BX h id).map fun cs=>(cs,off)
 | .pe id n i off=>(rowAt h id).bind fun r=>if n=r.2.2.length then some ((r.2.2.drop i).flatten,off)else none
 | .ip cs off=>some (cs,off)
 |_=>none
def load(h:Av)(agg:Bool)(n:Nat)(a:AV):Option AV:=
 (place h a).bind fun p=>if p.2+n≤p.1.length then Ho agg (sub p.1 p.2 n)else none
def store(h:Av)(n:Nat)(a x:AV):Option Av:=
 match a with
 | .ptr id off=>(BX h id).bind fun cs=>
  if(cellsOf x).length=n∧off+n≤cs.length then some (h.set id (BF.cells (Ek h id) (Bw cs off (cellsOf x))))else none
 | .pe id n' i off=>(rowAt h id).bind fun r=>
  if r.1=false∧n'=r.2.2.length∧(cellsOf x).length=n then
   (r.2.2[i]?).bind fun cs=>if off+n≤cs.length then some (h.set id (BF.row (Ek h id) false r.2.1 (r.2.2.set i (Bw cs off (cellsOf x)))))else none
  else none
 |_=>none
def shift(off:Nat):AV→Option AV
 | .ptr id o=>some (.ptr id (o+off))
 | .pe id n i o=>some (.pe id n i (o+off))
 | .ip cs o=>some (.ip cs (o+off))
 |_=>none
def BP(sz:Nat):Nat→List AV→List (List AV)
 |0,_=>[]
 |n+1,cs=>cs.take sz::BP sz n (cs.drop sz)
def Eu(h:Av)(sz:Nat):AV→Option (List (List AV))
 | .nils=>some []
 | .sl sz' els=>if sz'=sz then some els else none
 | .orow id n lo len=>(rowAt h id).bind fun r=>if n=r.2.2.length∧r.2.1=sz∧lo+len≤n then some ((r.2.2.drop lo).take len)else none
 | .ocel sz' id off len=>(BX h id).bind fun cs=>if sz'=sz∧off+len*sz≤cs.length then some (BP sz len (cs.drop off))else none
 |_=>none
def P7:AV→Option Nat
 | .nils=>some 0
 | .sl _ els=>some els.length
 | .orow _ _ _ len=>some len
 | .ocel _ _ _ len=>some len
 |_=>none
def Bu(l:List UInt8):List (List AV):=l.map fun c=>[.i .u8 c.toNat]
def Ev:List (List AV)→Option (List UInt8)
 |[]=>some []
 |[.i .u8 n]::r=>(Ev r).map (UInt8.ofNat n.toNat:: ·)
 |_=>none
def tN:CK→AV→AV→Option Bool
 | .b, .b x, .b y=>some (x==y)
 | .i k, .i k1 x, .i k2 y=>if k1=k∧k2=k then some (x==y)else none
 | .s, .s x, .s y=>some (x==y)
 |_,_,_=>none
def L3:List CK→List AV→List AV→Option Bool
 |[],[],[]=>some true
 |c::l,x::r,y::q=>(tN c x y).bind fun a=>(L3 l r q).map fun b=>a&&b
 |_,_,_=>none
def X8:EK→AV→AV→Option Bool
 | .one c,x,y=>tN c x y
 | .agg l, .agg x, .agg y=>L3 l x y
 | .p, .nilp, .nilp=>some true
 | .p, .nilp, .ptr _ _=>some false
 | .p, .nilp, .pe _ _ _ _=>some false
 | .p, .nilp, .ip _ _=>some false
 | .p, .ptr _ _, .nilp=>some false
 | .p, .pe _ _ _ _, .nilp=>some false
 | .p, .ip _ _, .nilp=>some false
 | .m, .nilm, .nilm=>some true
 | .m, .nilm, .mp _=>some false
 | .m, .mp _, .nilm=>some false
 | .f, .nilf, .nilf=>some true
 | .f, .nilf, .fn _ _ _=>some false
 | .f, .fn _ _ _, .nilf=>some false
 | .n, .nili, .ifc _ _=>some false
 | .n, .ifc _ _, .nili=>some false
 | .sl, .nils, .nils=>some true
 | .sl, .sl _ _, .nils=>some false
 | .sl, .orow _ _ _ _, .nils=>some false
 | .sl, .ocel _ _ _ _, .nils=>some false
 | .sl, .nils, .sl _ _=>some false
 | .sl, .nils, .orow _ _ _ _=>some false
 | .sl, .nils, .ocel _ _ _ _=>some false
 |_,_,_=>none
def qN(op:BinOp)(k:IntKind)(x y:Int):Int:=
 match op with
 | .and=>k.wrap (BitVec.ofInt k.bits x&&&BitVec.ofInt k.bits y).toNat
 | .or=>k.wrap (BitVec.ofInt k.bits x|||BitVec.ofInt k.bits y).toNat
 | .xor=>k.wrap (BitVec.ofInt k.bits x^^^BitVec.ofInt k.bits y).toNat
 |_=>k.wrap (BitVec.ofInt k.bits x&&& ~~~(BitVec.ofInt k.bits y)).toNat
def Be:Nat:=1099511627776
def bin(op:BinOp):AV→AV→Option AV
 | .i k a, .i k' b=>
  match op with
  | .shl=>if b<0 then none else some (.i k (k.wrap (a*2^(min b.toNat k.bits))))
  | .shr=>if b<0 then none else some (.i k (a.fdiv (2^(min b.toNat k.bits))))
  |op=>
   if k=k' then
    match op with
    | .add=>some (.i k (k.wrap (a+b)))
    | .sub=>some (.i k (k.wrap (a-b)))
    | .mul=>some (.i k (k.wrap (a*b)))
    | .quo=>if b=0 then none else some (.i k (k.wrap (a.tdiv b)))
    | .rem=>if b=0 then none else some (.i k (a.tmod b))
    | .eql=>some (.b (a==b))
    | .neq=>some (.b (a != b))
    | .lss=>some (.b (decide (a<b)))
    | .leq=>some (.b (decide (a≤b)))
    | .gtr=>some (.b (decide (a>b)))
    | .geq=>some (.b (decide (a≥b)))
    |op=>some (.i k (qN op k a b))
   else none
 | .s a, .s b=>
  match op with
  | .add=>if a.length+b.length≤2*Be then some (.s (a++b))else none
  | .eql=>some (.b (a==b))
  | .neq=>some (.b (!(a==b)))
  | .lss=>some (.b (Op.bytesLess a b))
  | .leq=>some (.b (Op.bytesLess a b||a==b))
  | .gtr=>some (.b (!(Op.bytesLess a b||a==b)))
  | .geq=>some (.b (!(Op.bytesLess a b)))
  |_=>none
 |_,_=>none
def un(op:UnOp):AV→Option AV
 | .i k a=>match op with
  | .neg=>some (.i k (k.wrap (0-a)))
  | .xor=>some (.i k (qN .xor k (if k.signed then-1 else k.max) a))
  |_=>none
 | .b x=>match op with
  | .not=>some (.b (!x))
  |_=>none
 |_=>none
def HQ:AV→Option Int
 | .i _ n=>some n
 |_=>none
def JS(x:AV)(to:Nat):Option Nat:=
 (HQ x).bind fun n=>if 0≤n∧n≤to then some n.toNat else none
def Hn(f:AO→AV)(len:Nat)(lo hi:Option AO):Option (Nat×Nat):=
 (match hi with
  |none=>some len
  |some x=>JS (f x) len).bind fun h=>
 (match lo with
  |none=>some 0
  |some x=>JS (f x) h).bind fun l=>some (l,h)
def Mf(cells:List AV)(rho:AO→AV):List (Nat×Nat×AO)→Option (List AV)
 |[]=>some cells
 |(off,n,x)::r=>
  if(cellsOf (rho x)).length=n∧off+n≤cells.length then Mf (Bw cells off (cellsOf (rho x))) rho r else none
def Mg(els:List (List AV))(sz:Nat)(rho:AO→AV):List (Nat×AO)→Option (List (List AV))
 |[]=>some els
 |(i,x)::r=>
  if(cellsOf (rho x)).length=sz∧i<els.length then Mg (els.set i (cellsOf (rho x))) sz rho r else none
def find(ek:EK)(k:AV):List (AV×AV)→Nat→Option (Option (Nat×AV))
 |[],_=>some none
 |(x,v)::r,i=>(X8 ek k x).bind fun e=>if e then some (some (i,v))else find ek k r (i+1)
def Mc:EK→AV→Bool
 | .one _,_=>true
 | .agg l, .agg cs=>Nat.beq cs.length l.length
 |_,_=>false
def Lf(h:Av):AV→Option (List (AV×AV))
 | .nilm=>some []
 | .mp id=>Mb h id
 |_=>none
def UD(h:Av)(sz:Nat)(v:AV)(n:Nat):Option AV:=
 (Eu h sz v).bind fun els=>
  if n<els.length then
   match v with
   | .orow id k lo _=>some (.pe id k (lo+n) 0)
   | .ocel _ id off _=>some (.ptr id (off+n*sz))
   |_=>(els[n]?).map fun cs=> .ip cs 0
  else none
def resl(h:Av)(sz:Nat)(v:AV)(a b:Nat):Option AV:=
 match v with
 | .nils=>some .nils
 | .sl sz' els=>if sz'=sz then some (.sl sz ((els.take b).drop a))else none
 | .orow id n l len=>(rowAt h id).bind fun r=>if n=r.2.2.length∧r.2.1=sz∧l+len≤n then some (.orow id n (l+a) (b-a))else none
 | .ocel sz' id off _=>if sz'=sz then some (.ocel sz id (off+a*sz) (b-a))else none
 |_=>none
def qP(h:Av)(n sz:Nat)(v:AV)(a b:Nat):Option AV:=
 match v with
 | .ptr id off=>(BX h id).bind fun cs=>if off+n*sz≤cs.length then some (.ocel sz id (off+a*sz) (b-a))else none
 | .ip cs off=>if off+n*sz≤cs.length then some (.sl sz (((BP sz n (cs.drop off)).take b).drop a))else none
 |_=>none
def qQ(n sz:Nat)(v:AV):Option AV:=
 match v with
 | .ocel sz' id off len=>if sz'=sz∧n≤len then some (.ptr id off)else none
 | .sl sz' els=>if sz'=sz∧n≤els.length then some (.ip (els.take n).flatten 0)else none
 | .orow id k lo len=>if n≤len∧0<n then some (.pe id k lo 0)else none
 |_=>none
def gR(h:Av)(sz:Nat)(v:AV):Option (List (List AV)):=
 match v with
 | .s l=>if sz=1 then some (Bu l)else none
 |v=>Eu h sz v
def Ur(h:Av)(t sz bytes:Nat)(v:AV)(new:List (List AV)):Option (AV×Option Av):=
 match v with
 | .nils=>
  if new.length=0 then some (.nils,none)
  else if new.length*bytes≤Be then some (.orow h.length new.length 0 new.length,some (h++[BF.row (some t) false sz new]))else none
 | .orow id n lo len=>(rowAt h id).bind fun r=>
  if lo=0∧n=r.2.2.length∧len=n∧r.2.1=sz∧(n+new.length)*bytes≤Be∧r.1=false then
   if new.length=0 then some (.orow id n 0 n,none)
   else some (.orow id (n+new.length) 0 (n+new.length),some (h.set id (BF.row (UB (Ek h id) t) r.1 sz (r.2.2++new))))
  else none
 |_=>none
def eD(h:Av)(sz:Nat)(v:AV)(src:List (List AV)):Option (AV×Option Av):=
 match v with
 | .nils=>some (.i .i64 0,none)
 | .orow id n lo len=>(rowAt h id).bind fun r=>
  if r.1=false∧n=r.2.2.length∧r.2.1=sz∧lo+len≤n then
   some (.i .i64 (min src.length len:Nat),some (h.set id (BF.row (Ek h id) false sz (r.2.2.take lo++src.take (min src.length len)++r.2.2.drop (lo+min src.length len)))))
  else none
 | .ocel sz' id off len=>(BX h id).bind fun cs=>
  if sz'=sz∧off+len*sz≤cs.length then
   some (.i .i64 (min src.length len:Nat),some (h.set id (BF.cells (Ek h id) (cs.take off++(src.take (min src.length len)).flatten++cs.drop (off+min src.length len*sz)))))
  else none
 |_=>none
abbrev KB:=Option (AV×Option Av)
def val(v:Option AV):KB:=v.map fun v=>(v,none)
def B1(tb:CW)(cl:Nat→List AV→Av→KB)(h:Av)(f:Nat)(args:List AV):KB:=
 match tb.prim f with
 |some p=>p args h
 |none=>cl f args h
def Bp(tb:CW)(cl:Nat→List AV→Av→KB)(rho:AO→AV)(h:Av):HN→KB
 | .mv x=>some (rho x,none)
 | .pick c a b=>match rho c with
  | .b t=>some (if t then rho a else rho b,none)
  |_=>none
 | .alloc t zero=>some (.ptr h.length 0,some (h++[BF.cells (some t) zero]))
 | .box t n x=>if(cellsOf (rho x)).length=n then some (.ptr h.length 0,some (h++[BF.cells (some t) (cellsOf (rho x))]))else none
 | .bld zero parts=>val ((Mf zero rho parts).map .agg)
 | .bls t sz zero parts=>(Mg zero sz rho parts).map fun els=>(.orow h.length els.length 0 els.length,some (h++[BF.row (some t) false sz els]))
 | .bll sz zero parts=>val ((Mg zero sz rho parts).map (.sl sz))
 | .ld agg n a=>val (load h agg n (rho a))
 | .st n a x=>(store h n (rho a) (rho x)).map fun h=>(.junk,some h)
 | .nilc x=>match rho x with
  | .ptr a b=>some (.ptr a b,none)
  | .pe a b c d=>some (.pe a b c d,none)
  | .ip a b=>some (.ip a b,none)
  | .fn (.func f) a b=>some (.fn (.func f) a b,none)
  |_=>none
 | .bin op x y=>val (bin op (rho x) (rho y))
 | .eq neg ek x y=>val ((X8 ek (rho x) (rho y)).map fun e=> .b (if neg then !e else e))
 | .un op x=>val (un op (rho x))
 | .cvi k x=>match rho x with
  | .i _ n=>some (.i k (k.wrap n),none)
  |_=>none
 | .cvid x=>match rho x with
  | .s l=>some (.s l,none)
  |_=>none
 | .cvb t x=>match rho x with
  | .s l=>some (.orow h.length l.length 0 l.length,some (h++[BF.row (some t) false 1 (Bu l)]))
  |_=>none
 | .cvr x=>match rho x with
  | .orow id n lo len=>(rowAt h id).bind fun r=>if r.1=false∧n=r.2.2.length∧lo+len≤n then some (.orow id n lo len,none)else none
  |_=>none
 | .cvs x=>val (((Eu h 1 (rho x)).bind Ev).map .s)
 | .cvc x=>match rho x with
  | .i _ n=>some (.s (Utf8.encode n).data.toList,none)
  |_=>none
 | .mkf fn a b=>some (.fn fn (a.map rho) (b.map rho),none)
 | .mkm=>some (.mp h.length,some (h++[BF.map []]))
 | .mks t sz bytes zero len cap=>
  (HQ (rho len)).bind fun l=>(HQ (rho cap)).bind fun c=>
   if 0≤l∧l≤c∧c*bytes≤Be then
    some (.orow h.length l.toNat 0 l.toNat,some (h++[BF.row (some t) false sz (List.replicate l.toNat zero)]))
   else none
 | .sls x lo hi=>match rho x with
  | .s l=>(Hn rho l.length lo hi).map fun p=>(.s ((l.take p.2).drop p.1),none)
  |_=>none
 | .sll sz x lo hi=>(P7 (rho x)).bind fun len=>(Hn rho len lo hi).bind fun p=>val (resl h sz (rho x) p.1 p.2)
 | .sla n sz x lo hi=>(Hn rho n lo hi).bind fun p=>val (qP h n sz (rho x) p.1 p.2)
 | .fa off x=>val (shift off (rho x))
 | .fld agg off n x=>match rho x with
  | .agg cs=>if off+n≤cs.length then val (Ho agg (sub cs off n))else none
  |_=>none
 | .ias sz x i=>(HQ (rho i)).bind fun n=>if 0≤n then val (UD h sz (rho x) n.toNat)else none
 | .iaa len sz x i=>
  (HQ (rho i)).bind fun n=>if 0≤n∧n<len then val (shift (n.toNat*sz) (rho x))else none
 | .ixa len sz agg x i=>
  (HQ (rho i)).bind fun n=>match rho x with
   | .agg cs=>if 0≤n∧n<len∧len*sz≤cs.length then val (Ho agg (sub cs (n.toNat*sz) sz))else none
   |_=>none
 | .ixs x i=>
  (HQ (rho i)).bind fun n=>match rho x with
   | .s l=>if 0≤n then(l[n.toNat]?).map fun c=>(.i .u8 c.toNat,none)else none
   |_=>none
 | .lkp ek zero ok m k=>
  if Mc ek (rho k)then(Lf h (rho m)).bind fun es=>(find ek (rho k) es 0).map fun r=>match r with
    |some (_,v)=>(if ok then .tup [v, .b true]else v,none)
    |none=>(if ok then .tup [zero, .b false]else zero,none)
  else none
 | .mup ek m k v=>match rho m with
  | .mp id=>if Mc ek (rho k)then(Mb h id).bind fun es=>(find ek (rho k) es 0).map fun r=>match r with
    |some (i,_)=>(.junk,some (h.set id (BF.map (es.set i (rho k,rho v)))))
    |none=>(.junk,some (h.set id (BF.map (es++[(rho k,rho v)]))))
   else none
  |_=>none
 | .rng x=>match rho x with
  | .s l=>some (.ptr h.length 0,some (h++[BF.iter l 0]))
  |_=>none
 | .nxt x=>match rho x with
  | .ptr id off=>(Xl h id).bind fun it=>
   if off=0 then
    if it.2<it.1.length then
     some (.tup [.b true, .i .i64 it.2, .i .i32 (Utf8.decode ⟨it.1.toArray⟩ it.2).1],some (h.set id (BF.iter it.1 (it.2+(Utf8.decode ⟨it.1.toArray⟩ it.2).2))))
    else some (.tup [.b false],none)
   else none
  |_=>none
 | .ext x i=>match rho x with
  | .tup vs=>val (vs[i]?)
  |_=>none
 | .s2a n sz x=>val (qQ n sz (rho x))
 | .mkif _ _=>some (.ifc 0 .junk,none)
 | .call f xs=>B1 tb cl h f (xs.map rho)
 | .callv x xs=>match rho x with
  | .fn (.func f) first captured=>B1 tb cl h f (first++xs.map rho++captured)
  |_=>none
 | .len x=>(P7 (rho x)).map fun(n:Nat)=>(.i .i64 (n:Int),none)
 | .lens x=>match rho x with
  | .s l=>some (.i .i64 (l.length:Nat),none)
  |_=>none
 | .app t sz bytes s x=>(gR h sz (rho x)).bind fun new=>Ur h t sz bytes (rho s) new
 | .cpy sz d s=>(gR h sz (rho s)).bind fun src=>eD h sz (rho d) src
 | .mnx max x y=>match rho x,rho y with
  | .i k a, .i k' b=>if k=k' then some (.i k (if max then(if b>a then b else a)else(if b<a then b else a)),none)else none
  |_,_=>none
 | .clr zero x=>match rho x with
  | .nils=>some (.tup [],none)
  | .orow id n lo len=>(rowAt h id).bind fun r=>
   if r.1=false∧n=r.2.2.length∧lo+len≤n∧zero.length=r.2.1 then
    some (.tup [],some (h.set id (BF.row (Ek h id) false r.2.1 (r.2.2.take lo++List.replicate len zero++r.2.2.drop (lo+len)))))
   else none
  | .mp id=>(Mb h id).map fun _=>(.tup [],some (h.set id (BF.map [])))
  |_=>none
 | .del ek m k=>match rho m with
  | .nilm=>if Mc ek (rho k)then some (.tup [],none)else none
  | .mp id=>if Mc ek (rho k)then(Mb h id).bind fun es=>(find ek (rho k) es 0).map fun r=>match r with
    |some (i,_)=>(.tup [],some (h.set id (BF.map (es.eraseIdx i))))
    |none=>(.tup [],none)
   else none
  |_=>none
 | .lenm m=>(Lf h (rho m)).map fun es=>(.i .i64 es.length,none)
 | .cvp x=>match rho x with
  | .nilp=>some (.nilp,none)
  | .ptr id off=>(BX h id).bind fun cs=>if off<cs.length then some (.ptr id off,none)else none
  |_=>none
 | .cvu t n x=>match rho x with
  | .nilp=>some (.nilp,none)
  | .ptr id off=>(BX h id).bind fun cs=>if off=0∧cs.length=n∧Ek h id=some t then some (.ptr id 0,none)else none
  |_=>none
 | .capn x=>match rho x with
  | .nils=>some (.i .i64 0,none)
  |_=>none
 | .isni neg x=>match rho x with
  | .nili=>some (.b (!neg),none)
  | .ifc _ _=>some (.b neg,none)
  |_=>none
 | .eqp neg x y=>match rho x,rho y with
  | .ptr a o, .ptr b o'=>if a=b∧o=o' then some (.b (!neg),none)else none
  |_,_=>none
 | .usd x=>match rho x with
  | .nils=>some (.nilp,none)
  | .orow id n lo len=>(rowAt h id).bind fun r=>if n=r.2.2.length∧lo+len≤n∧0<len then some (.pe id n lo 0,none)else none
  |_=>none
 | .ust t x n=>(HQ (rho n)).bind fun k=>match rho x with
  | .nilp=>if k=0 then some (.s [],none)else none
  | .pe id n i off=>(rowAt h id).bind fun r=>
   if off=0∧0<k∧n=r.2.2.length∧i+k.toNat≤n∧r.2.1=1∧Ek h id=some t∧k≤Be then
    (Ev ((r.2.2.drop i).take k.toNat)).map fun l=>(.s l,some (h.set id (BF.row (Ek h id) true 1 r.2.2)))
   else none
  |_=>none
 | .die=>none
def eval(tb:CW)(f:Fr):AO→AV
 | .t n=>get f n
 | .k v=>v
 | .f n=> .fn (.func n) [] []
 | .g n=>match tb.gl n with
  |some cs=> .ip cs 0
  |none=> .junk
def wanted(f:Fr)(g:Option (Nat×Bool)):Option Bool:=
 match g with
 |none=>some true
 |some (t,w)=>match get f t with
  | .b x=>some (x==w)
  | .tup []=>some false
  |_=>none
def ops(tb:CW)(cl:Nat→List AV→Av→KB):List AT→Fr→Av→Option (Fr×Av)
 |[],f,h=>some (f,h)
 |o::r,f,h=>
  (wanted f o.g).bind fun w=>
   if w then(Bp tb cl (eval tb f) h o.o).bind fun p=>ops tb cl r (put f o.d p.1) (p.2.getD h)
   else ops tb cl r (put f o.d (.tup [])) h
def HP(tb:CW)(cl:Nat→List AV→Av→KB):List AT→List (Option (Nat×Nat))→Fr→Av→Option (List Av)
 |[],_,_,h=>some [h]
 |o::r,w,f,h=>
  (wanted f o.g).bind fun t=>
   if t then(Bp tb cl (eval tb f) h o.o).bind fun p=>
    (HP tb cl r w.tail (put f o.d p.1) (p.2.getD h)).map fun l=>
     match w.head? with
     |some none=>h::l
     |_=>l
   else(HP tb cl r w.tail (put f o.d (.tup [])) h).map fun l=>
    match w.head? with
    |some none=>h::l
    |_=>l
open Classical in
noncomputable def Ia(tb:CW)(cl:Nat→List AV→Av→KB)(h:Av):List AT→Fr→Option Fr
 |[],f=>some f
 |o::r,f=>
  (wanted f o.g).bind fun w=>
   if w then(Bp tb cl (eval tb f) h o.o).bind fun p=>if p.2.getD h=h then Ia tb cl h r (put f o.d p.1)else none
   else Ia tb cl h r (put f o.d (.tup []))
open Classical in
noncomputable def J4(tb:CW)(cl:Nat→List AV→Av→KB)(hs:List Av):List AT→List (Option (Nat×Nat))→Nat→Fr→Option Fr
 |[],_,k,f=>if k+1=hs.length then some f else none
 |o::r,w,k,f=>
  (wanted f o.g).bind fun t=>
   if t then(hs[k]?).bind fun h=>(Bp tb cl (eval tb f) h o.o).bind fun p=>
    match w with
    |none::w=>if some (p.2.getD h)=hs[k+1]? then J4 tb cl hs r w (k+1) (put f o.d p.1)else none
    |some (lo,hi)::w=>
     if(List.range' lo (hi+1-lo)).all (fun j=>decide (∃u,(hs[j]?).bind (fun h=>Bp tb cl (eval tb f) h o.o)=some (p.1,u)∧some (u.getD (hs[j]?.getD []))=hs[j]?))then
      J4 tb cl hs r w k (put f o.d p.1)
     else none
    |[]=>none
   else match w with
    |none::w=>if hs[k]? =hs[k+1]? then J4 tb cl hs r w (k+1) (put f o.d (.tup []))else none
    |some _::w=>J4 tb cl hs r w k (put f o.d (.tup []))
    |[]=>none
def keepL(AZ:List Nat)(f:Fr):Fr:=AZ.map fun t=>(t,get f t)
def Vo(F:Fr→Av→Option (Ex×Fr×Av)):Nat→Fr→Av→Option (Ex×Fr×Av)
 |0,_,_=>none
 |n+1,f,h=>match F f h with
  |some (.normal,f',h')=>Vo F n f' h'
  |r=>r
open Classical in
noncomputable def lp(F:Fr→Av→Option (Ex×Fr×Av))(f:Fr)(h:Av):Option (Ex×Fr×Av):=
 if x: ∃n,(Vo F n f h).isSome=true then Vo F (Classical.choose x) f h else none
def KS(AZ:List Nat)(F:Fr→Av→Option (Ex×Fr×Av))(f:Fr)(h:Av):Option (Ex×Fr×Av):=
 (F (keepL AZ f) h).map fun
  |(.normal,f',h')=>(.normal,keepL AZ f',h')
  |r=>r
noncomputable def AW(tb:CW)(cl:Nat→List AV→Av→KB):AC→Fr→Av→Option (Ex×Fr×Av)
 | .skip,f,h=>some (.normal,f,h)
 | .reg l,f,h=>(ops tb cl l f h).map fun p=>(.normal,p.1,p.2)
 | .regq l,f,h=>(Ia tb cl h l f).map fun f=>(.normal,f,h)
 | .regd l w,f,h=>(HP tb cl l w f h).bind fun hs=>(J4 tb cl (h::hs.tail) l w 0 f).bind fun f=>((h::hs.tail).getLast?).map fun h=>(.normal,f,h)
 | .seq x y,f,h=>(AW tb cl x f h).bind fun
  |(.normal,f,h)=>AW tb cl y f h
  |r=>some r
 | .cond c x y,f,h=>match eval tb f c with
  | .b t=>if t then AW tb cl x f h else AW tb cl y f h
  |_=>none
 | .blk id x,f,h=>(AW tb cl x f h).map fun
  |(.exit id',f,h)=>if id'=id then(.normal,f,h)else(.exit id',f,h)
  |r=>r
 | .loop AZ x,f,h=>lp (KS AZ (AW tb cl x)) f h
 | .exit id,f,h=>some (.exit id,f,h)
 | .ret,f,h=>some (.ret,f,h)
 | .keep AZ x,f,h=>(AW tb cl x f h).map fun
  |(.normal,f,h)=>(.normal,keepL AZ f,h)
  |r=>r
 | .scope x,f,h=>AW tb cl x f h
 | .stop,_,_=>none
def results(f:Fr)(h:Av):List KR→Option (List AV)
 |[]=>some []
 | .tmp t::r=>(results f h r).map (get f t:: ·)
 | .cell agg n t::r=>(load h agg n (get f t)).bind fun v=>(results f h r).map (v:: ·)
def Gp:List AV→AV
 |[v]=>v
 |vs=> .tup vs
def D4{α:Type}(F:α→Option α):List α→Option (List α)
 |[]=>some []
 |x::r=>(F x).bind fun x=>(D4 F r).map (x:: ·)
def frz(h:Av)(n:Nat):Nat→AV→Option AV
 |0,v=>if B7 v≤n then some v else none
 |d+1,v=>if B7 v≤n then some v else match v with
  | .orow id k lo len=>(rowAt h id).bind fun r=>
   if k=r.2.2.length∧lo+len≤k then(D4 (D4 (frz h n d)) ((r.2.2.drop lo).take len)).map (.sl r.2.1)else none
  | .ocel sz id off len=>(BX h id).bind fun cs=>
   if off+len*sz≤cs.length then(D4 (D4 (frz h n d)) (BP sz len (cs.drop off))).map (.sl sz)else none
  | .sl sz els=>(D4 (D4 (frz h n d)) els).map (.sl sz)
  | .agg cs=>(D4 (frz h n d) cs).map .agg
  | .tup cs=>(D4 (frz h n d) cs).map .tup
  |_=>none
def dJ(h:Av)(n:Nat)(l:List AV):Option (List AV):=D4 (frz h n 12) l
def WY(n:Nat)(h:Av)(vs:List AV):AV×Option Av:=
 match dJ h n vs with
 |some vs'=>if CB (h.take n)≤n then(Gp vs',some (h.take n))else(Gp vs,some h)
 |none=>(Gp vs,some h)
def WM(warm:Bool)(n:Nat)(h:Av)(vs:List AV):AV×Option Av:=
 match warm with
 |true=>(Gp vs,some h)
 |false=>WY n h vs
noncomputable def body(tb:CW)(cl:Nat→List AV→Av→KB)(fn:CI)(args:List AV)(h:Av):KB:=
 if args.length=fn.np then
  (AW tb cl fn.body (args.zipIdx.map fun p=>(p.2,p.1)) h).bind fun
   |(.exit _,_,_)=>none
   |(_,f,h')=>(results f h' fn.res).map fun vs=>WM fn.warm h.length h' vs
 else none
noncomputable def run(tb:CW):Nat→Nat→List AV→Av→KB
 |0,_,_,_=>none
 |n+1,f,args,h=>(tb.fns f).bind fun fn=>body tb (run tb n) fn args h
open Classical in
noncomputable def Ch(tb:CW)(f:Nat)(args:List AV)(h:Av):KB:=
 if x: ∃n,(run tb n f args h).isSome=true then run tb (Classical.choose x) f args h else none
end Go.Proofs.YtobejhpigbllpaaGreatDoor.Am
namespace Go.Proofs.YtobejhpigbllpaaGreatDoor.Am
theorem gW(F:Fr→Av→Option (Ex×Fr×Av)): ∀(n:Nat) (f:Fr) (h:Av) (r:Ex×Fr×Av),Vo F n f h=some r→ ∀m,n≤m→Vo F m f h=some r:=by
 intro n
 induction n with
 |zero=>intro f h r e;simp[Vo]at e
 |succ n ih=>
  intro f h r e m hm
  obtain⟨m,rfl⟩: ∃k,m=k+1:=⟨m-1,by omega⟩
  simp only[Vo]at e ⊢
  split at e
  ·exact ih _ _ _ e m (by omega)
  ·exact e
theorem xS(F:Fr→Av→Option (Ex×Fr×Av)){n:Nat}{f:Fr}{h:Av}{r:Ex×Fr×Av}(e:Vo F n f h=some r):lp F f h=some r:=by
 unfold lp
 have x: ∃n,(Vo F n f h).isSome=true:=⟨n,by rw[e];rfl⟩
 rw[dif_pos x]
 have hc:=Classical.choose_spec x
 cases hr:Vo F (Classical.choose x) f h with
 |none=>rw[hr]at hc;simp at hc
 |some r'=>
  have h1:=gW F _ _ _ _ e (max n (Classical.choose x)) (by omega)
  have h2:=gW F _ _ _ _ hr (max n (Classical.choose x)) (by omega)
  rw[h1]at h2
  exact h2.symm
theorem lp_ex{F:Fr→Av→Option (Ex×Fr×Av)}{f:Fr}{h:Av}{r:Ex×Fr×Av}(e:lp F f h=some r): ∃n,Vo F n f h=some r:=by
 unfold lp at e
 split at e
 ·exact⟨_,e⟩
 ·simp at e
def Below(c d:Nat→List AV→Av→KB):Prop:= ∀f a h r,c f a h=some r→d f a h=some r
theorem SY{tb:CW}{c d:Nat→List AV→Av→KB}(b:Below c d){h:Av}{f:Nat}{a:List AV}{r:AV×Option Av}
  (e:B1 tb c h f a=some r):B1 tb d h f a=some r:=by
 unfold B1 at*
 split
 ·rename_i p hp;rw[hp]at e;exact e
 ·rename_i hp;rw[hp]at e;exact b _ _ _ _ e
theorem FY{tb:CW}{c d:Nat→List AV→Av→KB}(b:Below c d){rho:AO→AV}{h:Av}{o:HN}{r:AV×Option Av}
  (e:Bp tb c rho h o=some r):Bp tb d rho h o=some r:=by
 cases o<;>first
  |exact e
  |(simp only[Bp]at e ⊢;exact SY b e)
  |skip
 case callv x xs=>
  simp only[Bp]at e ⊢
  split at e
  ·exact SY b e
  ·simp at e
theorem gN{tb:CW}{c d:Nat→List AV→Av→KB}(b:Below c d): ∀(l:List AT) (f:Fr) (h:Av) (r:Fr×Av),ops tb c l f h=some r→ops tb d l f h=some r:=by
 intro l
 induction l with
 |nil=>intro f h r e;exact e
 |cons o l ih=>
  intro f h r e
  simp only[ops]at e ⊢
  cases hw:wanted f o.g with
  |none=>rw[hw]at e;simp at e
  |some t=>
   rw[hw]at e
   simp only[Option.bind_some]at e ⊢
   cases t with
   |false=>exact ih _ _ _ e
   |true=>
    simp only[if_true]at e ⊢
    cases ha:Bp tb c (eval tb f) h o.o with
    |none=>rw[ha]at e;simp at e
    |some p=>
     rw[ha]at e
     rw[FY b ha]
     exact ih _ _ _ e
theorem Z5{tb:CW}{c d:Nat→List AV→Av→KB}(b:Below c d)(h:Av): ∀(l:List AT) (f:Fr) (r:Fr),Ia tb c h l f=some r→Ia tb d h l f=some r:=by
 intro l
 induction l with
 |nil=>intro f r e;exact e
 |cons o l ih=>
  intro f r e
  simp only[Ia]at e ⊢
  cases hw:wanted f o.g with
  |none=>rw[hw]at e;simp at e
  |some t=>
   rw[hw]at e
   simp only[Option.bind_some]at e ⊢
   cases t with
   |false=>exact ih _ _ e
   |true=>
    simp only[if_true]at e ⊢
    cases ha:Bp tb c (eval tb f) h o.o with
    |none=>rw[ha]at e;simp at e
    |some p=>
     rw[ha]at e
     rw[FY b ha]
     simp only[Option.bind_some]at e ⊢
     split at e
     ·rename_i hq;rw[if_pos hq];exact ih _ _ e
     ·simp at e
theorem R6{tb:CW}{c d:Nat→List AV→Av→KB}(b:Below c d): ∀(l:List AT) (w:List (Option (Nat×Nat))) (f:Fr) (h:Av) (r:List Av),
  HP tb c l w f h=some r→HP tb d l w f h=some r:=by
 intro l
 induction l with
 |nil=>intro w f h r e;exact e
 |cons o l ih=>
  intro w f h r e
  simp only[HP]at e ⊢
  cases hw:wanted f o.g with
  |none=>rw[hw]at e;simp at e
  |some t=>
   rw[hw]at e
   simp only[Option.bind_some]at e ⊢
   cases t with
   |false=>
    simp only[Bool.false_eq_true,if_false]at e ⊢
    cases hh:HP tb c l w.tail (put f o.d (.tup [])) h with
    |none=>rw[hh]at e;simp at e
    |some r'=>rw[hh]at e;rw[ih _ _ _ _ hh];exact e
   |true=>
    simp only[if_true]at e ⊢
    cases ha:Bp tb c (eval tb f) h o.o with
    |none=>rw[ha]at e;simp at e
    |some p=>
     rw[ha]at e
     rw[FY b ha]
     simp only[Option.bind_some]at e ⊢
     cases hh:HP tb c l w.tail (put f o.d p.1) (p.2.getD h)with
     |none=>rw[hh]at e;simp at e
     |some r'=>rw[hh]at e;rw[ih _ _ _ _ hh];exact e
theorem Qg{tb:CW}{c d:Nat→List AV→Av→KB}(b:Below c d)(hs:List Av): ∀(l:List AT) (w:List (Option (Nat×Nat))) (k:Nat) (f:Fr) (r:Fr),
  J4 tb c hs l w k f=some r→J4 tb d hs l w k f=some r:=by
 intro l
 induction l with
 |nil=>intro w k f r e;exact e
 |cons o l ih=>
  intro w k f r e
  simp only[J4]at e ⊢
  cases hw:wanted f o.g with
  |none=>rw[hw]at e;simp at e
  |some t=>
   rw[hw]at e
   simp only[Option.bind_some]at e ⊢
   cases t with
   |false=>
    simp only[Bool.false_eq_true,if_false]at e ⊢
    cases w with
    |nil=>simp at e
    |cons x w=>
     cases x with
     |none=>
      simp only at e ⊢
      split at e
      ·rename_i hq;rw[if_pos hq];exact ih _ _ _ _ e
      ·simp at e
     |some y=>exact ih _ _ _ _ e
   |true=>
    simp only[if_true]at e ⊢
    cases hk:hs[k]? with
    |none=>rw[hk]at e;simp at e
    |some h=>
     rw[hk]at e
     simp only[Option.bind_some]at e ⊢
     cases ha:Bp tb c (eval tb f) h o.o with
     |none=>rw[ha]at e;simp at e
     |some p=>
      rw[ha]at e
      rw[FY b ha]
      simp only[Option.bind_some]at e ⊢
      cases w with
      |nil=>simp at e
      |cons x w=>
       cases x with
       |none=>
        simp only at e ⊢
        split at e
        ·rename_i hq;rw[if_pos hq];exact ih _ _ _ _ e
        ·simp at e
       |some y=>
        obtain⟨lo,hi⟩:=y
        simp only at e ⊢
        split at e
        ·rename_i hq
         rw[if_pos]
         ·exact ih _ _ _ _ e
         ·simp only[List.all_eq_true,decide_eq_true_eq]at hq ⊢
          intro j hj
          obtain⟨u,hu,hu'⟩:=hq j hj
          refine⟨u,?_,hu'⟩
          cases hj':hs[j]? with
          |none=>rw[hj']at hu;simp at hu
          |some h'=>rw[hj']at hu;exact FY b hu
        ·simp at e
theorem xT{F G:Fr→Av→Option (Ex×Fr×Av)}(b: ∀f h r,F f h=some r→G f h=some r): ∀(n:Nat) (f:Fr) (h:Av) (r:Ex×Fr×Av),Vo F n f h=some r→Vo G n f h=some r:=by
 intro n
 induction n with
 |zero=>intro f h r e;simp[Vo]at e
 |succ n ih=>
  intro f h r e
  simp only[Vo]at e ⊢
  cases hF:F f h with
  |none=>rw[hF]at e;simp at e
  |some r'=>
   rw[hF]at e
   rw[b _ _ _ hF]
   obtain⟨x,f',h'⟩:=r'
   cases x with
   |normal=>exact ih _ _ _ e
   |exit id=>exact e
   |ret=>exact e
theorem Ql{tb:CW}{c d:Nat→List AV→Av→KB}(b:Below c d): ∀(x:AC) (f:Fr) (h:Av) (r:Ex×Fr×Av),AW tb c x f h=some r→AW tb d x f h=some r:=by
 intro x
 induction x with
 |skip=>intro f h r e;exact e
 |reg l=>
  intro f h r e
  simp only[AW]at e ⊢
  cases ho:ops tb c l f h with
  |none=>rw[ho]at e;simp at e
  |some p=>rw[ho]at e;rw[gN b _ _ _ _ ho];exact e
 |regq l=>
  intro f h r e
  simp only[AW]at e ⊢
  cases ho:Ia tb c h l f with
  |none=>rw[ho]at e;simp at e
  |some p=>rw[ho]at e;rw[Z5 b h _ _ _ ho];exact e
 |regd l w=>
  intro f h r e
  simp only[AW]at e ⊢
  cases ho:HP tb c l w f h with
  |none=>rw[ho]at e;simp at e
  |some hs=>
   rw[ho]at e
   rw[R6 b _ _ _ _ _ ho]
   simp only[Option.bind_some]at e ⊢
   cases hd:J4 tb c (h::hs.tail) l w 0 f with
   |none=>rw[hd]at e;simp at e
   |some f'=>rw[hd]at e;rw[Qg b _ _ _ _ _ _ hd];exact e
 |seq x y ihx ihy=>
  intro f h r e
  simp only[AW]at e ⊢
  cases hx:AW tb c x f h with
  |none=>rw[hx]at e;simp at e
  |some p=>
   rw[hx]at e
   rw[ihx _ _ _ hx]
   obtain⟨q,f',h'⟩:=p
   cases q with
   |normal=>exact ihy _ _ _ e
   |exit id=>exact e
   |ret=>exact e
 |cond o x y ihx ihy=>
  intro f h r e
  simp only[AW]at e ⊢
  split at e
  ·rename_i t ht
   split at e
   ·rename_i hh;simp only[hh,if_true];exact ihx _ _ _ e
   ·rename_i hh;simp only[hh];exact ihy _ _ _ e
  ·simp at e
 |blk id x ih=>
  intro f h r e
  simp only[AW]at e ⊢
  cases hx:AW tb c x f h with
  |none=>rw[hx]at e;simp at e
  |some p=>rw[hx]at e;rw[ih _ _ _ hx];exact e
 |loop AZ x ih=>
  intro f h r e
  simp only[AW]at e ⊢
  obtain⟨n,hn⟩:=lp_ex e
  refine xS _ (n:=n) (xT ?_ n f h r hn)
  intro f h r e
  simp only[KS]at e ⊢
  cases hx:AW tb c x (keepL AZ f) h with
  |none=>rw[hx]at e;simp at e
  |some p=>rw[hx]at e;rw[ih _ _ _ hx];exact e
 |exit id=>intro f h r e;exact e
 |ret=>intro f h r e;exact e
 |scope x ih=>intro f h r e;exact ih f h r e
 |stop=>intro f h r e;simp[AW]at e
 |keep AZ x ih=>
  intro f h r e
  simp only[AW]at e ⊢
  cases hx:AW tb c x f h with
  |none=>rw[hx]at e;simp at e
  |some p=>rw[hx]at e;rw[ih _ _ _ hx];exact e
theorem ZX{tb:CW}{c d:Nat→List AV→Av→KB}(b:Below c d){fn:CI}{a:List AV}{h:Av}{r:AV×Option Av}
  (e:body tb c fn a h=some r):body tb d fn a h=some r:=by
 simp only[body]at e ⊢
 split at e
 ·rename_i hn
  rw[if_pos hn]
  cases hx:AW tb c fn.body (a.zipIdx.map fun p=>(p.2,p.1)) h with
  |none=>rw[hx]at e;simp at e
  |some p=>rw[hx]at e;rw[Ql b _ _ _ _ hx];exact e
 ·simp at e
theorem vD(tb:CW): ∀n,Below (run tb n) (run tb (n+1)):=by
 intro n
 induction n with
 |zero=>intro f a h r e;simp[run]at e
 |succ n ih=>
  intro f a h r e
  rw[run]at e ⊢
  cases hf:tb.fns f with
  |none=>rw[hf]at e;simp at e
  |some fn=>rw[hf]at e;exact ZX ih e
theorem Du(tb:CW){n m:Nat}(h:n≤m):Below (run tb n) (run tb m):=by
 induction m with
 |zero=>obtain rfl:n=0:=(by omega);exact fun _ _ _ _ e=>e
 |succ m ih=>
  by_cases hn:n=m+1
  ·subst hn;exact fun _ _ _ _ e=>e
  ·exact fun f a x r e=>vD tb m _ _ _ _ (ih (by omega) f a x r e)
theorem zI{tb:CW}{n f:Nat}{a:List AV}{h:Av}{r:AV×Option Av}(e:run tb n f a h=some r):Ch tb f a h=some r:=by
 unfold Ch
 have x: ∃n,(run tb n f a h).isSome=true:=⟨n,by rw[e];rfl⟩
 rw[dif_pos x]
 have hc:=Classical.choose_spec x
 cases hr:run tb (Classical.choose x) f a h with
 |none=>rw[hr]at hc;simp at hc
 |some r'=>
  have h1:=Du tb (Nat.le_max_left n (Classical.choose x)) _ _ _ _ e
  have h2:=Du tb (Nat.le_max_right n (Classical.choose x)) _ _ _ _ hr
  rw[h1]at h2
  exact h2.symm
theorem nZ{tb:CW}{f:Nat}{a:List AV}{h:Av}{r:AV×Option Av}(e:Ch tb f a h=some r): ∃n,run tb n f a h=some r:=by
 unfold Ch at e
 split at e
 ·exact⟨_,e⟩
 ·simp at e
theorem rJ(tb:CW)(n:Nat):Below (run tb n) (Ch tb):=fun _ _ _ _ e=>zI e
theorem Ti{tb:CW}{rho:AO→AV}{h:Av}{o:HN}{r:AV×Option Av}(e:Bp tb (Ch tb) rho h o=some r): ∃n,Bp tb (run tb n) rho h o=some r:=by
 have hc: ∀f a,B1 tb (Ch tb) h f a=some r→ ∃n,B1 tb (run tb n) h f a=some r:=by
  intro f a e
  unfold B1 at*
  cases hp:tb.prim f with
  |some p=>rw[hp]at e;exact⟨0,e⟩
  |none=>rw[hp]at e;exact nZ e
 cases o<;>first
  |exact⟨0,e⟩
  |(simp only[Bp]at e ⊢;exact hc _ _ e)
  |skip
 case callv x xs=>
  simp only[Bp]at e ⊢
  split at e
  ·exact hc _ _ e
  ·simp at e
theorem ops_den{tb:CW}: ∀(l:List AT) (f:Fr) (h:Av) (r:Fr×Av),ops tb (Ch tb) l f h=some r→ ∃n,ops tb (run tb n) l f h=some r:=by
 intro l
 induction l with
 |nil=>intro f h r e;exact⟨0,e⟩
 |cons o l ih=>
  intro f h r e
  simp only[ops]at e ⊢
  cases hw:wanted f o.g with
  |none=>rw[hw]at e;simp at e
  |some t=>
   rw[hw]at e
   simp only[Option.bind_some]at e ⊢
   cases t with
   |false=>exact ih _ _ _ e
   |true=>
    simp only[if_true]at e ⊢
    cases ha:Bp tb (Ch tb) (eval tb f) h o.o with
    |none=>rw[ha]at e;simp at e
    |some p=>
     rw[ha]at e
     obtain⟨n,hn⟩:=Ti ha
     obtain⟨m,hm⟩:=ih _ _ _ e
     refine⟨max n m,?_⟩
     rw[FY (Du tb (Nat.le_max_left n m)) hn]
     exact gN (Du tb (Nat.le_max_right n m)) _ _ _ _ hm
theorem vZ{tb:CW}(h:Av): ∀(l:List AT) (f:Fr) (r:Fr),Ia tb (Ch tb) h l f=some r→ ∃n,Ia tb (run tb n) h l f=some r:=by
 intro l
 induction l with
 |nil=>intro f r e;exact⟨0,e⟩
 |cons o l ih=>
  intro f r e
  simp only[Ia]at e ⊢
  cases hw:wanted f o.g with
  |none=>rw[hw]at e;simp at e
  |some t=>
   rw[hw]at e
   simp only[Option.bind_some]at e ⊢
   cases t with
   |false=>exact ih _ _ e
   |true=>
    simp only[if_true]at e ⊢
    cases ha:Bp tb (Ch tb) (eval tb f) h o.o with
    |none=>rw[ha]at e;simp at e
    |some p=>
     rw[ha]at e
     obtain⟨n,hn⟩:=Ti ha
     simp only[Option.bind_some]at e
     split at e
     ·rename_i hq
      obtain⟨m,hm⟩:=ih _ _ e
      refine⟨max n m,?_⟩
      rw[FY (Du tb (Nat.le_max_left n m)) hn]
      simp only[Option.bind_some]
      rw[if_pos hq]
      exact Z5 (Du tb (Nat.le_max_right n m)) h _ _ _ hm
     ·simp at e
theorem tA{tb:CW}: ∀(l:List AT) (w:List (Option (Nat×Nat))) (f:Fr) (h:Av) (r:List Av),HP tb (Ch tb) l w f h=some r→ ∃n,HP tb (run tb n) l w f h=some r:=by
 intro l
 induction l with
 |nil=>intro w f h r e;exact⟨0,e⟩
 |cons o l ih=>
  intro w f h r e
  simp only[HP]at e ⊢
  cases hw:wanted f o.g with
  |none=>rw[hw]at e;simp at e
  |some t=>
   rw[hw]at e
   simp only[Option.bind_some]at e ⊢
   cases t with
   |false=>
    simp only[Bool.false_eq_true,if_false]at e ⊢
    cases hh:HP tb (Ch tb) l w.tail (put f o.d (.tup [])) h with
    |none=>rw[hh]at e;simp at e
    |some r'=>
     rw[hh]at e
     obtain⟨n,hn⟩:=ih _ _ _ _ hh
     exact⟨n,by rw[hn];exact e⟩
   |true=>
    simp only[if_true]at e ⊢
    cases ha:Bp tb (Ch tb) (eval tb f) h o.o with
    |none=>rw[ha]at e;simp at e
    |some p=>
     rw[ha]at e
     obtain⟨n,hn⟩:=Ti ha
     simp only[Option.bind_some]at e
     cases hh:HP tb (Ch tb) l w.tail (put f o.d p.1) (p.2.getD h)with
     |none=>rw[hh]at e;simp at e
     |some r'=>
      rw[hh]at e
      obtain⟨m,hm⟩:=ih _ _ _ _ hh
      refine⟨max n m,?_⟩
      rw[FY (Du tb (Nat.le_max_left n m)) hn]
      simp only[Option.bind_some]
      rw[R6 (Du tb (Nat.le_max_right n m)) _ _ _ _ _ hm]
      exact e
theorem all_den{tb:CW}{f:Fr}{o:HN}{v:AV}(hs:List Av): ∀(l:List Nat),
  (∀j∈l,∃u,(hs[j]?).bind (fun h=>Bp tb (Ch tb) (eval tb f) h o)=some (v,u)∧some (u.getD (hs[j]?.getD []))=hs[j]?)→
  ∃n,∀j∈l,∃u,(hs[j]?).bind (fun h=>Bp tb (run tb n) (eval tb f) h o)=some (v,u)∧some (u.getD (hs[j]?.getD []))=hs[j]? :=by
 intro l
 induction l with
 |nil=>intro _;exact⟨0,fun j hj=>by cases hj⟩
 |cons j l ih=>
  intro H
  obtain⟨n,hn⟩:=ih fun j hj=>H j (List.mem_cons_of_mem _ hj)
  obtain⟨u,hu,hu'⟩:=H j List.mem_cons_self
  cases hj:hs[j]? with
  |none=>rw[hj]at hu;simp at hu
  |some h=>
   rw[hj]at hu
   obtain⟨m,hm⟩:=Ti hu
   refine⟨max n m,?_⟩
   intro i hi
   rcases List.mem_cons.1 hi with e|hi
   ·subst e
    refine⟨u,?_,hu'⟩
    rw[hj]
    exact FY (Du tb (Nat.le_max_right n m)) hm
   ·obtain⟨u',h1,h2⟩:=hn i hi
    refine⟨u',?_,h2⟩
    cases hi':hs[i]? with
    |none=>rw[hi']at h1;simp at h1
    |some h'=>rw[hi']at h1;exact FY (Du tb (Nat.le_max_left n m)) h1
theorem wA{tb:CW}(hs:List Av): ∀(l:List AT) (w:List (Option (Nat×Nat))) (k:Nat) (f:Fr) (r:Fr),J4 tb (Ch tb) hs l w k f=some r→ ∃n,J4 tb (run tb n) hs l w k f=some r:=by
 intro l
 induction l with
 |nil=>intro w k f r e;exact⟨0,e⟩
 |cons o l ih=>
  intro w k f r e
  simp only[J4]at e ⊢
  cases hw:wanted f o.g with
  |none=>rw[hw]at e;simp at e
  |some t=>
   rw[hw]at e
   simp only[Option.bind_some]at e ⊢
   cases t with
   |false=>
    simp only[Bool.false_eq_true,if_false]at e ⊢
    cases w with
    |nil=>simp at e
    |cons x w=>
     cases x with
     |none=>
      simp only at e ⊢
      split at e
      ·rename_i hq;simp only[if_pos hq];exact ih _ _ _ _ e
      ·simp at e
     |some y=>exact ih _ _ _ _ e
   |true=>
    simp only[if_true]at e ⊢
    cases hk:hs[k]? with
    |none=>rw[hk]at e;simp at e
    |some h=>
     rw[hk]at e
     simp only[Option.bind_some]at e ⊢
     cases ha:Bp tb (Ch tb) (eval tb f) h o.o with
     |none=>rw[ha]at e;simp at e
     |some p=>
      rw[ha]at e
      obtain⟨n,hn⟩:=Ti ha
      simp only[Option.bind_some]at e ⊢
      cases w with
      |nil=>simp at e
      |cons x w=>
       cases x with
       |none=>
        simp only at e ⊢
        split at e
        ·rename_i hq
         obtain⟨m,hm⟩:=ih _ _ _ _ e
         refine⟨max n m,?_⟩
         rw[FY (Du tb (Nat.le_max_left n m)) hn]
         simp only[Option.bind_some]
         rw[if_pos hq]
         exact Qg (Du tb (Nat.le_max_right n m)) hs _ _ _ _ _ hm
        ·simp at e
       |some y=>
        obtain⟨lo,hi⟩:=y
        simp only at e ⊢
        split at e
        ·rename_i hq
         obtain⟨m,hm⟩:=ih _ _ _ _ e
         simp only[List.all_eq_true,decide_eq_true_eq]at hq
         obtain⟨q,hq⟩:=all_den hs _ hq
         refine⟨max n (max m q),?_⟩
         rw[FY (Du tb (Nat.le_max_left n (max m q))) hn]
         simp only[Option.bind_some]
         rw[if_pos]
         ·exact Qg (Du tb (Nat.le_trans (Nat.le_max_left m q) (Nat.le_max_right n _))) hs _ _ _ _ _ hm
         ·simp only[List.all_eq_true,decide_eq_true_eq]
          intro j hj
          obtain⟨u,hu,hu'⟩:=hq j hj
          refine⟨u,?_,hu'⟩
          cases hj':hs[j]? with
          |none=>rw[hj']at hu;simp at hu
          |some h'=>rw[hj']at hu;exact FY (Du tb (Nat.le_trans (Nat.le_max_right m q) (Nat.le_max_right n _))) hu
        ·simp at e
theorem lpN_den{F:Nat→Fr→Av→Option (Ex×Fr×Av)}{G:Fr→Av→Option (Ex×Fr×Av)}(hm: ∀n m,n≤m→ ∀f h r,F n f h=some r→F m f h=some r)
  (hG: ∀f h r,G f h=some r→ ∃n,F n f h=some r): ∀(k:Nat) (f:Fr) (h:Av) (r:Ex×Fr×Av),Vo G k f h=some r→ ∃n,Vo (F n) k f h=some r:=by
 intro k
 induction k with
 |zero=>intro f h r e;simp[Vo]at e
 |succ k ih=>
  intro f h r e
  simp only[Vo]at e ⊢
  cases hx:G f h with
  |none=>rw[hx]at e;simp at e
  |some p=>
   rw[hx]at e
   obtain⟨n,hn⟩:=hG _ _ _ hx
   obtain⟨q,f',h'⟩:=p
   cases q with
   |normal=>
    obtain⟨m,hm'⟩:=ih _ _ _ e
    refine⟨max n m,?_⟩
    rw[hm n _ (Nat.le_max_left n m) _ _ _ hn]
    exact xT (hm m _ (Nat.le_max_right n m)) _ _ _ _ hm'
   |exit id=>exact⟨n,by rw[hn];exact e⟩
   |ret=>exact⟨n,by rw[hn];exact e⟩
theorem yY{tb:CW}: ∀(x:AC) (f:Fr) (h:Av) (r:Ex×Fr×Av),AW tb (Ch tb) x f h=some r→ ∃n,AW tb (run tb n) x f h=some r:=by
 intro x
 induction x with
 |skip=>intro f h r e;exact⟨0,e⟩
 |reg l=>
  intro f h r e
  simp only[AW]at e ⊢
  cases ho:ops tb (Ch tb) l f h with
  |none=>rw[ho]at e;simp at e
  |some p=>
   rw[ho]at e
   obtain⟨n,hn⟩:=ops_den _ _ _ _ ho
   exact⟨n,by rw[hn];exact e⟩
 |regq l=>
  intro f h r e
  simp only[AW]at e ⊢
  cases ho:Ia tb (Ch tb) h l f with
  |none=>rw[ho]at e;simp at e
  |some p=>
   rw[ho]at e
   obtain⟨n,hn⟩:=vZ h _ _ _ ho
   exact⟨n,by rw[hn];exact e⟩
 |regd l w=>
  intro f h r e
  simp only[AW]at e ⊢
  cases ho:HP tb (Ch tb) l w f h with
  |none=>rw[ho]at e;simp at e
  |some hs=>
   rw[ho]at e
   simp only[Option.bind_some]at e
   obtain⟨n,hn⟩:=tA _ _ _ _ _ ho
   cases hd:J4 tb (Ch tb) (h::hs.tail) l w 0 f with
   |none=>rw[hd]at e;simp at e
   |some f'=>
    rw[hd]at e
    obtain⟨m,hm⟩:=wA _ _ _ _ _ _ hd
    refine⟨max n m,?_⟩
    rw[R6 (Du tb (Nat.le_max_left n m)) _ _ _ _ _ hn]
    simp only[Option.bind_some]
    rw[Qg (Du tb (Nat.le_max_right n m)) _ _ _ _ _ _ hm]
    exact e
 |seq x y ihx ihy=>
  intro f h r e
  simp only[AW]at e ⊢
  cases hx:AW tb (Ch tb) x f h with
  |none=>rw[hx]at e;simp at e
  |some p=>
   rw[hx]at e
   obtain⟨n,hn⟩:=ihx _ _ _ hx
   obtain⟨q,f',h'⟩:=p
   cases q with
   |normal=>
    obtain⟨m,hm⟩:=ihy _ _ _ e
    refine⟨max n m,?_⟩
    rw[Ql (Du tb (Nat.le_max_left n m)) _ _ _ _ hn]
    exact Ql (Du tb (Nat.le_max_right n m)) _ _ _ _ hm
   |exit id=>exact⟨n,by rw[hn];exact e⟩
   |ret=>exact⟨n,by rw[hn];exact e⟩
 |cond o x y ihx ihy=>
  intro f h r e
  simp only[AW]at e ⊢
  split at e
  ·rename_i t ht
   split at e
   ·rename_i hh;simp only[hh,if_true];exact ihx _ _ _ e
   ·rename_i hh;simp only[hh];exact ihy _ _ _ e
  ·simp at e
 |blk id x ih=>
  intro f h r e
  simp only[AW]at e ⊢
  cases hx:AW tb (Ch tb) x f h with
  |none=>rw[hx]at e;simp at e
  |some p=>
   rw[hx]at e
   obtain⟨n,hn⟩:=ih _ _ _ hx
   exact⟨n,by rw[hn];exact e⟩
 |loop AZ x ih=>
  intro f h r e
  simp only[AW]at e ⊢
  obtain⟨k,hk⟩:=lp_ex e
  have hm: ∀n m,n≤m→ ∀f h r,KS AZ (AW tb (run tb n) x) f h=some r→KS AZ (AW tb (run tb m) x) f h=some r:=by
   intro n m hnm f h r e
   simp only[KS]at e ⊢
   cases hx:AW tb (run tb n) x (keepL AZ f) h with
   |none=>rw[hx]at e;simp at e
   |some p=>rw[hx]at e;rw[Ql (Du tb hnm) _ _ _ _ hx];exact e
  have hg: ∀f h r,KS AZ (AW tb (Ch tb) x) f h=some r→ ∃n,KS AZ (AW tb (run tb n) x) f h=some r:=by
   intro f h r e
   simp only[KS]at e ⊢
   cases hx:AW tb (Ch tb) x (keepL AZ f) h with
   |none=>rw[hx]at e;simp at e
   |some p=>
    rw[hx]at e
    obtain⟨n,hn⟩:=ih _ _ _ hx
    exact⟨n,by rw[hn];exact e⟩
  obtain⟨n,hn⟩:=lpN_den (F:=fun n=>KS AZ (AW tb (run tb n) x)) hm hg _ _ _ _ hk
  exact⟨n,xS _ hn⟩
 |exit id=>intro f h r e;exact⟨0,e⟩
 |ret=>intro f h r e;exact⟨0,e⟩
 |scope x ih=>intro f h r e;exact ih f h r e
 |stop=>intro f h r e;simp[AW]at e
 |keep AZ x ih=>
  intro f h r e
  simp only[AW]at e ⊢
  cases hx:AW tb (Ch tb) x f h with
  |none=>rw[hx]at e;simp at e
  |some p=>
   rw[hx]at e
   obtain⟨n,hn⟩:=ih _ _ _ hx
   exact⟨n,by rw[hn];exact e⟩
theorem PI(tb:CW)(f:Nat)(a:List AV)(h:Av):Ch tb f a h=(tb.fns f).bind fun fn=>body tb (Ch tb) fn a h:=by
 cases hf:tb.fns f with
 |none=>
  cases hd:Ch tb f a h with
  |none=>rfl
  |some r=>
   obtain⟨n,hn⟩:=nZ hd
   cases n with
   |zero=>simp[run]at hn
   |succ n=>rw[run,hf]at hn;simp at hn
 |some fn=>
  simp only[Option.bind_some]
  cases hb:body tb (Ch tb) fn a h with
  |some r=>
   have: ∃n,body tb (run tb n) fn a h=some r:=by
    simp only[body]at hb ⊢
    split at hb
    ·rename_i hn
     simp only[if_pos hn]
     cases hx:AW tb (Ch tb) fn.body (a.zipIdx.map fun p=>(p.2,p.1)) h with
     |none=>rw[hx]at hb;simp at hb
     |some p=>
      rw[hx]at hb
      obtain⟨n,hn⟩:=yY _ _ _ _ hx
      exact⟨n,by rw[hn];exact hb⟩
    ·simp at hb
   obtain⟨n,hn⟩:=this
   exact zI (n:=n+1) (by rw[run,hf];exact hn)
  |none=>
   cases hd:Ch tb f a h with
   |none=>rfl
   |some r=>
    obtain⟨n,hn⟩:=nZ hd
    cases n with
    |zero=>simp[run]at hn
    |succ n=>
     rw[run,hf]at hn
     have:=ZX (rJ tb n) hn
     rw[hb]at this
     simp at this
end Go.Proofs.YtobejhpigbllpaaGreatDoor.Am
namespace Go.Proofs.YtobejhpigbllpaaGreatDoor.Am
structure Place where
 blk:Nat
 base:Nat
 size:Nat
structure Dt where
 φ:Nat→Place
 H:Av
 w:World
def Dt.own(C:Dt)(b:Nat):Prop:= ∃id,id<C.H.length∧(C.φ id).blk=b
def DH(w:World)(b base:Nat)(vs:List Value):Prop:= ∀(j:Nat) (v:Value),vs[j]? =some v→w.cell? ⟨b,base+j,none⟩=some v
def scal:AV→Bool
 | .agg _=>false
 | .tup _=>false
 | .junk=>false
 |_=>true
def RA:BF→Bool
 | .row _ _ _ _=>false
 |_=>true
mutual
def FI(C:Dt):AV→Value→Prop
 | .b x,v=>v= .bool x
 | .i k n,v=>v= .int k n
 | .s l,v=>v= .string ⟨l.toArray⟩
 | .agg cs,v=> ∃vs:List Value,v= .agg vs.toArray∧cs.all scal=true∧AX C cs vs
 | .tup cs,v=> ∃vs:List Value,v= .tuple vs.toArray∧AX C cs vs
 | .nilp,v=>v= .pointer none
 | .ptr id off,v=>(∃o,C.H[id]? =some o∧RA o=true)∧v= .pointer (some ⟨(C.φ id).blk,off,none⟩)
 | .pe id n i off,v=>(∃p,v= .pointer (some p))∧ ∃fz sz els,rowAt C.H id=some (fz,sz,els)∧n≤els.length∧
   (n=els.length→v= .pointer (some ⟨(C.φ id).blk,(C.φ id).base+i*sz+off,none⟩))
 | .ip cs off,v=> ∃b base vs,v= .pointer (some ⟨b,base+off,none⟩)∧b<C.w.heap.size∧ ¬C.own b∧DH C.w b base vs∧cs.all scal=true∧AX C cs vs
 | .nils,v=>v= .slice none 0 0
 | .sl sz els,v=>(∃b base cap vss,v= .slice (some ⟨b,base,none⟩) els.length cap∧els.length≤cap∧b<C.w.heap.size∧ ¬C.own b∧
   DH C.w b base vss.flatten∧(∀e∈els,e.length=sz∧e.all scal=true)∧AN C els vss)∨(els=[]∧ ∃p cap,v= .slice (some p) 0 cap)
 | .orow id n lo len,v=>(∃p c,v= .slice (some p) len c)∧ ∃fz sz els,rowAt C.H id=some (fz,sz,els)∧n≤els.length∧
   (n=els.length→lo+len≤n∧ ∃off cap,v= .slice (some ⟨(C.φ id).blk,off,none⟩) len cap∧len≤cap∧(0<len→off=(C.φ id).base+lo*sz)∧off+cap*sz≤(C.φ id).size∧(C.φ id).base≤off)
 | .ocel sz id off len,v=>(∃o,C.H[id]? =some o∧RA o=true)∧ ∃o cap,v= .slice (some ⟨(C.φ id).blk,o,none⟩) len cap∧len≤cap∧(0<len→o=off)∧0<sz
 | .nilm,v=>v= .map none
 | .mp id,v=>(∃o,C.H[id]? =some o∧RA o=true)∧v= .map (some (C.φ id).blk)
 | .nilf,v=>v= .nilFunc
 | .fn f a b,v=> ∃x y:List Value,v= .func f x.toArray y.toArray∧AX C a x∧AX C b y
 | .nili,v=>v= .nilIface
 | .ifc _ a,v=> ∃u x,v= .iface u x∧FI C a x
 | .junk,_=>True
def AX(C:Dt):List AV→List Value→Prop
 |[],vs=>vs=[]
 |a::r,vs=> ∃v q,vs=v::q∧FI C a v∧AX C r q
def AN(C:Dt):List (List AV)→List (List Value)→Prop
 |[],vss=>vss=[]
 |a::r,vss=> ∃v q,vss=v::q∧AX C a v∧AN C r q
end
def Obj(C:Dt)(p:Place):BF→Prop
 | .cells l cs=> ∃(vs:List Value) (arr:Array Value) (e:TypeId) (fr:Nat×Nat),(C.w.heap[p.blk]? =some (.cells arr e fr)∧ ∀k,l=some k→e=k)∧arr.size=cs.length∧cs.all scal=true∧AX C cs vs∧
   DH C.w p.blk 0 vs∧(∀o,o<cs.length→C.w.frozen? ⟨p.blk,o,none⟩=false)
 | .row l fz sz els=> ∃(vss:List (List Value)) (arr:Array Value) (e:TypeId) (fr:Nat×Nat),(C.w.heap[p.blk]? =some (.cells arr e fr)∧fr.1≤fr.2∧ ∀k,l=some k→e=k)∧arr.size=p.size∧0<sz∧
   (∀x∈els,x.length=sz∧x.all scal=true)∧AN C els vss∧p.base+els.length*sz≤p.size∧DH C.w p.blk p.base vss.flatten∧
   (fz=false→ ∀o,o<p.size→C.w.frozen? ⟨p.blk,o,none⟩=false)∧(fz=false→ ∀o,p.base+els.length*sz≤o→o<p.size→C.w.frozen? ⟨p.blk,o,none⟩=false)
 | .map es=> ∃(ms:List MapEntry) (clock:Nat),C.w.heap[p.blk]? =some (.map ms.toArray clock)∧AX C (es.map (·.1)) (ms.map (·.key))∧AX C (es.map (·.2)) (ms.map (·.val))
 | .iter l pos=>C.w.heap[p.blk]? =some (.stringIter ⟨l.toArray⟩ pos)
structure Inv(tb:CW)(C:Dt):Prop where
 obj: ∀id o,C.H[id]? =some o→Obj C (C.φ id) o
 inj: ∀i j,i<C.H.length→j<C.H.length→(C.φ i).blk=(C.φ j).blk→i=j
 lt: ∀i,i<C.H.length→(C.φ i).blk<C.w.heap.size
 gl: ∀g cs,tb.gl g=some cs→g<C.w.heap.size∧ ¬C.own g∧cs.all scal=true∧ ∃vs,DH C.w g 0 vs∧AX C cs vs
def Rest(w w':World):Prop:=w'.os=w.os∧w'.tape=w.tape∧w'.output=w.output
structure KU(C D:Dt):Prop where
 rest:Rest C.w D.w
 size:C.w.heap.size≤D.w.heap.size
 len:C.H.length≤D.H.length
 same: ∀b,b<C.w.heap.size→ ¬C.own b→D.w.heap[b]? =C.w.heap[b]? ∧ ¬D.own b
 fixed: ∀id o,C.H[id]? =some o→RA o=true→(∃o',D.H[id]? =some o'∧RA o'=true)∧D.φ id=C.φ id
 row: ∀id fz sz els,rowAt C.H id=some (fz,sz,els)→ ∃fz' els',rowAt D.H id=some (fz',sz,els')∧els.length≤els'.length∧(els.length=els'.length→D.φ id=C.φ id)
theorem J1(C:Dt):KU C C:=
 ⟨⟨rfl,rfl,rfl⟩,Nat.le_refl _,Nat.le_refl _,fun _ _ h=>⟨rfl,h⟩,fun _ o h f=>⟨⟨o,h,f⟩,rfl⟩,fun _ fz _ els h=>⟨fz,els,h,Nat.le_refl _,fun _=>rfl⟩⟩
theorem KU.trans{C D E:Dt}(a:KU C D)(b:KU D E):KU C E:=by
 refine⟨⟨b.rest.1.trans a.rest.1,b.rest.2.1.trans a.rest.2.1,b.rest.2.2.trans a.rest.2.2⟩,Nat.le_trans a.size b.size,Nat.le_trans a.len b.len,?_,?_,?_⟩
 ·intro x hx ho
  obtain⟨h1,h2⟩:=a.same x hx ho
  obtain⟨h3,h4⟩:=b.same x (Nat.lt_of_lt_of_le hx a.size) h2
  exact⟨h3.trans h1,h4⟩
 ·intro id o h f
  obtain⟨⟨o',h',f'⟩,e⟩:=a.fixed id o h f
  obtain⟨h2,e'⟩:=b.fixed id o' h' f'
  exact⟨h2,e'.trans e⟩
 ·intro id fz sz els h
  obtain⟨fz',els',h',l,e⟩:=a.row id fz sz els h
  obtain⟨fz'',els'',h'',l',e'⟩:=b.row id fz' sz els' h'
  exact⟨fz'',els'',h'',Nat.le_trans l l',fun q=>(e' (by omega)).trans (e (by omega))⟩
theorem RE{w w':World}{b o:Nat}(h:w'.heap[b]? =w.heap[b]?):w'.cell? ⟨b,o,none⟩=w.cell? ⟨b,o,none⟩:=by
 simp only[World.cell?,h]
theorem DH.same{w w':World}{b base:Nat}{vs:List Value}(h:w'.heap[b]? =w.heap[b]?)(x:DH w b base vs):DH w' b base vs:=
 fun j v e=>by rw[RE h];exact x j v e
mutual
theorem FI.ext{C D:Dt}(X:KU C D): ∀{a:AV} {v:Value},FI C a v→FI D a v
 | .b _,_,h=>h
 | .i _ _,_,h=>h
 | .s _,_,h=>h
 | .agg _,_,⟨vs,e,s,h⟩=>⟨vs,e,s,AX.ext X h⟩
 | .tup _,_,⟨vs,e,h⟩=>⟨vs,e,AX.ext X h⟩
 | .nilp,_,h=>h
 | .ptr _ _,_,⟨⟨o,h,f⟩,e⟩=>by
  obtain⟨h',e'⟩:=X.fixed _ o h f
  exact⟨h',by rw[e'];exact e⟩
 | .pe _ _ _ _,_,⟨q0,fz,sz,els,h,l,e⟩=>by
  obtain⟨fz',els',h',l',e'⟩:=X.row _ fz sz els h
  exact⟨q0,fz',sz,els',h',by omega,fun q=>by rw[e' (by omega)];exact e (by omega)⟩
 | .ip _ _,_,⟨b,base,vs,e,lt,ho,hh,s,r⟩=>by
  obtain⟨h1,h2⟩:=X.same b lt ho
  exact⟨b,base,vs,e,Nat.lt_of_lt_of_le lt X.size,h2,hh.same h1,s,AX.ext X r⟩
 | .nils,_,h=>h
 | .sl _ _,_, .inr h=> .inr h
 | .sl _ _,_, .inl ⟨b,base,cap,vss,e,l,lt,ho,hh,s,r⟩=>by
  obtain⟨h1,h2⟩:=X.same b lt ho
  exact .inl ⟨b,base,cap,vss,e,l,Nat.lt_of_lt_of_le lt X.size,h2,hh.same h1,s,AN.ext X r⟩
 | .orow _ _ _ _,_,⟨q0,fz,sz,els,h,l,e⟩=>by
  obtain⟨fz',els',h',l',e'⟩:=X.row _ fz sz els h
  exact⟨q0,fz',sz,els',h',by omega,fun q=>by rw[e' (by omega)];exact e (by omega)⟩
 | .ocel _ _ _ _,_,⟨⟨o,h,f⟩,e⟩=>by
  obtain⟨h',e'⟩:=X.fixed _ o h f
  exact⟨h',by rw[e'];exact e⟩
 | .nilm,_,h=>h
 | .mp _,_,⟨⟨o,h,f⟩,e⟩=>by
  obtain⟨h',e'⟩:=X.fixed _ o h f
  exact⟨h',by rw[e'];exact e⟩
 | .nilf,_,h=>h
 | .fn _ _ _,_,⟨x,y,e,h1,h2⟩=>⟨x,y,e,AX.ext X h1,AX.ext X h2⟩
 | .nili,_,h=>h
 | .ifc _ _,_,⟨u,x,e,h⟩=>⟨u,x,e,FI.ext X h⟩
 | .junk,_,_=>trivial
theorem AX.ext{C D:Dt}(X:KU C D): ∀{l:List AV} {vs:List Value},AX C l vs→AX D l vs
 |[],_,h=>h
 |_::_,_,⟨v,q,e,h,r⟩=>⟨v,q,e,FI.ext X h,AX.ext X r⟩
theorem AN.ext{C D:Dt}(X:KU C D): ∀{l:List (List AV)} {vs:List (List Value)},AN C l vs→AN D l vs
 |[],_,h=>h
 |_::_,_,⟨v,q,e,h,r⟩=>⟨v,q,e,AX.ext X h,AN.ext X r⟩
end
def Dt.cut(C:Dt)(n:Nat):Dt:=⟨C.φ,C.H.take n,C.w⟩
theorem Qn{C:Dt}{n id:Nat}(h:id<n):(C.cut n).H[id]? =C.H[id]? :=by
 simp only[Dt.cut];rw[List.getElem?_take];simp[h]
theorem eC{C:Dt}{n id:Nat}(h:id<n):rowAt (C.cut n).H id=rowAt C.H id:=by
 simp only[rowAt,Qn h]
theorem Ij{H:Av}{id:Nat}{fz:Bool}{sz:Nat}{els:List (List AV)}(h:rowAt H id=some (fz,sz,els)): ∃t,H[id]? =some (.row t fz sz els)∧Ek H id=t:=by
 simp only[rowAt]at h
 split at h
 ·rename_i t fz' sz' els' e
  cases h
  exact⟨t,e,by simp only[Ek,e]⟩
 ·cases h
theorem N1{H:Av}{id:Nat}{cs:List AV}(h:BX H id=some cs): ∃t,H[id]? =some (.cells t cs)∧Ek H id=t:=by
 simp only[BX]at h
 split at h
 ·rename_i t cs' e
  cases h
  exact⟨t,e,by simp only[Ek,e]⟩
 ·cases h
theorem vH{H G:Av}{id:Nat}(h:G[id]? =H[id]?):rowAt G id=rowAt H id:=by simp only[rowAt,h]
theorem lO{H:Av}{id:Nat}{t:Option Nat}{fz:Bool}{sz:Nat}{els:List (List AV)}(h:H[id]? =some (.row t fz sz els)):rowAt H id=some (fz,sz,els):=by
 simp only[rowAt,h]
theorem SU{C:Dt}{n b:Nat}(h: ¬C.own b): ¬(C.cut n).own b:=by
 rintro⟨id,hl,e⟩
 exact h ⟨id,by simp only[Dt.cut,List.length_take]at hl;omega,e⟩
mutual
theorem FI.cut{C:Dt}{n:Nat}: ∀{a:AV} {v:Value},B7 a≤n→FI C a v→FI (C.cut n) a v
 | .b _,_,_,h=>h
 | .i _ _,_,_,h=>h
 | .s _,_,_,h=>h
 | .agg _,_,m,⟨vs,e,s,h⟩=>⟨vs,e,s,AX.cut (by simpa [B7]using m) h⟩
 | .tup _,_,m,⟨vs,e,h⟩=>⟨vs,e,AX.cut (by simpa [B7]using m) h⟩
 | .nilp,_,_,h=>h
 | .ptr _ _,_,m,⟨⟨o,h,f⟩,e⟩=>⟨⟨o,by rw[Qn (by simp only[B7]at m;omega)];exact h,f⟩,e⟩
 | .pe _ _ _ _,_,m,⟨q0,fz,sz,els,h,l,e⟩=>⟨q0,fz,sz,els,by rw[eC (by simp only[B7]at m;omega)];exact h,l,e⟩
 | .ip _ _,_,m,⟨b,base,vs,e,lt,ho,hh,s,r⟩=>⟨b,base,vs,e,lt,SU ho,hh,s,AX.cut (by simpa [B7]using m) r⟩
 | .nils,_,_,h=>h
 | .sl _ _,_,_, .inr h=> .inr h
 | .sl _ _,_,m, .inl ⟨b,base,cap,vss,e,l,lt,ho,hh,s,r⟩=> .inl ⟨b,base,cap,vss,e,l,lt,SU ho,hh,s,AN.cut (by simpa [B7]using m) r⟩
 | .orow _ _ _ _,_,m,⟨q0,fz,sz,els,h,l,e⟩=>⟨q0,fz,sz,els,by rw[eC (by simp only[B7]at m;omega)];exact h,l,e⟩
 | .ocel _ _ _ _,_,m,⟨⟨o,h,f⟩,e⟩=>⟨⟨o,by rw[Qn (by simp only[B7]at m;omega)];exact h,f⟩,e⟩
 | .nilm,_,_,h=>h
 | .mp _,_,m,⟨⟨o,h,f⟩,e⟩=>⟨⟨o,by rw[Qn (by simp only[B7]at m;omega)];exact h,f⟩,e⟩
 | .nilf,_,_,h=>h
 | .fn _ _ _,_,m,⟨x,y,e,h1,h2⟩=>⟨x,y,e,AX.cut (by simp only[B7]at m;omega) h1,AX.cut (by simp only[B7]at m;omega) h2⟩
 | .nili,_,_,h=>h
 | .ifc _ _,_,m,⟨u,x,e,h⟩=>⟨u,x,e,FI.cut (by simpa [B7]using m) h⟩
 | .junk,_,_,_=>trivial
theorem AX.cut{C:Dt}{n:Nat}: ∀{l:List AV} {vs:List Value},Bg l≤n→AX C l vs→AX (C.cut n) l vs
 |[],_,_,h=>h
 |_::_,_,m,⟨v,q,e,h,r⟩=>⟨v,q,e,FI.cut (by simp only[Bg]at m;omega) h,AX.cut (by simp only[Bg]at m;omega) r⟩
theorem AN.cut{C:Dt}{n:Nat}: ∀{l:List (List AV)} {vs:List (List Value)},CJ l≤n→AN C l vs→AN (C.cut n) l vs
 |[],_,_,h=>h
 |_::_,_,m,⟨v,q,e,h,r⟩=>⟨v,q,e,AX.cut (by simp only[CJ]at m;omega) h,AN.cut (by simp only[CJ]at m;omega) r⟩
end
theorem AX.length{C:Dt}: ∀{l:List AV} {vs:List Value},AX C l vs→vs.length=l.length
 |[],_,h=>by rw[show _=[]from h];rfl
 |_::_,_,⟨v,q,e,_,r⟩=>by rw[e];simp[AX.length r]
theorem AN.length{C:Dt}: ∀{l:List (List AV)} {vs:List (List Value)},AN C l vs→vs.length=l.length
 |[],_,h=>by rw[show _=[]from h];rfl
 |_::_,_,⟨v,q,e,_,r⟩=>by rw[e];simp[AN.length r]
theorem AX.get{C:Dt}: ∀{l:List AV} {vs:List Value} {i:Nat} {a:AV},AX C l vs→l[i]? =some a→ ∃v,vs[i]? =some v∧FI C a v
 |[],_,_,_,_,h=>by simp at h
 |x::l,_,0,a,⟨v,q,e,h,r⟩,g=>by
  simp at g;subst g;exact⟨v,by rw[e];rfl,h⟩
 |x::l,_,i+1,a,⟨v,q,e,h,r⟩,g=>by
  obtain⟨u,h1,h2⟩:=AX.get r (i:=i) (a:=a) (by simpa using g)
  exact⟨u,by rw[e];simpa using h1,h2⟩
theorem AN.get{C:Dt}: ∀{l:List (List AV)} {vs:List (List Value)} {i:Nat} {a:List AV},AN C l vs→l[i]? =some a→ ∃v,vs[i]? =some v∧AX C a v
 |[],_,_,_,_,h=>by simp at h
 |x::l,_,0,a,⟨v,q,e,h,r⟩,g=>by
  simp at g;subst g;exact⟨v,by rw[e];rfl,h⟩
 |x::l,_,i+1,a,⟨v,q,e,h,r⟩,g=>by
  obtain⟨u,h1,h2⟩:=AN.get r (i:=i) (a:=a) (by simpa using g)
  exact⟨u,by rw[e];simpa using h1,h2⟩
theorem AX.app{C:Dt}: ∀{l m:List AV} {vs us:List Value},AX C l vs→AX C m us→AX C (l++m) (vs++us)
 |[],_,_,_,h,g=>by rw[show _=[]from h];exact g
 |_::_,_,_,_,⟨v,q,e,h,r⟩,g=>⟨v,q++_,by rw[e];rfl,h,AX.app r g⟩
theorem AN.app{C:Dt}: ∀{l m:List (List AV)} {vs us:List (List Value)},AN C l vs→AN C m us→AN C (l++m) (vs++us)
 |[],_,_,_,h,g=>by rw[show _=[]from h];exact g
 |_::_,_,_,_,⟨v,q,e,h,r⟩,g=>⟨v,q++_,by rw[e];rfl,h,AN.app r g⟩
theorem AX.drop{C:Dt}: ∀{n:Nat} {l:List AV} {vs:List Value},AX C l vs→AX C (l.drop n) (vs.drop n)
 |0,_,_,h=>h
 |n+1,[],_,h=>by rw[show _=[]from h];simp[AX]
 |n+1,_::_,_,⟨v,q,e,h,r⟩=>by rw[e];simpa using AX.drop (n:=n) r
theorem AX.take{C:Dt}: ∀{n:Nat} {l:List AV} {vs:List Value},AX C l vs→AX C (l.take n) (vs.take n)
 |0,_,_,_=>by simp[AX]
 |n+1,[],_,h=>by rw[show _=[]from h];simp[AX]
 |n+1,_::_,_,⟨v,q,e,h,r⟩=>by rw[e];exact⟨v,q.take n,rfl,h,AX.take r⟩
theorem AN.drop{C:Dt}: ∀{n:Nat} {l:List (List AV)} {vs:List (List Value)},AN C l vs→AN C (l.drop n) (vs.drop n)
 |0,_,_,h=>h
 |n+1,[],_,h=>by rw[show _=[]from h];simp[AN]
 |n+1,_::_,_,⟨v,q,e,h,r⟩=>by rw[e];simpa using AN.drop (n:=n) r
theorem AN.take{C:Dt}: ∀{n:Nat} {l:List (List AV)} {vs:List (List Value)},AN C l vs→AN C (l.take n) (vs.take n)
 |0,_,_,_=>by simp[AN]
 |n+1,[],_,h=>by rw[show _=[]from h];simp[AN]
 |n+1,_::_,_,⟨v,q,e,h,r⟩=>by rw[e];exact⟨v,q.take n,rfl,h,AN.take r⟩
theorem AN.flat{C:Dt}: ∀{l:List (List AV)} {vs:List (List Value)},AN C l vs→AX C l.flatten vs.flatten
 |[],_,h=>by rw[show _=[]from h];simp[AX]
 |_::_,_,⟨v,q,e,h,r⟩=>by rw[e];exact AX.app h (AN.flat r)
theorem AN.set{C:Dt}{a:List AV}{v:List Value}(ha:AX C a v): ∀{l:List (List AV)} {vs:List (List Value)} {i:Nat},AN C l vs→AN C (l.set i a) (vs.set i v)
 |[],_,_,h=>by rw[show _=[]from h];simp[AN]
 |_::_,_,0,⟨_,q,e,_,r⟩=>by rw[e];exact⟨v,q,rfl,ha,r⟩
 |_::_,_,i+1,⟨u,q,e,h,r⟩=>by rw[e];exact⟨u,q.set i v,rfl,h,AN.set ha r⟩
theorem AX.set{C:Dt}{a:AV}{v:Value}(ha:FI C a v): ∀{l:List AV} {vs:List Value} {i:Nat},AX C l vs→AX C (l.set i a) (vs.set i v)
 |[],_,_,h=>by rw[show _=[]from h];simp[AX]
 |_::_,_,0,⟨_,q,e,_,r⟩=>by rw[e];exact⟨v,q,rfl,ha,r⟩
 |_::_,_,i+1,⟨u,q,e,h,r⟩=>by rw[e];exact⟨u,q.set i v,rfl,h,AX.set ha r⟩
theorem AN.lens{C:Dt}{sz:Nat}: ∀{l:List (List AV)} {vs:List (List Value)},(∀x∈l,x.length=sz)→AN C l vs→ ∀v∈vs,v.length=sz
 |[],_,_,h,v,hv=>by rw[show _=[]from h]at hv;cases hv
 |x::_,_,g,⟨u,q,e,h,r⟩,v,hv=>by
  rw[e]at hv
  rcases List.mem_cons.1 hv with e'|hv
  ·rw[e',h.length];exact g x List.mem_cons_self
  ·exact AN.lens (fun y hy=>g y (List.mem_cons_of_mem _ hy)) r v hv
theorem Inv.cut{tb:CW}{C:Dt}{n:Nat}(I:Inv tb C)(m:CB (C.H.take n)≤n)(hg: ∀g cs,tb.gl g=some cs→Bg cs=0):Inv tb (C.cut n):=by
 have memH: ∀(l:Av) (o:BF),o∈l→Ej o≤CB l:=by
  intro l
  induction l with
  |nil=>intro o h;cases h
  |cons x l ih=>
   intro o h
   simp only[CB]
   rcases List.mem_cons.1 h with e|h
   ·subst e;omega
   ·have:=ih o h;omega
 have hl: ∀i,i<(C.cut n).H.length→i<C.H.length:=fun i h=>by simp only[Dt.cut,List.length_take]at h;omega
 refine⟨?_,fun i j hi hj e=>I.inj i j (hl i hi) (hl j hj) e,fun i hi=>I.lt i (hl i hi),?_⟩
 ·intro id o h
  have hm:Ej o≤n:=Nat.le_trans (memH _ o (List.mem_of_getElem? h)) m
  have hid:id<n:=by
   rcases Nat.lt_or_ge id n with h'|h'
   ·exact h'
   ·simp only[Dt.cut]at h;rw[List.getElem?_take]at h;simp[Nat.not_lt.2 h']at h
  rw[Qn hid]at h
  have x:=I.obj id o h
  cases o with
  |cells t cs=>
   obtain⟨vs,arr,e,fr,h1,h2,h3,h4,h5⟩:=x
   exact⟨vs,arr,e,fr,h1,h2,h3,AX.cut hm h4,h5⟩
  |row t fz sz els=>
   obtain⟨vss,arr,e,fr,h1,h2,h3,h4,h5,h6⟩:=x
   exact⟨vss,arr,e,fr,h1,h2,h3,h4,AN.cut hm h5,h6⟩
  |map es=>
   obtain⟨ms,c,h1,h2,h3⟩:=x
   simp only[Ej]at hm
   exact⟨ms,c,h1,AX.cut (by omega) h2,AX.cut (by omega) h3⟩
  |iter l pos=>exact x
 ·intro g cs h
  obtain⟨h1,h2,h3,vs,h4,h5⟩:=I.gl g cs h
  exact⟨h1,SU h2,h3,vs,h4,AX.cut (by rw[hg g cs h];omega) h5⟩
theorem KU.cut{C D:Dt}{n:Nat}(X:KU C D)(h:C.H.length≤n):KU C (D.cut n):=by
 have lt: ∀{id:Nat} {o:BF},C.H[id]? =some o→id<n:=fun{id o} e=>by
  have:=(List.getElem?_eq_some_iff.1 e).1;omega
 refine⟨X.rest,X.size,by simp only[Dt.cut,List.length_take];have:=X.len;omega,fun b hb ho=>⟨(X.same b hb ho).1,SU (X.same b hb ho).2⟩,?_,?_⟩
 ·intro id o e f
  obtain⟨⟨o',h',f'⟩,e'⟩:=X.fixed id o e f
  exact⟨⟨o',by rw[Qn (lt e)];exact h',f'⟩,e'⟩
 ·intro id fz sz els e
  obtain⟨fz',els',h',r⟩:=X.row id fz sz els e
  obtain⟨t,e',_⟩:=Ij e
  exact⟨fz',els',by rw[eC (lt e')];exact h',r⟩
theorem Oe{w w':World}{b o:Nat}(h:w'.heap[b]? =w.heap[b]?):w'.frozen? ⟨b,o,none⟩=w.frozen? ⟨b,o,none⟩:=by
 simp only[World.frozen?,h]
theorem Obj.ext{C D:Dt}(X:KU C D){p:Place}{o:BF}(h:D.w.heap[p.blk]? =C.w.heap[p.blk]?)(x:Obj C p o):Obj D p o:=by
 cases o with
 |cells t cs=>
  obtain⟨vs,arr,e,fr,h1,h2,h3,h4,h5,h6⟩:=x
  exact⟨vs,arr,e,fr,⟨h.trans h1.1,h1.2⟩,h2,h3,AX.ext X h4,h5.same h,fun o ho=>by rw[Oe h];exact h6 o ho⟩
 |row t fz sz els=>
  obtain⟨vss,arr,e,fr,h1,h2,h3,h4,h5,h6,h7,h8,h9⟩:=x
  exact⟨vss,arr,e,fr,⟨h.trans h1.1,h1.2⟩,h2,h3,h4,AN.ext X h5,h6,h7.same h,fun f o ho=>by rw[Oe h];exact h8 f o ho,fun f o ho hs=>by rw[Oe h];exact h9 f o ho hs⟩
 |map es=>
  obtain⟨ms,c,h1,h2,h3⟩:=x
  exact⟨ms,c,h.trans h1,AX.ext X h2,AX.ext X h3⟩
 |iter l pos=>exact h.trans x
theorem AS{α:Type}{l:List α}{i:Nat}{x:α}(h:l[i]? =some x):i<l.length:=(List.getElem?_eq_some_iff.1 h).1
theorem uH{tb:CW}{C D:Dt}(I:Inv tb C)(hrest:Rest C.w D.w){id:Nat}{o o':BF}(ho:C.H[id]? =some o)(hH:D.H=C.H.set id o')(hφ: ∀j,j≠id→D.φ j=C.φ j)
  (hs:C.w.heap.size≤D.w.heap.size) (hw: ∀b,b<C.w.heap.size→b≠(C.φ id).blk→D.w.heap[b]? =C.w.heap[b]?)
  (hb:(D.φ id).blk=(C.φ id).blk∨(C.w.heap.size≤(D.φ id).blk∧(D.φ id).blk<D.w.heap.size))
  (hf:RA o=true→RA o'=true∧D.φ id=C.φ id)
  (hr: ∀t fz sz els,o= .row t fz sz els→ ∃t' fz' els',o'= .row t' fz' sz els'∧els.length≤els'.length∧(els.length=els'.length→D.φ id=C.φ id)):
  KU C D∧(Obj D (D.φ id) o'→Inv tb D):=by
 have hid:=AS ho
 have hlen:D.H.length=C.H.length:=by rw[hH];simp
 have get: ∀j,j≠id→D.H[j]? =C.H[j]? :=fun j hj=>by rw[hH,List.getElem?_set_ne (Ne.symm hj)]
 have geti:D.H[id]? =some o':=by rw[hH,List.getElem?_set_self hid]
 have hown: ∀b,b<C.w.heap.size→ ¬C.own b→ ¬D.own b:=by
  rintro b hlt hn ⟨j,hj,e⟩
  by_cases hji:j=id
  ·subst hji
   rcases hb with h|h
   ·exact hn ⟨j,hid,by rw[←h];exact e⟩
   ·omega
  ·exact hn ⟨j,by omega,by rw[←hφ j hji];exact e⟩
 have X:KU C D:=by
  refine⟨hrest,hs,by omega,fun b hlt hn=>⟨hw b hlt fun e=>hn ⟨id,hid,e.symm⟩,hown b hlt hn⟩,?_,?_⟩
  ·intro j x hj hx
   by_cases hji:j=id
   ·subst hji
    rw[ho]at hj
    obtain rfl:=Option.some.inj hj
    exact⟨⟨o',geti,(hf hx).1⟩,(hf hx).2⟩
   ·exact⟨⟨x,by rw[get j hji];exact hj,hx⟩,hφ j hji⟩
  ·intro j fz sz els hj
   by_cases hji:j=id
   ·subst hji
    obtain⟨t,hj,_⟩:=Ij hj
    rw[ho]at hj
    obtain⟨t',fz',els',h1,h2,h3⟩:=hr t fz sz els (Option.some.inj hj)
    exact⟨fz',els',lO (t:=t') (by rw[geti,h1]),h2,h3⟩
   ·exact⟨fz,els,by rw[vH (get j hji)];exact hj,Nat.le_refl _,fun _=>hφ j hji⟩
 refine⟨X,fun ob=>⟨?_,?_,?_,?_⟩⟩
 ·intro j x hj
  by_cases hji:j=id
  ·subst hji
   rw[geti]at hj
   obtain rfl:=Option.some.inj hj
   exact ob
  ·rw[get j hji]at hj
   rw[hφ j hji]
   have hjl:=AS hj
   exact Obj.ext X (hw _ (I.lt j hjl) fun e=>hji (I.inj j id hjl hid e)) (I.obj j x hj)
 ·intro i j hi hj e
  rw[hlen]at hi hj
  by_cases hii:i=id<;>by_cases hji:j=id
  ·rw[hii,hji]
  ·subst hii
   rw[hφ j hji]at e
   rcases hb with h|h
   ·exact I.inj i j hi hj (h.symm.trans e)
   ·have:=I.lt j hj;omega
  ·subst hji
   rw[hφ i hii]at e
   rcases hb with h|h
   ·exact I.inj i j hi hj (e.trans h)
   ·have:=I.lt i hi;omega
  ·rw[hφ i hii,hφ j hji]at e
   exact I.inj i j hi hj e
 ·intro i hi
  rw[hlen]at hi
  by_cases hii:i=id
  ·subst hii
   rcases hb with h|h
   ·rw[h];exact Nat.lt_of_lt_of_le (I.lt i hi) hs
   ·exact h.2
  ·rw[hφ i hii];exact Nat.lt_of_lt_of_le (I.lt i hi) hs
 ·intro g cs hg
  obtain⟨h1,h2,h3,vs,h4,h5⟩:=I.gl g cs hg
  obtain⟨h6,h7⟩:=X.same g h1 h2
  exact⟨Nat.lt_of_lt_of_le h1 hs,h7,h3,vs,h4.same h6,AX.ext X h5⟩
def Dt.more(C:Dt)(p:Place)(o:BF)(w:World):Dt:=⟨fun j=>if j=C.H.length then p else C.φ j,C.H++[o],w⟩
theorem more{tb:CW}{C:Dt}(I:Inv tb C){p:Place}{o:BF}{w:World}(hrest:Rest C.w w)(hs:C.w.heap.size<w.heap.size)(hp:p.blk=C.w.heap.size)
  (hw: ∀b,b<C.w.heap.size→w.heap[b]? =C.w.heap[b]?):KU C (C.more p o w)∧(Obj (C.more p o w) p o→Inv tb (C.more p o w))∧(C.more p o w).φ C.H.length=p:=by
 have hφ: ∀j,j<C.H.length→(C.more p o w).φ j=C.φ j:=fun j hj=>if_neg (by omega)
 have hφn:(C.more p o w).φ C.H.length=p:=if_pos rfl
 have hlen:(C.more p o w).H.length=C.H.length+1:=by simp[Dt.more]
 have get: ∀j,j<C.H.length→(C.more p o w).H[j]? =C.H[j]? :=fun j hj=>List.getElem?_append_left hj
 have getn:(C.more p o w).H[C.H.length]? =some o:=by simp[Dt.more]
 have X:KU C (C.more p o w):=by
  refine⟨hrest,Nat.le_of_lt hs,by omega,fun b hlt hn=>⟨hw b hlt,?_⟩,?_,?_⟩
  ·rintro⟨j,hj,e⟩
   rw[hlen]at hj
   by_cases hji:j=C.H.length
   ·subst hji;rw[hφn,hp]at e;omega
   ·rw[hφ j (by omega)]at e;exact hn ⟨j,by omega,e⟩
  ·intro j x hj hx
   have:=AS hj
   exact⟨⟨x,by rw[get j this];exact hj,hx⟩,hφ j this⟩
  ·intro j fz sz els hj
   obtain⟨t,hj',_⟩:=Ij hj
   have:=AS hj'
   exact⟨fz,els,by rw[vH (get j this)];exact hj,Nat.le_refl _,fun _=>hφ j this⟩
 refine⟨X,fun ob=>⟨?_,?_,?_,?_⟩,hφn⟩
 ·intro j x hj
  have:=AS hj
  rw[hlen]at this
  by_cases hji:j=C.H.length
  ·subst hji
   rw[getn]at hj
   obtain rfl:=Option.some.inj hj
   rw[hφn]
   exact ob
  ·have hl:j<C.H.length:=by omega
   rw[get j hl]at hj
   rw[hφ j hl]
   exact Obj.ext X (hw _ (I.lt j hl)) (I.obj j x hj)
 ·intro i j hi hj e
  rw[hlen]at hi hj
  by_cases hii:i=C.H.length<;>by_cases hji:j=C.H.length
  ·rw[hii,hji]
  ·subst hii
   have hl:j<C.H.length:=by omega
   rw[hφ j hl,hφn,hp]at e
   have:=I.lt j hl;omega
  ·subst hji
   have hl:i<C.H.length:=by omega
   rw[hφ i hl,hφn,hp]at e
   have:=I.lt i hl;omega
  ·rw[hφ i (by omega),hφ j (by omega)]at e
   exact I.inj i j (by omega) (by omega) e
 ·intro i hi
  rw[hlen]at hi
  by_cases hii:i=C.H.length
  ·subst hii;rw[hφn,hp];exact hs
  ·rw[hφ i (by omega)];exact Nat.lt_trans (I.lt i (by omega)) hs
 ·intro g cs hg
  obtain⟨h1,h2,h3,vs,h4,h5⟩:=I.gl g cs hg
  obtain⟨h6,h7⟩:=X.same g h1 h2
  exact⟨Nat.lt_trans h1 hs,h7,h3,vs,h4.same h6,AX.ext X h5⟩
theorem drawn{tb:CW}{C:Dt}(I:Inv tb C){w:World}(hrest:Rest C.w w)(hw:w.heap=C.w.heap):KU C ⟨C.φ,C.H,w⟩∧Inv tb ⟨C.φ,C.H,w⟩:=by
 have X:KU C ⟨C.φ,C.H,w⟩:=⟨hrest,by simp only[hw];omega,Nat.le_refl _,fun b _ hn=>⟨by simp only[hw],hn⟩,fun _ o h f=>⟨⟨o,h,f⟩,rfl⟩,fun _ fz _ els h=>⟨fz,els,h,Nat.le_refl _,fun _=>rfl⟩⟩
 refine⟨X,fun j x hj=>Obj.ext X (by simp only[hw]) (I.obj j x hj),I.inj,fun i hi=>by simp only[hw];exact I.lt i hi,?_⟩
 intro g cs hg
 obtain⟨h1,h2,h3,vs,h4,h5⟩:=I.gl g cs hg
 exact⟨by simp only[hw];exact h1,h2,h3,vs,h4.same (by simp only[hw]),AX.ext X h5⟩
theorem grown{tb:CW}{C:Dt}(I:Inv tb C){w:World}(hrest:Rest C.w w)(hs:C.w.heap.size≤w.heap.size)(hw: ∀b,b<C.w.heap.size→w.heap[b]? =C.w.heap[b]?):KU C ⟨C.φ,C.H,w⟩∧Inv tb ⟨C.φ,C.H,w⟩:=by
 have X:KU C ⟨C.φ,C.H,w⟩:=⟨hrest,hs,Nat.le_refl _,fun b hb hn=>⟨hw b hb,hn⟩,fun _ o h f=>⟨⟨o,h,f⟩,rfl⟩,fun _ fz _ els h=>⟨fz,els,h,Nat.le_refl _,fun _=>rfl⟩⟩
 refine⟨X,fun j x hj=>Obj.ext X (hw _ (I.lt j (AS hj))) (I.obj j x hj),I.inj,fun i hi=>Nat.lt_of_lt_of_le (I.lt i hi) hs,?_⟩
 intro g cs hg
 obtain⟨h1,h2,h3,vs,h4,h5⟩:=I.gl g cs hg
 exact⟨Nat.lt_of_lt_of_le h1 hs,h2,h3,vs,h4.same (hw _ h1),AX.ext X h5⟩
end Go.Proofs.YtobejhpigbllpaaGreatDoor.Am
namespace Go.Proofs.YtobejhpigbllpaaGreatDoor.Am
theorem Xr{h:Av}{n d:Nat}{v:AV}(hm:B7 v≤n):frz h n d v=some v:=by
 cases d<;>simp[frz,hm]
theorem NS{h:Av}{n d:Nat}: ∀{l:List AV},Bg l≤n→D4 (frz h n d) l=some l
 |[],_=>rfl
 |v::l,hm=>by
  simp only[Bg]at hm
  simp only[D4,Xr (show B7 v≤n by omega),Option.bind_some,NS (show Bg l≤n by omega),Option.map_some]
theorem Gs: ∀(a b:List AV),Bg (a++b)=max (Bg a) (Bg b)
 |[],b=>by simp[Bg]
 |x::a,b=>by simp only[List.cons_append,Bg,Gs a b];omega
theorem NU{α:Type}{F:α→Option α}: ∀{a b a' b':List α},D4 F a=some a'→D4 F b=some b'→D4 F (a++b)=some (a'++b')
 |[],b,a',b',h,g=>by simp only[D4,Option.some.injEq]at h;subst h;exact g
 |x::a,b,a',b',h,g=>by
  simp only[D4]at h
  obtain⟨y,hy,h⟩:=Option.bind_eq_some_iff.1 h
  obtain⟨l,hl,rfl⟩:=Option.map_eq_some_iff.1 h
  simp only[List.cons_append,D4,hy,Option.bind_some,NU hl g,Option.map_some]
structure T where
 α:Type
 sz:Nat
 agg:Bool
 dep:Nat
 R:(Nat→Prop)→Av→List AV→α→Prop
 zc:List AV
 z:α
 hz: ∀(P:Nat→Prop) (H:Av),R P H zc z
 one:agg=false→sz=1
 len: ∀{P:Nat→Prop} {H:Av} {cs:List AV} {x:α},R P H cs x→cs.length=sz
 sca: ∀{P:Nat→Prop} {H:Av} {cs:List AV} {x:α},R P H cs x→cs.all scal=true
 men: ∀{P:Nat→Prop} {H:Av} {cs:List AV} {x:α} {m:Nat},R P H cs x→(∀i,P i→i<m)→Bg cs≤m
 mono: ∀{P Q:Nat→Prop} {H G:Av} {cs:List AV} {x:α},(∀i,P i→Q i∧G[i]? =H[i]?)→R P H cs x→R Q G cs x
 cut: ∀{P Q:Nat→Prop} {H:Av} {cs:List AV} {x:α} {n:Nat},R P H cs x→Bg cs≤n→CB (H.take n)≤n→(∀i,P i→i<n→Q i)→R Q (H.take n) cs x
 frz: ∀{P Q:Nat→Prop} {H:Av} {cs:List AV} {x:α} {n d:Nat},R P H cs x→dep≤d→d≤20→CB (H.take n)≤n→(∀i,P i→i<n→Q i)→ ∃cs',D4 (frz H n d) cs=some cs'∧R Q (H.take n) cs' x
def T.V(t:T)(P:Nat→Prop)(H:Av)(v:AV)(x:t.α):Prop:=(t.agg=true∧ ∃cs,v= .agg cs∧t.R P H cs x)∨(t.agg=false∧t.R P H [v] x)
section
variable{t:T}{P Q:Nat→Prop}{H G:Av}
theorem Lj{v:AV}(h:scal v=true):cellsOf v=[v]:=by
 cases v<;>simp[scal]at h<;>rfl
theorem T.V.cells{v:AV}{x:t.α}(h:t.V P H v x):t.R P H (cellsOf v) x:=by
 rcases h with ⟨_,cs,rfl,h⟩|⟨_,h⟩
 ·exact h
 ·have:=t.sca h
  simp only[List.all_cons,List.all_nil,Bool.and_true]at this
  rw[Lj this];exact h
theorem T.V.of{cs:List AV}{x:t.α}(h:t.R P H cs x): ∃v,Ho t.agg cs=some v∧t.V P H v x:=by
 cases ha:t.agg with
 |true=>exact⟨.agg cs,by simp[Ho], .inl ⟨ha,cs,rfl,h⟩⟩
 |false=>
  have:=t.len h
  rw[t.one ha]at this
  match cs,this with
  |[v],_=>exact⟨v,rfl, .inr ⟨ha,h⟩⟩
theorem T.V.mono{v:AV}{x:t.α}(m: ∀i,P i→Q i∧G[i]? =H[i]?)(h:t.V P H v x):t.V Q G v x:=by
 rcases h with ⟨a,cs,rfl,h⟩|⟨a,h⟩
 ·exact .inl ⟨a,cs,rfl,t.mono m h⟩
 ·exact .inr ⟨a,t.mono m h⟩
theorem T.V.men{v:AV}{x:t.α}{m:Nat}(h:t.V P H v x)(hp: ∀i,P i→i<m):B7 v≤m:=by
 rcases h with ⟨a,cs,rfl,h⟩|⟨a,h⟩
 ·simpa [B7]using t.men h hp
 ·simpa [Bg]using t.men h hp
theorem T.V.frz{v:AV}{x:t.α}{n d:Nat}(h:t.V P H v x)(hd:t.dep≤d)(h20:d+1≤20)(hw:CB (H.take n)≤n)(hp: ∀i,P i→i<n→Q i): ∃v',Am.frz H n (d+1) v=some v'∧t.V Q (H.take n) v' x:=by
 rcases h with ⟨a,cs,rfl,h⟩|⟨a,h⟩
 ·by_cases hm:Bg cs≤n
  ·exact⟨.agg cs,Xr (by simpa [B7]using hm), .inl ⟨a,cs,rfl,t.cut h hm hw hp⟩⟩
  ·obtain⟨cs',e,r⟩:=t.frz h hd (by omega) hw hp
   exact⟨.agg cs',by simp[Am.frz,B7,hm,e], .inl ⟨a,cs',rfl,r⟩⟩
 ·obtain⟨cs',e,r⟩:=t.frz h (show t.dep≤d+1 by omega) h20 hw hp
  simp only[D4]at e
  obtain⟨v',hv,e⟩:=Option.bind_eq_some_iff.1 e
  simp only[Option.map_some,Option.some.injEq]at e
  subst e
  exact⟨v',hv, .inr ⟨a,r⟩⟩
end
def Tm(α:Type)(c:α→AV)(z:α)(hs: ∀x,scal (c x)=true)(hm: ∀x,B7 (c x)=0):T where
 α:=α
 sz:=1
 agg:=false
 dep:=0
 R:=fun _ _ cs x=>cs=[c x]
 zc:=[c z]
 z:=z
 hz:=fun _ _=>rfl
 one:=fun _=>rfl
 len:=fun h=>by rw[h];rfl
 sca:=fun{_ _ _ x} h=>by rw[h];simp[hs x]
 men:=fun{_ _ _ x _} h _=>by rw[h];simp[Bg,hm x]
 mono:=fun _ h=>h
 cut:=fun h _ _ _=>h
 frz:=fun{_ _ _ _ x _ _} h _ _ _ _=>⟨_,by rw[h,NS (by simp[Bg,hm x])],rfl⟩
theorem PN{α:Type}{c:α→AV}{z:α}{hs: ∀x,scal (c x)=true}{hm: ∀x,B7 (c x)=0}{P:Nat→Prop}{H:Av}{v:AV}{x:α}:(Tm α c z hs hm).V P H v x↔v=c x:=by
 constructor
 ·rintro(⟨a,_⟩|⟨_,h⟩)
  ·cases a
  ·exact(List.cons.inj h).1
 ·rintro rfl
  exact .inr ⟨rfl,rfl⟩
def T.b:T:=Tm Bool .b false (fun _=>rfl) (fun _=>rfl)
def T.int(k:IntKind):T:=Tm Int (.i k) 0 (fun _=>rfl) (fun _=>rfl)
def T.u8:T:=Tm UInt8 (fun x=> .i .u8 x.toNat) 0 (fun _=>rfl) (fun _=>rfl)
def T.u16:T:=Tm UInt16 (fun x=> .i .u16 x.toNat) 0 (fun _=>rfl) (fun _=>rfl)
def T.u32:T:=Tm UInt32 (fun x=> .i .u32 x.toNat) 0 (fun _=>rfl) (fun _=>rfl)
def T.u64:T:=Tm UInt64 (fun x=> .i .u64 x.toNat) 0 (fun _=>rfl) (fun _=>rfl)
abbrev AM:=List UInt8
def Ax:T:=Tm AM .s [] (fun _=>rfl) (fun _=>rfl)
def CE(a b:T):T where
 α:=a.α×b.α
 sz:=a.sz+b.sz
 agg:=true
 dep:=max a.dep b.dep
 R:=fun P H cs x=> ∃c d,cs=c++d∧a.R P H c x.1∧b.R P H d x.2
 zc:=a.zc++b.zc
 z:=(a.z,b.z)
 hz:=fun P H=>⟨_,_,rfl,a.hz P H,b.hz P H⟩
 one:=fun h=>by cases h
 len:=fun⟨c,d,e,h,g⟩=>by rw[e,List.length_append,a.len h,b.len g]
 sca:=fun⟨c,d,e,h,g⟩=>by rw[e,List.all_append,a.sca h,b.sca g];rfl
 men:=fun⟨c,d,e,h,g⟩ hp=>by rw[e,Gs];have:=a.men h hp;have:=b.men g hp;omega
 mono:=fun m ⟨c,d,e,h,g⟩=>⟨c,d,e,a.mono m h,b.mono m g⟩
 cut:=fun⟨c,d,e,h,g⟩ hm hw hp=>by
  rw[e,Gs]at hm
  exact⟨c,d,e,a.cut h (by omega) hw hp,b.cut g (by omega) hw hp⟩
 frz:=fun⟨c,d,e,h,g⟩ hd h20 hw hp=>by
  have hd':=Nat.max_le.1 hd
  obtain⟨c',h1,h2⟩:=a.frz h hd'.1 h20 hw hp
  obtain⟨d',g1,g2⟩:=b.frz g hd'.2 h20 hw hp
  exact⟨c'++d',by rw[e,NU h1 g1],c',d',rfl,h2,g2⟩
def OW(t:T)(β:Type)(f:β→t.α)(g:t.α→β)(hfg: ∀y,f (g y)=y):T where
 α:=β
 sz:=t.sz
 agg:=true
 dep:=t.dep
 R:=fun P H cs y=>t.R P H cs (f y)
 zc:=t.zc
 z:=g t.z
 hz:=fun P H=>by rw[hfg];exact t.hz P H
 one:=fun h=>by cases h
 len:=t.len
 sca:=t.sca
 men:=t.men
 mono:=t.mono
 cut:=t.cut
 frz:=t.frz
def CG(t:T)(P:Nat→Prop)(H:Av):List (List AV)→List t.α→Prop
 |[],[]=>True
 |c::r,x::q=>t.R P H c x∧CG t P H r q
 |_,_=>False
section
variable{t:T}{P Q:Nat→Prop}{H G:Av}
theorem CG.length: ∀{l:List (List AV)} {xs:List t.α},CG t P H l xs→l.length=xs.length
 |[],[],_=>rfl
 |_::_,_::_,h=>by simp[CG.length h.2]
theorem CG.lens: ∀{l:List (List AV)} {xs:List t.α},CG t P H l xs→ ∀e∈l,e.length=t.sz
 |[],[],_,e,he=>by cases he
 |c::_,_::_,h,e,he=>by
  rcases List.mem_cons.1 he with rfl|he
  ·exact t.len h.1
  ·exact CG.lens h.2 e he
theorem CG.sca: ∀{l:List (List AV)} {xs:List t.α},CG t P H l xs→l.flatten.all scal=true
 |[],[],_=>rfl
 |c::_,_::_,h=>by rw[List.flatten_cons,List.all_append,t.sca h.1,CG.sca h.2];rfl
theorem NQ: ∀(l:List (List AV)),Bg l.flatten=CJ l
 |[]=>rfl
 |c::l=>by rw[List.flatten_cons,Gs,NQ l,CJ]
theorem CG.men{m:Nat}(hp: ∀i,P i→i<m): ∀{l:List (List AV)} {xs:List t.α},CG t P H l xs→CJ l≤m
 |[],[],_=>by simp[CJ]
 |c::_,_::_,h=>by simp only[CJ];have:=t.men h.1 hp;have:=CG.men hp h.2;omega
theorem CG.mono(m: ∀i,P i→Q i∧G[i]? =H[i]?): ∀{l:List (List AV)} {xs:List t.α},CG t P H l xs→CG t Q G l xs
 |[],[],_=>trivial
 |_::_,_::_,h=>⟨t.mono m h.1,CG.mono m h.2⟩
theorem CG.cut{n:Nat}(hw:CB (H.take n)≤n)(hp: ∀i,P i→i<n→Q i): ∀{l:List (List AV)} {xs:List t.α},CG t P H l xs→CJ l≤n→CG t Q (H.take n) l xs
 |[],[],_,_=>trivial
 |_::_,_::_,h,hm=>by
  simp only[CJ]at hm
  exact⟨t.cut h.1 (by omega) hw hp,CG.cut hw hp h.2 (by omega)⟩
theorem CG.frz{n d:Nat}(hd:t.dep≤d)(h20:d≤20)(hw:CB (H.take n)≤n)(hp: ∀i,P i→i<n→Q i): ∀{l:List (List AV)} {xs:List t.α},CG t P H l xs→ ∃l',D4 (D4 (Am.frz H n d)) l=some l'∧CG t Q (H.take n) l' xs
 |[],[],_=>⟨[],rfl,trivial⟩
 |_::_,_::_,h=>by
  obtain⟨c',e,r⟩:=t.frz h.1 hd h20 hw hp
  obtain⟨l',e',r'⟩:=CG.frz hd h20 hw hp h.2
  exact⟨c'::l',by simp[D4,e,e'],r,r'⟩
theorem CG.get: ∀{l:List (List AV)} {xs:List t.α} {i:Nat} {x:t.α},CG t P H l xs→xs[i]? =some x→ ∃c,l[i]? =some c∧t.R P H c x
 |[],[],_,_,_,h=>by simp at h
 |c::_,y::_,0,x,h,e=>by
  simp only[List.getElem?_cons_zero,Option.some.injEq]at e
  subst e
  exact⟨c,rfl,h.1⟩
 |c::_,y::_,i+1,x,h,e=>by
  simp only[List.getElem?_cons_succ]at e
  obtain⟨c',e',r⟩:=CG.get h.2 e
  exact⟨c',by simpa using e',r⟩
theorem CG.drop: ∀{n:Nat} {l:List (List AV)} {xs:List t.α},CG t P H l xs→CG t P H (l.drop n) (xs.drop n)
 |0,_,_,h=>h
 |_+1,[],[],_=>trivial
 |n+1,_::_,_::_,h=>by simpa using CG.drop (n:=n) h.2
theorem CG.take: ∀{n:Nat} {l:List (List AV)} {xs:List t.α},CG t P H l xs→CG t P H (l.take n) (xs.take n)
 |0,_,_,_=>by simp[CG]
 |_+1,[],[],_=>trivial
 |n+1,_::_,_::_,h=>by simp only[List.take_succ_cons];exact⟨h.1,CG.take (n:=n) h.2⟩
theorem CG.app: ∀{l m:List (List AV)} {xs ys:List t.α},CG t P H l xs→CG t P H m ys→CG t P H (l++m) (xs++ys)
 |[],_,[],_,_,g=>g
 |_::_,_,_::_,_,h,g=>⟨h.1,CG.app h.2 g⟩
theorem CG.set{c:List AV}{y:t.α}(hc:t.R P H c y): ∀{l:List (List AV)} {xs:List t.α} {i:Nat},CG t P H l xs→CG t P H (l.set i c) (xs.set i y)
 |[],[],_,_=>trivial
 |_::_,_::_,0,h=>⟨hc,h.2⟩
 |_::_,_::_,i+1,h=>⟨h.1,CG.set hc (i:=i) h.2⟩
theorem CG.rep{c:List AV}{y:t.α}(hc:t.R P H c y): ∀n,CG t P H (List.replicate n c) (List.replicate n y)
 |0=>trivial
 |n+1=>⟨hc,CG.rep hc n⟩
end
structure Ar(α:Type)(n:Nat) where
 l:List α
 len:l.length=n
theorem Ar.ext{α:Type}{n:Nat}: ∀{a b:Ar α n},a.l=b.l→a=b
 |⟨_,_⟩,⟨_,_⟩,rfl=>rfl
instance {α:Type} {n:Nat} [DecidableEq α]:DecidableEq (Ar α n):=fun a b=>if h:a.l=b.l then isTrue (Ar.ext h)else isFalse fun e=>h (by rw[e])
theorem ZL{sz:Nat}: ∀{l:List (List AV)},(∀e∈l,e.length=sz)→l.flatten.length=l.length*sz
 |[],_=>by simp
 |c::l,h=>by
  rw[List.flatten_cons,List.length_append,h c List.mem_cons_self,ZL fun e he=>h e (List.mem_cons_of_mem _ he),List.length_cons,Nat.succ_mul];omega
theorem WV{α:Type}{F:α→Option α}: ∀{l l':List (List α)},D4 (D4 F) l=some l'→D4 F l.flatten=some l'.flatten
 |[],_,h=>by simp only[D4,Option.some.injEq]at h;subst h;rfl
 |c::l,_,h=>by
  simp only[D4]at h
  obtain⟨c',hc,h⟩:=Option.bind_eq_some_iff.1 h
  obtain⟨l',hl,rfl⟩:=Option.map_eq_some_iff.1 h
  exact NU hc (WV hl)
def Ay(n:Nat)(t:T):T where
 α:=Ar t.α n
 sz:=n*t.sz
 agg:=true
 dep:=t.dep
 R:=fun P H cs x=> ∃css,cs=css.flatten∧CG t P H css x.l
 zc:=(List.replicate n t.zc).flatten
 z:=⟨List.replicate n t.z,by simp⟩
 hz:=fun P H=>⟨_,rfl,CG.rep (t.hz P H) n⟩
 one:=fun h=>by cases h
 len:=fun{_ _ _ x} ⟨css,e,h⟩=>by rw[e,ZL h.lens,h.length,x.len]
 sca:=fun⟨css,e,h⟩=>by rw[e];exact h.sca
 men:=fun⟨css,e,h⟩ hp=>by rw[e,NQ];exact h.men hp
 mono:=fun m ⟨css,e,h⟩=>⟨css,e,h.mono m⟩
 cut:=fun⟨css,e,h⟩ hm hw hp=>⟨css,e,h.cut hw hp (by rwa [e,NQ]at hm)⟩
 frz:=fun⟨css,e,h⟩ hd h20 hw hp=>by
  obtain⟨l',e',r⟩:=h.frz hd h20 hw hp
  exact⟨l'.flatten,by rw[e];exact WV e',l',rfl,r⟩
inductive GS(α:Type) where
 |nil
 |mk (l:List α)
 deriving DecidableEq,Inhabited
def GS.l{α:Type}:GS α→List α
 | .nil=>[]
 | .mk l=>l
def M7(P:Nat→Prop):AV→Prop
 | .sl _ _=>True
 | .orow id _ _ _=>P id
 | .ocel _ id _ _=>P id
 |_=>False
def Tn(t:T)(P:Nat→Prop)(H:Av)(v:AV):GS t.α→Prop
 | .nil=>v= .nils
 | .mk l=>M7 P v∧ ∃els,Eu H t.sz v=some els∧CG t P H els l
theorem NJ{H G:Av}{id:Nat}(h:G[id]? =H[id]?):rowAt G id=rowAt H id:=by simp only[rowAt,h]
theorem Oo{H G:Av}{id:Nat}(h:G[id]? =H[id]?):BX G id=BX H id:=by simp only[BX,h]
section
variable{t:T}{P Q:Nat→Prop}{H G:Av}{v:AV}
theorem tP{sz:Nat}(m: ∀i,P i→Q i∧G[i]? =H[i]?)(h:M7 P v):Eu G sz v=Eu H sz v:=by
 cases v<;>simp only[M7]at h<;>simp only[Eu]
 ·rw[NJ (m _ h).2]
 ·rw[Oo (m _ h).2]
theorem oE(m: ∀i,P i→Q i)(h:M7 P v):M7 Q v:=by
 cases v<;>simp only[M7]at h ⊢
 ·exact m _ h
 ·exact m _ h
theorem Tn.mono(m: ∀i,P i→Q i∧G[i]? =H[i]?): ∀{g:GS t.α},Tn t P H v g→Tn t Q G v g
 | .nil,h=>h
 | .mk _,⟨b,els,e,h⟩=>⟨oE (fun i hi=>(m i hi).1) b,els,by rw[tP m b];exact e,h.mono m⟩
theorem Tn.sca: ∀{g:GS t.α},Tn t P H v g→scal v=true
 | .nil,h=>by rw[show v=_ from h];rfl
 | .mk _,⟨b,_,_,_⟩=>by cases v<;>simp only[M7]at b<;>rfl
theorem Tn.men{m:Nat}(hp: ∀i,P i→i<m): ∀{g:GS t.α},Tn t P H v g→B7 v≤m
 | .nil,h=>by rw[show v=_ from h];simp[B7]
 | .mk _,⟨b,els,e,h⟩=>by
  cases v<;>simp only[M7]at b
  ·simp only[Eu]at e
   split at e
   ·simp only[Option.some.injEq]at e
    subst e
    simpa [B7]using h.men hp
   ·cases e
  ·simp only[B7];exact hp _ b
  ·simp only[B7];exact hp _ b
theorem Ru{n id:Nat}(h:id<n):rowAt (H.take n) id=rowAt H id:=by
 simp only[rowAt];rw[List.getElem?_take];simp[h]
theorem Om{n id:Nat}(h:id<n):BX (H.take n) id=BX H id:=by
 simp only[BX];rw[List.getElem?_take];simp[h]
theorem ZC: ∀{l:Av} {o:BF},o∈l→Ej o≤CB l:=by
 intro l
 induction l with
 |nil=>intro o h;cases h
 |cons x l ih=>
  intro o h
  simp only[CB]
  rcases List.mem_cons.1 h with e|h
  ·subst e;omega
  ·have:=ih h;omega
theorem U9: ∀(l:List (List AV)) (i:Nat),CJ (l.drop i)≤CJ l
 |[],i=>by simp
 |x::l,0=>by simp
 |x::l,i+1=>by simp only[List.drop_succ_cons,CJ];have:=U9 l i;omega
theorem U8: ∀(l:List (List AV)) (i:Nat),CJ (l.take i)≤CJ l
 |[],i=>by simp
 |x::l,0=>by simp[CJ]
 |x::l,i+1=>by simp only[List.take_succ_cons,CJ];have:=U8 l i;omega
theorem IJ: ∀(l:List AV) (i:Nat),Bg (l.drop i)≤Bg l
 |[],i=>by simp
 |x::l,0=>by simp
 |x::l,i+1=>by simp only[List.drop_succ_cons,Bg];have:=IJ l i;omega
theorem Kx: ∀(l:List AV) (i:Nat),Bg (l.take i)≤Bg l
 |[],i=>by simp
 |x::l,0=>by simp[Bg]
 |x::l,i+1=>by simp only[List.take_succ_cons,Bg];have:=Kx l i;omega
theorem P4(sz:Nat): ∀(n:Nat) (l:List AV),CJ (BP sz n l)≤Bg l
 |0,_=>by simp[BP,CJ]
 |n+1,l=>by
  simp only[BP,CJ]
  have h1:=Kx l sz
  have h2:=P4 sz n (l.drop sz)
  have h3:=IJ l sz
  omega
theorem WE{n id:Nat}{r:Bool×Nat×List (List AV)}(hw:CB (H.take n)≤n)(h:id<n)(e:rowAt H id=some r):CJ r.2.2≤n:=by
 rw[←Ru h]at e
 simp only[rowAt]at e
 split at e
 ·rename_i fz sz els he
  cases e
  exact Nat.le_trans (ZC (List.mem_of_getElem? he)) hw
 ·cases e
theorem SW{n id:Nat}{cs:List AV}(hw:CB (H.take n)≤n)(h:id<n)(e:BX H id=some cs):Bg cs≤n:=by
 rw[←Om h]at e
 simp only[BX]at e
 split at e
 ·rename_i els he
  cases e
  exact Nat.le_trans (ZC (List.mem_of_getElem? he)) hw
 ·cases e
theorem Tn.cut{n:Nat}(hw:CB (H.take n)≤n)(hp: ∀i,P i→i<n→Q i)(hm:B7 v≤n): ∀{g:GS t.α},Tn t P H v g→Tn t Q (H.take n) v g
 | .nil,h=>h
 | .mk _,⟨b,els,e,h⟩=>by
  cases v<;>simp only[M7]at b
  ·rename_i sz' els'
   refine⟨trivial,els,e,h.cut hw hp ?_⟩
   simp only[Eu]at e
   split at e
   ·simp only[Option.some.injEq]at e
    subst e
    simpa [B7]using hm
   ·cases e
  ·rename_i id k lo len
   simp only[B7]at hm
   refine⟨hp _ b (by omega),els,?_,h.cut hw hp ?_⟩
   ·simp only[Eu]at e ⊢
    rw[Ru (by omega)];exact e
   ·simp only[Eu]at e
    obtain⟨r,hr,e⟩:=Option.bind_eq_some_iff.1 e
    split at e
    ·simp only[Option.some.injEq]at e
     subst e
     exact Nat.le_trans (U8 _ _) (Nat.le_trans (U9 _ _) (WE hw (by omega) hr))
    ·cases e
  ·rename_i sz' id off len
   simp only[B7]at hm
   refine⟨hp _ b (by omega),els,?_,h.cut hw hp ?_⟩
   ·simp only[Eu]at e ⊢
    rw[Om (by omega)];exact e
   ·simp only[Eu]at e
    obtain⟨r,hr,e⟩:=Option.bind_eq_some_iff.1 e
    split at e
    ·simp only[Option.some.injEq]at e
     subst e
     exact Nat.le_trans (P4 _ _ _) (Nat.le_trans (IJ _ _) (SW hw (by omega) hr))
    ·cases e
theorem Tn.frz{n d:Nat}(hd:t.dep≤d)(h20:d≤20)(hw:CB (H.take n)≤n)(hp: ∀i,P i→i<n→Q i){g:GS t.α}(h:Tn t P H v g): ∃v',Am.frz H n (d+1) v=some v'∧Tn t Q (H.take n) v' g:=by
 by_cases hm:B7 v≤n
 ·exact⟨v,Xr hm,h.cut hw hp hm⟩
 ·cases g with
  |nil=>rw[show v=_ from h]at hm;simp[B7]at hm
  |mk l=>
   obtain⟨b,els,e,h⟩:=h
   obtain⟨els',e',r⟩:=h.frz hd h20 hw hp
   refine⟨.sl t.sz els',?_,trivial,els',by simp[Eu],r⟩
   cases v<;>simp only[M7]at b
   ·rename_i sz' els0
    simp only[Eu]at e
    split at e
    ·rename_i hsz
     simp only[Option.some.injEq]at e
     subst e
     subst hsz
     simp only[Am.frz,if_neg hm,e',Option.map_some]
    ·cases e
   ·rename_i id k lo len
    simp only[Eu]at e
    obtain⟨r0,hr,e⟩:=Option.bind_eq_some_iff.1 e
    split at e
    ·rename_i hc
     simp only[Option.some.injEq]at e
     subst e
     simp only[Am.frz,if_neg hm,hr,Option.bind_some,if_pos (show k=r0.2.2.length∧lo+len≤k from⟨hc.1,hc.2.2⟩),e',Option.map_some,hc.2.1]
    ·cases e
   ·rename_i sz' id off len
    simp only[Eu]at e
    obtain⟨r0,hr,e⟩:=Option.bind_eq_some_iff.1 e
    split at e
    ·rename_i hc
     have he:some (BP t.sz len (r0.drop off))=some els:=e
     simp only[Option.some.injEq]at he
     subst he
     obtain⟨rfl,hc⟩:=hc
     simp only[Am.frz,if_neg hm,hr,Option.bind_some,if_pos hc,e',Option.map_some]
    ·cases e
end
def T.sl(t:T):T where
 α:=GS t.α
 sz:=1
 agg:=false
 dep:=t.dep+1
 R:=fun P H cs g=> ∃v,cs=[v]∧Tn t P H v g
 zc:=[.nils]
 z:= .nil
 hz:=fun _ _=>⟨_,rfl,rfl⟩
 one:=fun _=>rfl
 len:=fun⟨v,e,_⟩=>by rw[e];rfl
 sca:=fun⟨v,e,h⟩=>by rw[e];simp[h.sca]
 men:=fun⟨v,e,h⟩ hp=>by rw[e];simpa [Bg]using h.men hp
 mono:=fun m ⟨v,e,h⟩=>⟨v,e,h.mono m⟩
 cut:=fun⟨v,e,h⟩ hm hw hp=>⟨v,e,h.cut hw hp (by rw[e]at hm;simpa [Bg]using hm)⟩
 frz:=fun{_ _ _ _ _ _ d} ⟨v,e,h⟩ hd h20 hw hp=>by
  obtain⟨d,rfl⟩: ∃k,d=k+1:=⟨d-1,by omega⟩
  obtain⟨v',e',r⟩:=h.frz (d:=d) (by omega) (by omega) hw hp
  exact⟨[v'],by rw[e];simp[D4,e'],v',rfl,r⟩
theorem JU{t:T}{P:Nat→Prop}{H:Av}{v:AV}{g:GS t.α}:(T.sl t).V P H v g↔Tn t P H v g:=by
 constructor
 ·rintro(⟨a,_⟩|⟨_,w,h,r⟩)
  ·cases a
  ·cases h;exact r
 ·intro h
  exact .inr ⟨rfl,v,rfl,h⟩
end Go.Proofs.YtobejhpigbllpaaGreatDoor.Am
namespace Go.Proofs.YtobejhpigbllpaaGreatDoor.Am
inductive AK:Type 1 where
 |val (t:T) (x:t.α)
 |rp (t:T) (x:t.α)
 |cp (j off:Nat)
 |own (j:Nat)
 |ep (j i off:Nat)
 |tup (l:List (Σ t:T,t.α))
 |junk
 |con (v:AV)
 |kv (j:Nat)
 |fnv (f:Fn) (js ks:List Nat)
 |aggk (js:List Nat)
 |tupk (js:List Nat)
 |oc (j off sz len:Nat)
structure Dom where
 α:Type
 R:(Nat→Prop)→(Nat→Prop)→Av→AV→α→Prop
 lt: ∀{F P:Nat→Prop} {H:Av} {v:AV} {x:α},R F P H v x→ ∀i,F i→i<H.length
 men: ∀{F P:Nat→Prop} {H:Av} {v:AV} {x:α} {m:Nat},R F P H v x→(∀i,P i→i<m)→(∀i,F i→i<m)→B7 v≤m
 mono: ∀{F P Q:Nat→Prop} {H G:Av} {v:AV} {x:α},(∀i,P i→Q i∧G[i]? =H[i]?)→(∀i,F i→G[i]? =H[i]?)→R F P H v x→R F Q G v x
inductive CY:Type 1 where
 |gone
 |cells (ps:List (Nat×AK))
 |row (t:T) (g:GS t.α)
 |dom (D:Dom) (x:D.α)
 |keep (φ:AK)
 |ghost (φ:AK)
 |rowk (sz:Nat) (els:List (List Nat))
abbrev Ts:=List (Nat×AK)
abbrev Ss:=List (Nat×CY)
structure Cx:Type 1 where
 ts:Ts
 ss:Ss
def BB:Ts→Nat→Option AK
 |[],_=>none
 |(u,φ)::r,t=>if u=t then some φ else BB r t
def AG:Ss→Nat→Option CY
 |[],_=>none
 |(u,φ)::r,t=>if u=t then some φ else AG r t
def xV:Option CY→Prop
 |none=>False
 |some .gone=>False
 |some (.ghost _)=>False
 |some _=>True
def D5:Option CY→Bool
 |some (.keep _)=>true
 |_=>false
def AZ(ss:Ss)(j:Nat):Prop:=xV (AG ss j)
structure Ph where
 h:Av
 P0:Nat→Prop
 K:Nat→Prop
 lt: ∀i,P0 i→i<h.length
 pk: ∀i,P0 i→K i
 g:Nat→AV
abbrev Fp:=Nat→Nat→Prop
def cG:Nat:=1000000
def Pf(E:Ph)(ss:Ss)(fp:Fp)(H:Av)(i:Nat):Prop:=
 (i<E.h.length∧E.P0 i)∨(E.h.length≤i∧i<H.length∧ ∀j,AZ ss j→ ¬fp j i)
def Vn(P:Nat→Prop):AV→Prop
 | .ptr id _=>P id
 | .pe id _ _ _=>P id
 | .ip _ _=>True
 |_=>False
def Zh(t:T)(P:Nat→Prop)(H:Av)(v:AV)(x:t.α):Prop:=
 Vn P v∧ ∃cs off,place H v=some (cs,off)∧off+t.sz≤cs.length∧t.R P H (sub cs off t.sz) x∧(∀m,(∀i,P i→i<m)→B7 v≤m)
def VL(P:Nat→Prop)(H:Av):List AV→List (Σ t:T,t.α)→Prop
 |[],[]=>True
 |v::r,p::q=>p.1.V P H v p.2∧VL P H r q
 |_,_=>False
def Np(ss:Ss)(l:List Nat):Prop:= ∀j∈l,D5 (AG ss j)=true
def FR(rv:Nat→AV)(ss:Ss)(P:Nat→Prop)(H:Av):AK→AV→Prop
 | .val t x,v=>t.V P H v x
 | .rp t x,v=>Zh t P H v x
 | .cp j off,v=>AZ ss j∧ ∃id,rv j= .ptr id 0∧v= .ptr id off
 | .own j,v=>AZ ss j∧v=rv j
 | .ep j i off,v=>AZ ss j∧ ∃id n,rv j= .orow id n 0 n∧i<n∧v= .pe id n i off
 | .tup l,v=> ∃vs,v= .tup vs∧VL P H vs l
 | .junk,_=>True
 | .con c,v=>v=c∧B7 c=0∧scal c=true
 | .kv j,v=>Np ss [j]∧v=rv j
 | .fnv f js ks,v=>Np ss (js++ks)∧v= .fn f (js.map rv) (ks.map rv)
 | .aggk js,v=>Np ss js∧v= .agg (js.flatMap fun j=>cellsOf (rv j))
 | .tupk js,v=>Np ss js∧v= .tup (js.map rv)
 | .oc j off sz len,v=>AZ ss j∧ ∃id,rv j= .ptr id 0∧v= .ocel sz id off len
def FC(rv:Nat→AV)(ss:Ss)(P:Nat→Prop)(H:Av):AK→List AV→Prop
 | .val t x,c=>t.R P H c x
 | .tup _,_=>False
 | .junk,c=>Bg c≤H.length
 |φ,c=> ∃v,c=[v]∧FR rv ss P H φ v
def PR(rv:Nat→AV)(ss:Ss)(P:Nat→Prop)(H:Av):List (Nat×AK)→List AV→Prop
 |[],cs=>cs=[]
 |(n,φ)::r,cs=> ∃c d,cs=c++d∧c.length=n∧FC rv ss P H φ c∧PR rv ss P H r d
def SR(rv:Nat→AV)(fp:Fp)(ss:Ss)(P:Nat→Prop)(H:Av)(j:Nat):CY→Prop
 | .gone=>True
 | .cells ps=> ∃id cs,rv j= .ptr id 0∧(∀i,fp j i↔i=id)∧BX H id=some cs∧PR rv ss P H ps cs
 | .row t .nil=>rv j= .nils∧ ∀i,¬fp j i
 | .row t (.mk l)=> ∃id els,rv j= .orow id els.length 0 els.length∧(∀i,fp j i↔i=id)∧rowAt H id=some (false,t.sz,els)∧CG t P H els l
 | .dom D x=>D.R (fp j) P H (rv j) x
 | .keep φ=>FR rv ss P H φ (rv j)∧ ∀i,¬fp j i
 | .ghost _=>True
 | .rowk sz els=>Np ss els.flatten∧ ∃id,rv j= .orow id els.length 0 els.length∧(∀i,fp j i↔i=id)∧rowAt H id=some (false,sz,els.map fun js=>js.flatMap fun j=>cellsOf (rv j))
structure Bo(E:Ph)(Γ:Cx)(rv:Nat→AV)(fp:Fp)(f:Fr)(H:Av):Prop where
 le:E.h.length≤H.length
 base: ∀i,i<E.h.length→E.K i→H[i]? =E.h[i]?
 wf:CB H≤H.length
 fplt: ∀j i,AZ Γ.ss j→fp j i→i<H.length∧(i<E.h.length→ ¬E.K i∧cG≤j)
 rvlt: ∀j,AZ Γ.ss j→B7 (rv j)≤H.length
 scal: ∀j,AZ Γ.ss j→D5 (AG Γ.ss j)=true∨scal (rv j)=true
 inj: ∀j k i,AZ Γ.ss j→AZ Γ.ss k→fp j i→fp k i→j=k
 slots: ∀j S,AG Γ.ss j=some S→SR rv fp Γ.ss (Pf E Γ.ss fp H) H j S
 temps: ∀t φ,BB Γ.ts t=some φ→FR rv Γ.ss (Pf E Γ.ss fp H) H φ (get f t)
 gh: ∀j φ,AG Γ.ss j=some (.ghost φ)→FR rv Γ.ss (Pf E Γ.ss fp H) H φ (E.g j)
def Rel(E:Ph)(Γ:Cx)(f:Fr)(H:Av):Prop:= ∃rv fp,Bo E Γ rv fp f H
theorem Pf.lt{E:Ph}{ss:Ss}{fp:Fp}{H:Av}(le:E.h.length≤H.length){i:Nat}(h:Pf E ss fp H i):i<H.length:=by
 rcases h with h|h
 ·omega
 ·exact h.2.1
section
variable{rv rv':Nat→AV}{fp fp':Fp}{ss ss':Ss}{P Q:Nat→Prop}{H G:Av}
theorem VL.mono(m: ∀i,P i→Q i∧G[i]? =H[i]?): ∀{vs:List AV} {l:List (Σ t:T,t.α)},VL P H vs l→VL Q G vs l
 |[],[],_=>trivial
 |_::_,_::_,h=>⟨h.1.mono m,VL.mono m h.2⟩
theorem lW{v:AV}(m: ∀i,P i→Q i∧G[i]? =H[i]?)(h:Vn P v):place G v=place H v:=by
 cases v<;>simp only[Vn]at h<;>simp only[place]
 ·rw[Oo (m _ h).2]
 ·rw[NJ (m _ h).2]
theorem rT{v:AV}(m: ∀i,P i→Q i)(h:Vn P v):Vn Q v:=by
 cases v<;>simp only[Vn]at h ⊢
 ·exact m _ h
 ·exact m _ h
theorem Zh.mono{t:T}{v:AV}{x:t.α}(m: ∀i,P i→Q i∧G[i]? =H[i]?)(h:Zh t P H v x):Zh t Q G v x:=by
 obtain⟨hp,cs,off,e,l,r,hm⟩:=h
 exact⟨rT (fun i hi=>(m i hi).1) hp,cs,off,by rw[lW m hp];exact e,l,t.mono m r,fun k hk=>hm k fun i hi=>hk i (m i hi).1⟩
def Ew(j:Nat):AK→Prop
 | .cp k _=>k≠j
 | .oc k _ _ _=>k≠j
 | .own k=>k≠j
 | .ep k _ _=>k≠j
 | .kv k=>k≠j
 | .fnv _ js ks=>j∉js++ks
 | .aggk js=>j∉js
 | .tupk js=>j∉js
 |_=>True
def Uv(rv rv':Nat→AV)(ss ss':Ss)(φ:AK):Prop:= ∀j,¬Ew j φ→AZ ss j→(AZ ss' j∧(D5 (AG ss j)=true→D5 (AG ss' j)=true))∧rv' j=rv j
theorem Lz{ss:Ss}{j:Nat}(h:D5 (AG ss j)=true):AZ ss j:=by
 simp only[AZ]
 cases e:AG ss j with
 |none=>rw[e]at h;cases h
 |some S=>rw[e]at h;cases S<;>simp only[D5,Bool.false_eq_true]at h<;>trivial
theorem JM{ss ss':Ss}{l:List Nat}(h:Np ss l)(s: ∀j∈l,AZ ss j→(AZ ss' j∧(D5 (AG ss j)=true→D5 (AG ss' j)=true))∧rv' j=rv j):Np ss' l∧l.map rv'=l.map rv∧(l.flatMap fun j=>cellsOf (rv' j))=l.flatMap fun j=>cellsOf (rv j):=by
 induction l with
 |nil=>exact⟨fun j hj=>(by cases hj),rfl,rfl⟩
 |cons k l ih=>
  obtain⟨h1,h2,h3⟩:=ih (fun j hj=>h j (List.mem_cons_of_mem _ hj)) (fun j hj=>s j (List.mem_cons_of_mem _ hj))
  have hk:=h k List.mem_cons_self
  obtain⟨⟨_,a⟩,b⟩:=s k List.mem_cons_self (Lz hk)
  refine⟨fun j hj=> ?_,by simp only[List.map_cons,b,h2],by simp only[List.flatMap_cons,b,h3]⟩
  rcases List.mem_cons.1 hj with rfl|hj
  ·exact a hk
  ·exact h1 j hj
theorem FR.mono{φ:AK}{v:AV}(m: ∀i,P i→Q i∧G[i]? =H[i]?)(s:Uv rv rv' ss ss' φ)(h:FR rv ss P H φ v):FR rv' ss' Q G φ v:=by
 cases φ with
 |val t x=>exact T.V.mono m h
 |rp t x=>exact Zh.mono m h
 |cp j off=>
  obtain⟨l,id,e,hv⟩:=h
  obtain⟨⟨l',_⟩,e'⟩:=s j (by simp[Ew]) l
  exact⟨l',id,e'.trans e,hv⟩
 |oc j off sz len=>
  obtain⟨l,id,e,hv⟩:=h
  obtain⟨⟨l',_⟩,e'⟩:=s j (by simp[Ew]) l
  exact⟨l',id,e'.trans e,hv⟩
 |own j=>
  obtain⟨l,h⟩:=h
  obtain⟨⟨l',_⟩,e'⟩:=s j (by simp[Ew]) l
  exact⟨l',h.trans e'.symm⟩
 |ep j i off=>
  obtain⟨l,id,n,e,hi,hv⟩:=h
  obtain⟨⟨l',_⟩,e'⟩:=s j (by simp[Ew]) l
  exact⟨l',id,n,e'.trans e,hi,hv⟩
 |tup l=>
  obtain⟨vs,e,h⟩:=h
  exact⟨vs,e,h.mono m⟩
 |junk=>trivial
 |con c=>exact h
 |kv j=>
  obtain⟨h1,h2⟩:=h
  obtain⟨a,b,c⟩:=JM (rv:=rv) (rv':=rv') (ss':=ss') h1 fun k hk=>by
   obtain rfl:=List.mem_singleton.1 hk
   exact s k (by simp[Ew])
  exact⟨a,h2.trans (by simpa using b.symm)⟩
 |fnv f js ks=>
  obtain⟨h1,h2⟩:=h
  obtain⟨a,b,c⟩:=JM (rv:=rv) (rv':=rv') (ss':=ss') h1 fun k hk=>s k (fun hn=>hn hk)
  have hj:js.map rv'=js.map rv∧ks.map rv'=ks.map rv:=by
   rw[List.map_append,List.map_append]at b
   exact List.append_inj b (by simp)
  exact⟨a,by rw[h2,hj.1,hj.2]⟩
 |aggk js=>
  obtain⟨h1,h2⟩:=h
  obtain⟨a,b,c⟩:=JM (rv:=rv) (rv':=rv') (ss':=ss') h1 fun k hk=>s k (fun hn=>hn hk)
  exact⟨a,by rw[h2,c]⟩
 |tupk js=>
  obtain⟨h1,h2⟩:=h
  obtain⟨a,b,c⟩:=JM (rv:=rv) (rv':=rv') (ss':=ss') h1 fun k hk=>s k (fun hn=>hn hk)
  exact⟨a,by rw[h2,b]⟩
theorem FC.mono{φ:AK}{c:List AV}(m: ∀i,P i→Q i∧G[i]? =H[i]?)(hl:H.length≤G.length)(s:Uv rv rv' ss ss' φ)(h:FC rv ss P H φ c):FC rv' ss' Q G φ c:=by
 cases φ with
 |val t x=>exact t.mono m h
 |rp t x=>obtain⟨v,e,h⟩:=h;exact⟨v,e,FR.mono m s h⟩
 |cp j off=>obtain⟨v,e,h⟩:=h;exact⟨v,e,FR.mono m s h⟩
 |oc j off sz len=>obtain⟨v,e,h⟩:=h;exact⟨v,e,FR.mono m s h⟩
 |own j=>obtain⟨v,e,h⟩:=h;exact⟨v,e,FR.mono m s h⟩
 |ep j i off=>obtain⟨v,e,h⟩:=h;exact⟨v,e,FR.mono m s h⟩
 |tup l=>exact h
 |junk=>exact Nat.le_trans h hl
 |con c=>obtain⟨v,e,h⟩:=h;exact⟨v,e,FR.mono m s h⟩
 |kv j=>obtain⟨v,e,h⟩:=h;exact⟨v,e,FR.mono m s h⟩
 |fnv f js ks=>obtain⟨v,e,h⟩:=h;exact⟨v,e,FR.mono m s h⟩
 |aggk js=>obtain⟨v,e,h⟩:=h;exact⟨v,e,FR.mono m s h⟩
 |tupk js=>obtain⟨v,e,h⟩:=h;exact⟨v,e,FR.mono m s h⟩
theorem PR.mono(m: ∀i,P i→Q i∧G[i]? =H[i]?)(hl:H.length≤G.length): ∀{ps:List (Nat×AK)} {cs:List AV},(∀p∈ps,Uv rv rv' ss ss' p.2)→PR rv ss P H ps cs→PR rv' ss' Q G ps cs
 |[],_,_,h=>h
 |(n,φ)::r,cs,s,⟨c,d,e,l,h,g⟩=>⟨c,d,e,l,FC.mono m hl (s _ List.mem_cons_self) h,PR.mono m hl (fun p hp=>s p (List.mem_cons_of_mem _ hp)) g⟩
theorem VL.men{n:Nat}(hp: ∀i,P i→i<n): ∀{vs:List AV} {l:List (Σ t:T,t.α)},VL P H vs l→Bg vs≤n
 |[],[],_=>by simp[Bg]
 |_::_,_::_,h=>by simp only[Bg];have:=h.1.men hp;have:=VL.men hp h.2;omega
theorem gS(v:AV):Bg (cellsOf v)≤B7 v:=by
 cases v<;>simp[cellsOf,Bg,B7]
theorem No{n:Nat}(hi: ∀j,AZ ss j→B7 (rv j)≤n): ∀{l:List Nat},Np ss l→Bg (l.map rv)≤n∧Bg (l.flatMap fun j=>cellsOf (rv j))≤n
 |[],_=>by simp[Bg]
 |k::l,h=>by
  obtain⟨h1,h2⟩:=No hi (l:=l) fun j hj=>h j (List.mem_cons_of_mem _ hj)
  have h3:=hi k (Lz (h k List.mem_cons_self))
  have h4:=gS (rv k)
  simp only[List.map_cons,Bg,List.flatMap_cons,Gs]
  omega
theorem FR.men{φ:AK}{v:AV}{n:Nat}(hp: ∀i,P i→i<n)(hi: ∀j,AZ ss j→B7 (rv j)≤n)(hj:φ≠ .junk)(h:FR rv ss P H φ v):B7 v≤n:=by
 cases φ with
 |val t x=>exact T.V.men h hp
 |rp t x=>exact h.2.choose_spec.choose_spec.2.2.2 n hp
 |cp j off=>obtain⟨l,id,e,rfl⟩:=h;have:=hi j l;rw[e]at this;simpa [B7]using this
 |oc j off sz len=>obtain⟨l,id,e,rfl⟩:=h;have:=hi j l;rw[e]at this;simpa [B7]using this
 |own j=>obtain⟨l,rfl⟩:=h;exact hi j l
 |ep j i off=>obtain⟨l,id,m,e,_,rfl⟩:=h;have:=hi j l;rw[e]at this;simpa [B7]using this
 |tup l=>obtain⟨vs,rfl,h⟩:=h;simpa [B7]using h.men hp
 |junk=>exact absurd rfl hj
 |con c=>obtain⟨rfl,h,_⟩:=h;omega
 |kv j=>obtain⟨h,rfl⟩:=h;exact hi j (Lz (h j (by simp)))
 |fnv f js ks=>
  obtain⟨h,rfl⟩:=h
  have h1:=(No hi (l:=js) fun j hj=>h j (by simp[hj])).1
  have h2:=(No hi (l:=ks) fun j hj=>h j (by simp[hj])).1
  simp only[B7];omega
 |aggk js=>obtain⟨h,rfl⟩:=h;simpa [B7]using (No hi h).2
 |tupk js=>obtain⟨h,rfl⟩:=h;simpa [B7]using (No hi h).1
theorem FC.men{φ:AK}{c:List AV}(hp: ∀i,P i→i<H.length)(hi: ∀j,AZ ss j→B7 (rv j)≤H.length)(h:FC rv ss P H φ c):Bg c≤H.length:=by
 have one: ∀{ψ:AK},ψ≠ .junk→(∃v,c=[v]∧FR rv ss P H ψ v)→Bg c≤H.length:=by
  rintro ψ hj ⟨v,rfl,h'⟩
  simpa [Bg]using FR.men hp hi hj h'
 cases φ with
 |val t x=>exact t.men h hp
 |tup l=>exact h.elim
 |junk=>exact h
 |rp t x=>exact one (by simp) h
 |cp j off=>exact one (by simp) h
 |oc j off sz len=>exact one (by simp) h
 |own j=>exact one (by simp) h
 |ep j i off=>exact one (by simp) h
 |con c=>exact one (by simp) h
 |kv j=>exact one (by simp) h
 |fnv f js ks=>exact one (by simp) h
 |aggk js=>exact one (by simp) h
 |tupk js=>exact one (by simp) h
theorem PR.men(hp: ∀i,P i→i<H.length)(hi: ∀j,AZ ss j→B7 (rv j)≤H.length): ∀{ps:List (Nat×AK)} {cs:List AV},PR rv ss P H ps cs→Bg cs≤H.length
 |[],_,h=>by rw[show _=[]from h];simp[Bg]
 |(n,φ)::r,cs,⟨c,d,e,l,h,g⟩=>by
  rw[e,Gs]
  have:=FC.men hp hi h
  have:=PR.men hp hi g
  omega
def U0:List (Nat×AK)→Nat
 |[]=>0
 |(n,_)::r=>n+U0 r
theorem PR.length: ∀{ps:List (Nat×AK)} {cs:List AV},PR rv ss P H ps cs→cs.length=U0 ps
 |[],_,h=>by rw[show _=[]from h];rfl
 |(n,φ)::r,cs,⟨c,d,e,l,h,g⟩=>by rw[e,List.length_append,l,PR.length g];rfl
theorem SR.keep{k:Nat}{S:CY}(h:SR rv fp ss P H k S)(hrv:rv' k=rv k)(hfp:fp' k=fp k)(m: ∀i,P i→Q i∧G[i]? =H[i]?)(hl:H.length≤G.length)
  (hg: ∀i,fp k i→G[i]? =H[i]?) (hs: ∀ps,S= .cells ps→ ∀p∈ps,Uv rv rv' ss ss' p.2) (hsk: ∀φ,S= .keep φ→Uv rv rv' ss ss' φ) (hse: ∀sz els,S= .rowk sz els→Uv rv rv' ss ss' (.aggk els.flatten)):SR rv' fp' ss' Q G k S:=by
 cases S with
 |rowk sz els=>
  obtain⟨h0,id,h1,h2,h3⟩:=h
  have hs:=hse sz els rfl
  have h4:=(JM (rv:=rv) (rv':=rv') (ss':=ss') h0 fun j hj=>hs j (fun hn=>hn hj)).1
  have h5:(els.map fun js=>js.flatMap fun j=>cellsOf (rv' j))=els.map fun js=>js.flatMap fun j=>cellsOf (rv j):=by
   apply List.map_congr_left
   intro js hjs
   exact(JM (rv:=rv) (rv':=rv') (ss':=ss') (fun j hj=>h0 j (List.mem_flatten.2 ⟨js,hjs,hj⟩)) fun j hj=>hs j (fun hn=>hn (List.mem_flatten.2 ⟨js,hjs,hj⟩))).2.2
  exact⟨h4,id,hrv.trans h1,by rw[hfp];exact h2,by rw[h5,NJ (hg id ((h2 id).2 rfl))];exact h3⟩
 |gone=>trivial
 |ghost φ=>trivial
 |keep φ=>
  obtain⟨h1,h2⟩:=h
  exact⟨by rw[hrv];exact FR.mono m (hsk φ rfl) h1,by rw[hfp];exact h2⟩
 |cells ps=>
  obtain⟨id,cs,h1,h0,h2,h3⟩:=h
  exact⟨id,cs,hrv.trans h1,by rw[hfp];exact h0,by rw[Oo (hg id ((h0 id).2 rfl))];exact h2,h3.mono m hl (hs ps rfl)⟩
 |row t g=>
  cases g with
  |nil=>exact⟨hrv.trans h.1,by rw[hfp];exact h.2⟩
  |mk l=>
   obtain⟨id,els,h1,h0,h2,h3⟩:=h
   exact⟨id,els,hrv.trans h1,by rw[hfp];exact h0,by rw[NJ (hg id ((h0 id).2 rfl))];exact h2,h3.mono m⟩
 |dom D x=>
  show D.R _ _ _ _ _
  rw[hrv,hfp]
  exact D.mono m hg h
end
def Cx.push(Γ:Cx)(d:Nat)(φ:AK):Cx:=⟨(d,φ)::Γ.ts,Γ.ss⟩
def Cx.all(Γ:Cx)(p:AK→Prop):Prop:=(∀t φ,BB Γ.ts t=some φ→p φ)∧(∀k ps,AG Γ.ss k=some (.cells ps)→ ∀q∈ps,p q.2)∧(∀k φ,(AG Γ.ss k=some (.keep φ)∨AG Γ.ss k=some (.ghost φ))→p φ)∧ ∀k sz els,AG Γ.ss k=some (.rowk sz els)→p (.aggk els.flatten)
theorem TQ{ss:Ss}{j k:Nat}{S:CY}(hk:k≠j):AZ ((j,S)::ss) k↔AZ ss k:=by simp only[AZ,AG,if_neg (Ne.symm hk)]
def QW:CY→Bool
 | .gone=>true
 | .ghost _=>true
 |_=>false
theorem sL{ss:Ss}{j:Nat}{S:CY}(hS:QW S=false):AZ ((j,S)::ss) j:=by
 simp only[AZ,AG,if_true]
 cases S<;>first|(simp[QW]at hS;done)|trivial
theorem La{ss:Ss}{j:Nat}{S:CY}(h:AG ss j=some S)(hS:QW S=false):AZ ss j:=by
 simp only[AZ,h]
 cases S<;>first|(simp[QW]at hS;done)|trivial
theorem Hy{ss:Ss}{j:Nat}(h:AG ss j=none): ¬AZ ss j:=by simp only[AZ,h];exact fun l=>l
theorem Qh(a b:Av):CB (a++b)=max (CB a) (CB b):=by
 induction a with
 |nil=>simp[CB]
 |cons x a ih=>simp only[List.cons_append,CB,ih];omega
theorem Hx{o:BF}{m:Nat}: ∀{l:Av} {i:Nat},CB l≤m→Ej o≤m→CB (l.set i o)≤m
 |[],i,h1,h2=>by simpa using h1
 |x::l,0,h1,h2=>by simp only[List.set_cons_zero,CB]at h1 ⊢;omega
 |x::l,i+1,h1,h2=>by
  simp only[List.set_cons_succ,CB]at h1 ⊢
  have:=Hx (l:=l) (i:=i) (o:=o) (m:=m) (by omega) h2
  omega
section
variable{E:Ph}{Γ:Cx}{rv:Nat→AV}{fp:Fp}{f:Fr}{H:Av}
theorem Bo.ltP(I:Bo E Γ rv fp f H): ∀i,Pf E Γ.ss fp H i→i<H.length:=fun _ h=>h.lt I.le
theorem Bo.push(I:Bo E Γ rv fp f H){d:Nat}{φ:AK}{v:AV}(h:FR rv Γ.ss (Pf E Γ.ss fp H) H φ v):Bo E (Γ.push d φ) rv fp (put f (some d) v) H:=by
 refine⟨I.le,I.base,I.wf,I.fplt,I.rvlt,I.scal,I.inj,I.slots,?_,I.gh⟩
 intro t ψ e
 simp only[Cx.push,BB]at e
 simp only[put,get]
 split at e
 ·rename_i hd
  rw[if_pos hd]
  cases e
  exact h
 ·rename_i hd
  rw[if_neg hd]
  exact I.temps t ψ e
theorem Bo.fr(I:Bo E Γ rv fp f H){f':Fr}(h: ∀t φ,BB Γ.ts t=some φ→get f' t=get f t):Bo E Γ rv fp f' H:=
 ⟨I.le,I.base,I.wf,I.fplt,I.rvlt,I.scal,I.inj,I.slots,fun t φ e=>by rw[h t φ e];exact I.temps t φ e,I.gh⟩
theorem Bo.chg(I:Bo E Γ rv fp f H){j:Nat}{S:CY}{v:AV}{F:Nat→Prop}{G:Av}(hnk:D5 (AG Γ.ss j)=false)(hS:QW S=false)(hl:H.length≤G.length)(hG: ∀i,i<H.length→(AZ Γ.ss j→ ¬fp j i)→G[i]? =H[i]?)
  (hF: ∀i,F i→(AZ Γ.ss j∧fp j i)∨(H.length≤i∧i<G.length)) (hk:AZ Γ.ss j→v=rv j∨Γ.all (Ew j)) (hw:CB G≤G.length) (hv:B7 v≤G.length) (hsc:D5 (some S)=true∨Am.scal v=true)
  (hs: ∀(rv':Nat→AV) (fp':Fp),rv' j=v→fp' j=F→(∀i,Pf E Γ.ss fp H i→Pf E ((j,S)::Γ.ss) fp' G i∧G[i]? =H[i]?)→(∀φ,(AZ Γ.ss j→v=rv j∨Ew j φ)→Uv rv rv' Γ.ss ((j,S)::Γ.ss) φ)→
   SR rv' fp' ((j,S)::Γ.ss) (Pf E ((j,S)::Γ.ss) fp' G) G j S):
  ∃rv' fp',rv' j=v∧AZ ((j,S)::Γ.ss) j∧Bo E ⟨Γ.ts,(j,S)::Γ.ss⟩ rv' fp' f G:=by
 let rv':Nat→AV:=fun k=>if k=j then v else rv k
 let fp':Fp:=fun k=>if k=j then F else fp k
 have hrj:rv' j=v:=if_pos rfl
 have hfj:fp' j=F:=if_pos rfl
 have hr: ∀k,k≠j→rv' k=rv k:=fun k hk=>if_neg hk
 have hf: ∀k,k≠j→fp' k=fp k:=fun k hk=>if_neg hk
 have hlj:AZ ((j,S)::Γ.ss) j:=sL hS
 have hlv: ∀k,k≠j→(AZ ((j,S)::Γ.ss) k↔AZ Γ.ss k):=fun k hk=>TQ hk
 have hnot: ∀i,Pf E Γ.ss fp H i→AZ Γ.ss j→ ¬fp j i:=by
  rintro i (⟨h1,h2⟩|⟨_,_,h⟩) l e
  ·exact((I.fplt j i l e).2 h1).1 (E.pk i h2)
  ·exact h j l e
 have hP: ∀i,Pf E Γ.ss fp H i→Pf E ((j,S)::Γ.ss) fp' G i∧G[i]? =H[i]? :=by
  intro i h
  refine⟨?_,hG i (h.lt I.le) (hnot i h)⟩
  rcases h with h|⟨h1,h2,h3⟩
  ·exact .inl h
  ·refine .inr ⟨h1,by omega,fun k l e=> ?_⟩
   by_cases hkj:k=j
   ·subst hkj
    rw[hfj]at e
    rcases hF i e with ⟨l',e'⟩|⟨h4,_⟩
    ·exact h3 k l' e'
    ·omega
   ·rw[hf k hkj]at e
    exact h3 k ((hlv k hkj).1 l) e
 have hsame: ∀φ,(AZ Γ.ss j→v=rv j∨Ew j φ)→Uv rv rv' Γ.ss ((j,S)::Γ.ss) φ:=by
  intro φ hφ k hkr l
  by_cases hkj:k=j
  ·subst hkj
   rcases hφ l with h|h
   ·exact⟨⟨hlj,fun e=>by rw[hnk]at e;cases e⟩,hrj.trans h⟩
   ·exact absurd h hkr
  ·exact⟨⟨(hlv k hkj).2 l,fun e=>by simp only[AG,if_neg (Ne.symm hkj)];exact e⟩,hr k hkj⟩
 refine⟨rv',fp',hrj,hlj,?_,?_,hw,?_,?_,?_,?_,?_,?_,?_⟩
 ·have:=I.le;omega
 ·intro i hi hK
  have hnf:AZ Γ.ss j→ ¬fp j i:=fun l e=>((I.fplt j i l e).2 hi).1 hK
  rw[hG i (by have:=I.le;omega) hnf];exact I.base i hi hK
 ·intro k i l e
  by_cases hkj:k=j
  ·subst hkj
   rw[hfj]at e
   rcases hF i e with ⟨l',e'⟩|⟨h1,h2⟩
   ·have:=I.fplt k i l' e'
    exact⟨by omega,this.2⟩
   ·exact⟨h2,fun h=>absurd h (by have:=I.le;omega)⟩
  ·rw[hf k hkj]at e
   have:=I.fplt k i ((hlv k hkj).1 l) e
   exact⟨by omega,this.2⟩
 ·intro k l
  by_cases hkj:k=j
  ·subst hkj;rw[hrj];exact hv
  ·rw[hr k hkj];have:=I.rvlt k ((hlv k hkj).1 l);omega
 ·intro k l
  by_cases hkj:k=j
  ·subst hkj;rw[hrj];exact hsc.imp (fun h=>by simp only[AG,if_true];exact h) id
  ·rw[hr k hkj];exact(I.scal k ((hlv k hkj).1 l)).imp (fun h=>by simp only[AG,if_neg (Ne.symm hkj)];exact h) id
 ·intro k k' i l l' e e'
  by_cases hkj:k=j<;>by_cases hkj':k'=j
  ·rw[hkj,hkj']
  ·subst hkj
   rw[hfj]at e
   rw[hf k' hkj']at e'
   rcases hF i e with ⟨l1,e1⟩|⟨h1,_⟩
   ·exact I.inj k k' i l1 ((hlv k' hkj').1 l') e1 e'
   ·have:=(I.fplt k' i ((hlv k' hkj').1 l') e').1;omega
  ·subst hkj'
   rw[hfj]at e'
   rw[hf k hkj]at e
   rcases hF i e' with ⟨l1,e1⟩|⟨h1,_⟩
   ·exact I.inj k k' i ((hlv k hkj).1 l) l1 e e1
   ·have:=(I.fplt k i ((hlv k hkj).1 l) e).1;omega
  ·rw[hf k hkj]at e
   rw[hf k' hkj']at e'
   exact I.inj k k' i ((hlv k hkj).1 l) ((hlv k' hkj').1 l') e e'
 ·intro k S' e
  rw[AG]at e
  split at e
  ·rename_i hkj
   cases e
   subst hkj
   exact hs rv' fp' hrj hfj hP hsame
  ·rename_i hkj
   by_cases hg:QW S'=true
   ·cases S'<;>first|trivial|(simp[QW]at hg;done)
   ·have hlk:=La e (by simpa using hg)
    refine(I.slots k S' e).keep (hr k (Ne.symm hkj)) (hf k (Ne.symm hkj)) hP hl (fun i hi=>hG i (I.fplt k i hlk hi).1 fun l e'=>hkj (I.inj j k i l hlk e' hi)) (fun ps hps p hp=>hsame p.2 fun l=> ?_) (fun φ hφ=>hsame φ fun l=> ?_) fun sz els he=>hsame _ fun l=> ?_
    ·subst hps
     exact(hk l).imp (fun h=>h) fun h=>h.2.1 k ps e p hp
    ·subst hφ
     exact(hk l).imp (fun h=>h) fun h=>h.2.2.1 k φ (.inl e)
    ·subst he
     exact(hk l).imp (fun h=>h) fun h=>h.2.2.2 k sz els e
 ·intro t φ e
  exact(I.temps t φ e).mono hP (hsame φ fun l=>(hk l).imp (fun h=>h) fun h=>h.1 t φ e)
 ·intro k φ e
  rw[AG]at e
  split at e
  ·rename_i hkj
   cases e
   simp[QW]at hS
  ·exact(I.gh k φ e).mono hP (hsame φ fun l=>(hk l).imp (fun h=>h) fun h=>h.2.2.1 k φ (.inr e))
theorem Bo.more(I:Bo E Γ rv fp f H){j:Nat}{S:CY}{v:AV}{o:BF}(hj: ¬AZ Γ.ss j)(hm:Ej o≤H.length+1)(hS:QW S=false)(hv:B7 v≤H.length+1)(hsc:Am.scal v=true)
  (hr: ∀(rv':Nat→AV) (fp':Fp),rv' j=v→(∀i,fp' j i↔i=H.length)→(∀i,Pf E Γ.ss fp H i→Pf E ((j,S)::Γ.ss) fp' (H++[o]) i∧(H++[o])[i]? =H[i]?)→
   (∀φ,Uv rv rv' Γ.ss ((j,S)::Γ.ss) φ)→SR rv' fp' ((j,S)::Γ.ss) (Pf E ((j,S)::Γ.ss) fp' (H++[o])) (H++[o]) j S):
  ∃rv' fp',rv' j=v∧AZ ((j,S)::Γ.ss) j∧Bo E ⟨Γ.ts,(j,S)::Γ.ss⟩ rv' fp' f (H++[o]):=
 I.chg (F:=fun i=>i=H.length) (by
   cases e:D5 (AG Γ.ss j)with
   |false=>rfl
   |true=>exact absurd (Lz e) hj) hS (by simp) (fun i hi _=>List.getElem?_append_left hi) (fun i hi=> .inr ⟨by omega,by simp;omega⟩) (fun l=>absurd l hj)
  (by rw[Qh];have:=I.wf;simp only[CB,List.length_append,List.length_cons,List.length_nil];omega) (by simpa using hv) (.inr hsc)
  fun rv' fp' h1 h2 hP hs=>hr rv' fp' h1 (fun i=>by rw[h2]) hP fun φ=>hs φ fun l=>absurd l hj
theorem Bo.set(I:Bo E Γ rv fp f H){j id:Nat}{S:CY}{v:AV}{o:BF}(hnk:D5 (AG Γ.ss j)=false)(hl:AZ Γ.ss j)(hid: ∀i,fp j i↔i=id)(hm:Ej o≤H.length)(hS:QW S=false)(hv:B7 v≤H.length)(hk:v=rv j∨Γ.all (Ew j))
  (hsc:D5 (AG Γ.ss j)=true∨Am.scal v=true)
  (hs: ∀(rv':Nat→AV) (fp':Fp),rv' j=v→(∀i,fp' j i↔i=id)→(∀i,Pf E Γ.ss fp H i→Pf E ((j,S)::Γ.ss) fp' (H.set id o) i∧(H.set id o)[i]? =H[i]?)→
   (∀φ,v=rv j∨Ew j φ→Uv rv rv' Γ.ss ((j,S)::Γ.ss) φ)→SR rv' fp' ((j,S)::Γ.ss) (Pf E ((j,S)::Γ.ss) fp' (H.set id o)) (H.set id o) j S):
  ∃rv' fp',rv' j=v∧AZ ((j,S)::Γ.ss) j∧Bo E ⟨Γ.ts,(j,S)::Γ.ss⟩ rv' fp' f (H.set id o):=
 I.chg (F:=fp j) hnk hS (by simp) (fun i _ hn=>List.getElem?_set_ne fun e=>hn hl ((hid i).2 e.symm)) (fun i hi=> .inl ⟨hl,hi⟩) (fun _=>hk) (by simpa using Hx I.wf hm) (by simpa using hv) (hsc.elim (fun h=>by rw[hnk]at h;cases h) .inr)
  fun rv' fp' h1 h2 hP hs'=>hs rv' fp' h1 (fun i=>by rw[h2];exact hid i) hP fun φ h=>hs' φ fun _=>h
end
end Go.Proofs.YtobejhpigbllpaaGreatDoor.Am
namespace Go.Proofs.YtobejhpigbllpaaGreatDoor.Am
def S1(F:AK→AK):CY→CY
 | .cells ps=> .cells (ps.map fun p=>(p.1,F p.2))
 | .keep φ=> .keep (F φ)
 | .ghost φ=> .ghost (F φ)
 |s=>s
theorem TS{F:AK→AK}(o:Option CY):D5 (o.map (S1 F))=D5 o:=by
 cases o with
 |none=>rfl
 |some S=>cases S<;>rfl
theorem Ud{F:AK→AK}: ∀{ts:Ts} {t:Nat},BB (ts.map fun p=>(p.1,F p.2)) t=(BB ts t).map F
 |[],_=>rfl
 |(u,φ)::r,t=>by
  simp only[List.map_cons,BB]
  split
  ·rfl
  ·exact Ud
theorem GM{F:AK→AK}: ∀{ss:Ss} {j:Nat},AG (ss.map fun p=>(p.1,S1 F p.2)) j=(AG ss j).map (S1 F)
 |[],_=>rfl
 |(u,φ)::r,t=>by
  simp only[List.map_cons,AG]
  split
  ·rfl
  ·exact GM
theorem S2{F:AK→AK}{ss:Ss}{j:Nat}:AZ (ss.map fun p=>(p.1,S1 F p.2)) j↔AZ ss j:=by
 simp only[AZ,GM]
 cases AG ss j with
 |none=>exact Iff.rfl
 |some S=>cases S<;>exact Iff.rfl
theorem PR.map{rv rv':Nat→AV}{ss ss':Ss}{P Q:Nat→Prop}{H:Av}{F:AK→AK}: ∀{ps:List (Nat×AK)} {cs:List AV},(∀p∈ps,∀c,FC rv ss P H p.2 c→FC rv' ss' Q H (F p.2) c)→PR rv ss P H ps cs→
  PR rv' ss' Q H (ps.map fun p=>(p.1,F p.2)) cs
 |[],_,_,h=>h
 |(n,φ)::r,cs,s,⟨c,d,e,l,h,g⟩=>⟨c,d,e,l,s _ List.mem_cons_self c h,PR.map (fun p hp=>s p (List.mem_cons_of_mem _ hp)) g⟩
section
variable{E:Ph}{Γ:Cx}{rv:Nat→AV}{fp:Fp}{f:Fr}{H:Av}
theorem Pf.same{ss ss':Ss}(h: ∀k,AZ ss' k→AZ ss k){i:Nat}:Pf E ss fp H i→Pf E ss' fp H i
 | .inl h=> .inl h
 | .inr ⟨h1,h2,h3⟩=> .inr ⟨h1,h2,fun j l=>h3 j (h j l)⟩
theorem Bo.map(I:Bo E Γ rv fp f H){F:AK→AK}{ss':Ss}(hf: ∀k S,AG ss' k=some S→S≠ .gone→ ∃S0,AG Γ.ss k=some S0∧S=S1 F S0)(hag: ∀l,F (.aggk l)= .aggk l)
  (hFR:(∀i,Pf E Γ.ss fp H i→Pf E ss' fp H i)→ ∀φ v,FR rv Γ.ss (Pf E Γ.ss fp H) H φ v→FR rv ss' (Pf E ss' fp H) H (F φ) v)
  (hFC:(∀i,Pf E Γ.ss fp H i→Pf E ss' fp H i)→ ∀φ c,FC rv Γ.ss (Pf E Γ.ss fp H) H φ c→FC rv ss' (Pf E ss' fp H) H (F φ) c):Bo E ⟨Γ.ts.map fun p=>(p.1,F p.2),ss'⟩ rv fp f H:=by
 have hlv: ∀k,AZ ss' k→AZ Γ.ss k:=by
  intro k l
  simp only[AZ]at l
  cases h:AG ss' k with
  |none=>rw[h]at l;exact l.elim
  |some S=>
   rw[h]at l
   have hg:S≠ .gone:=by rintro rfl;exact l
   obtain⟨S0,h0,rfl⟩:=hf k S h hg
   exact La h0 (by cases S0<;>first|rfl|exact l.elim)
 have hP: ∀i,Pf E Γ.ss fp H i→Pf E ss' fp H i:=fun i=>Pf.same hlv
 refine⟨I.le,I.base,I.wf,fun k i l e=>I.fplt k i (hlv k l) e,fun k l=>I.rvlt k (hlv k l),fun k l=>(I.scal k (hlv k l)).imp (fun h=> ?_) id,fun k k' i l l' e e'=>I.inj k k' i (hlv k l) (hlv k' l') e e',?_,?_,?_⟩
 ·simp only[AZ]at l
  cases e:AG ss' k with
  |none=>rw[e]at l;exact l.elim
  |some S=>
   rw[e]at l
   obtain⟨S0,h0,rfl⟩:=hf k S e (by rintro rfl;exact l)
   rw[h0]at h
   cases S0<;>first|rfl|exact h
 ·intro k S e
  by_cases hg:S= .gone
  ·subst hg;trivial
  ·obtain⟨S0,h0,rfl⟩:=hf k S e hg
   have h:=I.slots k S0 h0
   cases S0 with
   |gone=>trivial
   |cells ps=>
    obtain⟨id,cs,h1,h2,h3,h4⟩:=h
    exact⟨id,cs,h1,h2,h3,h4.map fun p _ c=>hFC hP p.2 c⟩
   |row t g=>
    cases g with
    |nil=>exact h
    |mk l=>
     obtain⟨id,els,h1,h2,h3,h4⟩:=h
     exact⟨id,els,h1,h2,h3,h4.mono fun i hi=>⟨hP i hi,rfl⟩⟩
   |dom D x=>exact D.mono (fun i hi=>⟨hP i hi,rfl⟩) (fun _ _=>rfl) h
   |keep φ=>
    obtain⟨h1,h2⟩:=h
    exact⟨hFR hP φ _ h1,h2⟩
   |ghost φ=>trivial
   |rowk sz els=>
    obtain⟨g0,id,g1,g2,g3⟩:=h
    have:=hFR hP (.aggk els.flatten) _ ⟨g0,rfl⟩
    rw[hag]at this
    exact⟨this.1,id,g1,g2,g3⟩
 ·intro t φ e
  simp only[Ud]at e
  obtain⟨ψ,h,rfl⟩:=Option.map_eq_some_iff.1 e
  exact hFR hP ψ _ (I.temps t ψ h)
 ·intro k φ e
  obtain⟨S0,h0,e'⟩:=hf k _ e (by simp)
  cases S0<;>simp only[S1,CY.ghost.injEq,reduceCtorEq]at e'
  subst e'
  exact hFR hP _ _ (I.gh k _ h0)
theorem FR.weak{ss ss':Ss}{P Q:Nat→Prop}{φ:AK}{v:AV}(hP: ∀i,P i→Q i)(hl: ∀j,¬Ew j φ→AZ ss j→AZ ss' j∧(D5 (AG ss j)=true→D5 (AG ss' j)=true))(h:FR rv ss P H φ v):FR rv ss' Q H φ v:=
 h.mono (fun i hi=>⟨hP i hi,rfl⟩) fun j hj l=>⟨hl j hj l,rfl⟩
theorem FC.weak{ss ss':Ss}{P Q:Nat→Prop}{φ:AK}{c:List AV}(hP: ∀i,P i→Q i)(hl: ∀j,¬Ew j φ→AZ ss j→AZ ss' j∧(D5 (AG ss j)=true→D5 (AG ss' j)=true))(h:FC rv ss P H φ c):FC rv ss' Q H φ c:=
 h.mono (fun i hi=>⟨hP i hi,rfl⟩) (Nat.le_refl _) fun j hj l=>⟨hl j hj l,rfl⟩
def Pj(j:Nat)(F:AK→AK):AK→AK
 | .own k=>if k=j then F (.own k)else .own k
 | .ep k i o=>if k=j then F (.ep k i o)else .ep k i o
 | .cp k o=>if k=j then F (.cp k o)else .cp k o
 | .oc k o s n=>if k=j then F (.oc k o s n)else .oc k o s n
 |φ=>φ
def NO(j:Nat):AK→Prop
 | .kv k=>k≠j
 | .fnv _ js ks=>j∉js++ks
 | .aggk js=>j∉js
 | .tupk js=>j∉js
 |_=>True
theorem FR.noKeep{rv:Nat→AV}{ss:Ss}{P:Nat→Prop}{H:Av}{φ:AK}{v:AV}{j:Nat}(hj:D5 (AG ss j)=false)(h:FR rv ss P H φ v):NO j φ:=by
 have no: ∀{l:List Nat},Np ss l→j∉l:=fun h hm=>by have:=h j hm;rw[hj]at this;cases this
 cases φ<;>try exact trivial
 ·exact fun e=>no h.1 (by simp[e])
 ·exact no h.1
 ·exact no h.1
 ·exact no h.1
theorem Pi{j:Nat}{F:AK→AK}{φ:AK}(h:Ew j φ):Pj j F φ=φ:=by
 cases φ<;>simp only[Ew]at h<;>simp only[Pj]<;>first|rfl|(rw[if_neg h])
theorem MR{j:Nat}{F:AK→AK}{φ:AK}(hk:NO j φ)(h: ¬Ew j φ):Pj j F φ=F φ:=by
 cases φ<;>first
  |(simp only[Ew,not_true_eq_false,ne_eq,Decidable.not_not]at h;simp only[Pj,if_pos h];done)
  |exact absurd hk h
  |exact absurd trivial h
def Cx.kill(Γ:Cx)(j:Nat):Cx:=⟨Γ.ts.map fun p=>(p.1,Pj j (fun _=> .junk) p.2),Γ.ss.map fun p=>(p.1,S1 (Pj j fun _=> .junk) p.2)⟩
theorem N8(j:Nat)(φ:AK)(hk:NO j φ):Ew j (Pj j (fun _=> .junk) φ):=by
 by_cases h:Ew j φ
 ·rw[Pi h];exact h
 ·rw[MR hk h];trivial
theorem Bo.noKeepT(I:Bo E Γ rv fp f H){j:Nat}(hj:D5 (AG Γ.ss j)=false):Γ.all (NO j):=by
 refine⟨fun t φ e=>FR.noKeep hj (I.temps t φ e),fun k ps e p hp=> ?_,fun k φ e=> ?_,fun k sz els e=> ?_⟩
 ·obtain⟨id,cs,_,_,_,h⟩:=I.slots k _ e
  have key: ∀{ps:List (Nat×AK)} {cs:List AV},PR rv Γ.ss (Pf E Γ.ss fp H) H ps cs→ ∀p∈ps,NO j p.2:=by
   intro ps
   induction ps with
   |nil=>intro cs _ p hp;cases hp
   |cons q ps ih=>
    rintro cs ⟨c,d,_,_,h1,h2⟩ p hp
    rcases List.mem_cons.1 hp with rfl|hp
    ·obtain⟨n,φ⟩:=p
     cases φ<;>first|trivial|exact h1.elim|(obtain⟨v,_,h1⟩:=h1;exact FR.noKeep hj h1)
    ·exact ih h2 p hp
  exact key h p hp
 ·rcases e with e|e
  ·exact FR.noKeep hj (I.slots k _ e).1
  ·exact FR.noKeep hj (I.gh k φ e)
 ·have h0:=(I.slots k _ e).1
  exact fun hm=>by have:=h0 j hm;rw[hj]at this;cases this
theorem lF(I:Bo E Γ rv fp f H){j:Nat}(hj:D5 (AG Γ.ss j)=false):(Γ.kill j).all (Ew j):=by
 have hn:=I.noKeepT hj
 refine⟨fun t φ e=> ?_,fun k ps e p hp=> ?_,fun k φ e=> ?_,fun k sz els e=> ?_⟩
 ·simp only[Cx.kill,Ud]at e
  obtain⟨ψ,h,rfl⟩:=Option.map_eq_some_iff.1 e
  exact N8 j ψ (hn.1 t ψ h)
 ·simp only[Cx.kill,GM]at e
  obtain⟨S,h,e⟩:=Option.map_eq_some_iff.1 e
  cases S<;>simp only[S1,CY.cells.injEq,reduceCtorEq]at e
  subst e
  obtain⟨q,hq,rfl⟩:=List.mem_map.1 hp
  exact N8 j q.2 (hn.2.1 k _ h q hq)
 ·simp only[Cx.kill,GM]at e
  rcases e with e|e
  ·obtain⟨S,h,e⟩:=Option.map_eq_some_iff.1 e
   cases S<;>simp only[S1,CY.keep.injEq,reduceCtorEq]at e
   subst e
   exact N8 j _ (hn.2.2.1 k _ (.inl h))
  ·obtain⟨S,h,e⟩:=Option.map_eq_some_iff.1 e
   cases S<;>simp only[S1,CY.ghost.injEq,reduceCtorEq]at e
   subst e
   exact N8 j _ (hn.2.2.1 k _ (.inr h))
 ·simp only[Cx.kill,GM]at e
  obtain⟨S,h,e⟩:=Option.map_eq_some_iff.1 e
  cases S<;>simp only[S1,CY.rowk.injEq,reduceCtorEq]at e
  obtain⟨rfl,rfl⟩:=e
  exact hn.2.2.2 k _ _ h
theorem Bo.kill(I:Bo E Γ rv fp f H)(j:Nat)(hj:D5 (AG Γ.ss j)=false):Bo E (Γ.kill j) rv fp f H:=by
 have hl: ∀k,AZ Γ.ss k→AZ (Γ.kill j).ss k∧(D5 (AG Γ.ss k)=true→D5 (AG (Γ.kill j).ss k)=true):=fun k h=>⟨S2.2 h,fun e=>by rw[Cx.kill];simp only[GM,TS];exact e⟩
 refine I.map (F:=Pj j fun _=> .junk) (fun k S e _=> ?_) (fun l=> ?_) (fun hP φ v h=> ?_) (fun hP φ c h=> ?_)
 ·rw[GM]at e
  obtain⟨S0,h0,rfl⟩:=Option.map_eq_some_iff.1 e
  exact⟨S0,h0,rfl⟩
 ·rfl
 ·by_cases hk:Ew j φ
  ·rw[Pi hk];exact h.weak hP fun k _=>hl k
  ·rw[MR (FR.noKeep hj h) hk];trivial
 ·by_cases hk:Ew j φ
  ·rw[Pi hk];exact h.weak hP fun k _=>hl k
  ·have hk':NO j φ:=by
    cases φ<;>first|trivial|exact h.elim|(obtain⟨v,_,h⟩:=h;exact FR.noKeep hj h)
   rw[MR hk' hk]
   exact FC.men I.ltP I.rvlt h
def Cx.turn(Γ:Cx)(j:Nat)(F:AK→AK):Cx:=⟨Γ.ts.map fun p=>(p.1,Pj j F p.2),(j, .gone)::Γ.ss.map fun p=>(p.1,S1 (Pj j F) p.2)⟩
theorem Pf.gone(I:Bo E Γ rv fp f H){j id:Nat}(hl:AZ Γ.ss j)(hid:fp j id){ss':Ss}(h: ∀k,AZ ss' k→k≠j∧AZ Γ.ss k)(hn:E.h.length≤id):Pf E ss' fp H id:=
 .inr ⟨hn,(I.fplt j id hl hid).1,fun k l e=>(h k l).1 (I.inj k j id (h k l).2 hl e hid)⟩
theorem Qk{F:AK→AK}{ss:Ss}{j:Nat}: ∀k,AZ ((j, .gone)::ss.map fun p=>(p.1,S1 F p.2)) k↔k≠j∧AZ ss k:=by
 intro k
 by_cases hk:k=j
 ·subst hk
  simp only[AZ,AG,if_true,xV,false_iff]
  exact fun h=>h.1 rfl
 ·rw[TQ hk,S2]
  exact⟨fun h=>⟨hk,h⟩,fun h=>h.2⟩
theorem tE{F:AK→AK}{ss:Ss}{j k:Nat}(hk:k≠j)(h:D5 (AG ss k)=true):D5 (AG ((j, .gone)::ss.map fun p=>(p.1,S1 F p.2)) k)=true:=by
 simp only[AG,if_neg (Ne.symm hk),GM,TS];exact h
theorem Bo.turn(I:Bo E Γ rv fp f H){j:Nat}{F:AK→AK}(hj:D5 (AG Γ.ss j)=false)
  (hF:(∀i,Pf E Γ.ss fp H i→Pf E (Γ.turn j F).ss fp H i)→ ∀φ v,¬Ew j φ→FR rv Γ.ss (Pf E Γ.ss fp H) H φ v→FR rv (Γ.turn j F).ss (Pf E (Γ.turn j F).ss fp H) H (F φ) v∧FC rv (Γ.turn j F).ss (Pf E (Γ.turn j F).ss fp H) H (F φ) [v]):
  Bo E (Γ.turn j F) rv fp f H:=by
 have hlv: ∀k,AZ (Γ.turn j F).ss k↔k≠j∧AZ Γ.ss k:=Qk
 have keep: ∀φ,Ew j φ→ ∀k,¬Ew k φ→AZ Γ.ss k→AZ (Γ.turn j F).ss k∧(D5 (AG Γ.ss k)=true→D5 (AG (Γ.turn j F).ss k)=true):=fun φ h k hk l=>
  have hkj:k≠j:=fun e=>hk (e▸h)
  ⟨(hlv k).2 ⟨hkj,l⟩,tE hkj⟩
 refine I.map (F:=Pj j F) (fun k S e hg=> ?_) (fun _=>rfl) (fun hP φ v h=> ?_) (fun hP φ c h=> ?_)
 ·simp only[Cx.turn,AG]at e
  split at e
  ·cases e;exact absurd rfl hg
  ·rw[GM]at e
   obtain⟨S0,h0,rfl⟩:=Option.map_eq_some_iff.1 e
   exact⟨S0,h0,rfl⟩
 ·by_cases hn:Ew j φ
  ·rw[Pi hn];exact h.weak hP (keep φ hn)
  ·rw[MR (FR.noKeep hj h) hn];exact(hF hP φ v hn h).1
 ·by_cases hn:Ew j φ
  ·rw[Pi hn];exact h.weak hP (keep φ hn)
  ·have: ∃v,c=[v]∧FR rv Γ.ss (Pf E Γ.ss fp H) H φ v:=by
    cases φ<;>first|exact h|exact h.elim|exact absurd trivial hn
   obtain⟨v,rfl,h'⟩:=this
   rw[MR (FR.noKeep hj h') hn]
   exact(hF hP φ v hn h').2
theorem FR.one{ss:Ss}{P:Nat→Prop}(hi: ∀j,AZ ss j→B7 (rv j)≤H.length){φ:AK}{v:AV}{j:Nat}(hp: ∀i,P i→i<H.length)(hn: ¬Ew j φ)(h:FR rv ss P H φ v):Bg [v]≤H.length:=by
 simpa [Bg]using FR.men hp hi (by rintro rfl;exact hn trivial) h
def vI(t:T)(g:GS t.α):AK→AK
 | .own _=> .val (T.sl t) g
 |_=> .junk
theorem Bo.new(I:Bo E Γ rv fp f H){j:Nat}(hl:AZ Γ.ss j)(hn:Nat.blt j cG=true)(i:Nat)(h:fp j i):E.h.length≤i:=by
 rcases Nat.lt_or_ge i E.h.length with h'|h'
 ·have h1:=((I.fplt j i hl h).2 h').2
  have h2:j<cG:=by rw[Nat.blt,Nat.ble_eq]at hn;exact hn
  omega
 ·exact h'
theorem Bo.frzRow(I:Bo E Γ rv fp f H){j:Nat}{t:T}{g:GS t.α}(hj:AG Γ.ss j=some (.row t g))(hnb:Nat.blt j cG=true):Bo E (Γ.turn j (vI t g)) rv fp f H:=by
 have hl:AZ Γ.ss j:=La hj rfl
 have hn:=I.new hl hnb
 have hs:=I.slots j _ hj
 have hlv: ∀k,AZ (Γ.turn j (vI t g)).ss k↔k≠j∧AZ Γ.ss k:=Qk
 refine I.turn (by rw[hj];rfl) fun hP φ v hr h=> ?_
 have hnk:NO j φ:=FR.noKeep (by rw[hj];rfl) h
 have hone:=FR.one I.rvlt I.ltP hr h
 cases φ with
 |own k=>
  simp only[Ew,ne_eq,Decidable.not_not]at hr
  subst hr
  obtain⟨_,rfl⟩:=h
  have:Tn t (Pf E (Γ.turn k (vI t g)).ss fp H) H (rv k) g:=by
   cases g with
   |nil=>exact hs.1
   |mk l=>
    obtain⟨id,els,h1,h0,h2,h3⟩:=hs
    rw[h1]
    have hk:=(h0 id).2 rfl
    refine⟨Pf.gone I hl hk (fun k lk=>(hlv k).1 lk) (hn id hk),els,?_,h3.mono fun i hi=>⟨hP i hi,rfl⟩⟩
    simp[Eu,h2]
  exact⟨JU.2 this,_,rfl,this⟩
 |ep k i o=>exact⟨trivial,hone⟩
 |cp k o=>exact⟨trivial,hone⟩
 |oc k o s n=>exact⟨trivial,hone⟩
 |val t x=>exact absurd trivial hr
 |rp t x=>exact absurd trivial hr
 |tup l=>exact absurd trivial hr
 |junk=>exact absurd trivial hr
 |con c=>exact absurd trivial hr
 |kv k=>exact absurd hnk hr
 |fnv g js ks=>exact absurd hnk hr
 |aggk js=>exact absurd hnk hr
 |tupk js=>exact absurd hnk hr
def eF(t:T)(x:t.α):AK→AK
 | .cp _ 0=> .rp t x
 |_=> .junk
theorem Bo.frzCell(I:Bo E Γ rv fp f H){j n:Nat}{t:T}{x:t.α}(hj:AG Γ.ss j=some (.cells [(n, .val t x)]))(hnb:Nat.blt j cG=true):Bo E (Γ.turn j (eF t x)) rv fp f H:=by
 have hl:AZ Γ.ss j:=La hj rfl
 have hn:=I.new hl hnb
 have hs:=I.slots j _ hj
 have hlv: ∀k,AZ (Γ.turn j (eF t x)).ss k↔k≠j∧AZ Γ.ss k:=Qk
 refine I.turn (by rw[hj];rfl) fun hP φ v hr h=> ?_
 have hnk:NO j φ:=FR.noKeep (by rw[hj];rfl) h
 have hone:=FR.one I.rvlt I.ltP hr h
 cases φ with
 |cp k o=>
  simp only[Ew,ne_eq,Decidable.not_not]at hr
  subst hr
  cases o with
  |succ o=>exact⟨trivial,hone⟩
  |zero=>
   obtain⟨_,id,e,rfl⟩:=h
   obtain⟨id',cs,h1,h0,h2,c,d,h3,h4,h5,h6⟩:=hs
   rw[e]at h1
   cases h1
   have h6':d=[]:=h6
   subst h6'
   simp only[List.append_nil]at h3
   subst h3
   have hk:=(h0 id).2 rfl
   have hp:=Pf.gone I hl hk (fun k lk=>(hlv k).1 lk) (hn id hk)
   have hlen:=t.len h5
   have:Zh t (Pf E (Γ.turn k (eF t x)).ss fp H) H (.ptr id 0) x:=by
    refine⟨hp,cs,0,by simp[place,h2],by omega,?_,fun m hm=>by simp only[B7];exact hm _ hp⟩
    have:sub cs 0 t.sz=cs:=by simp only[sub,List.drop_zero];exact List.take_of_length_le (by omega)
    rw[this]
    exact t.mono (fun i hi=>⟨hP i hi,rfl⟩) h5
   exact⟨this,_,rfl,this⟩
 |own k=>exact⟨trivial,hone⟩
 |oc k o s n=>exact⟨trivial,hone⟩
 |ep k i o=>exact⟨trivial,hone⟩
 |val t x=>exact absurd trivial hr
 |rp t x=>exact absurd trivial hr
 |tup l=>exact absurd trivial hr
 |junk=>exact absurd trivial hr
 |con c=>exact absurd trivial hr
 |kv k=>exact absurd hnk hr
 |fnv g js ks=>exact absurd hnk hr
 |aggk js=>exact absurd hnk hr
 |tupk js=>exact absurd hnk hr
def yD:Option CY→Prop
 |some (.keep _)=>True
 |_=>False
def P9(ss:Ss):List Nat→Prop
 |[]=>True
 |j::r=>yD (AG ss j)∧P9 ss r
theorem mM{o:Option CY}(h:yD o):D5 o=true:=by
 unfold yD at h
 split at h
 ·rfl
 ·exact h.elim
theorem P8{ss:Ss}: ∀{l:List Nat},P9 ss l→Np ss l
 |[],_,j,hj=>by cases hj
 |k::l,h,j,hj=>by
  rcases List.mem_cons.1 hj with rfl|hj
  ·exact mM h.1
  ·exact P8 h.2 j hj
def LX(ss:Ss):AK→Prop
 | .own k=>AZ ss k
 | .ep k _ _=>AZ ss k
 | .cp k _=>AZ ss k
 | .oc k _ _ _=>AZ ss k
 | .kv k=>P9 ss [k]
 | .fnv _ js ks=>P9 ss (js++ks)
 | .aggk js=>P9 ss js
 | .tupk js=>P9 ss js
 |_=>True
def lS(ss:Ss):List (Nat×AK)→Prop
 |[]=>True
 |p::r=>LX ss p.2∧lS ss r
def refS(ss:Ss):CY→Prop
 | .cells ps=>lS ss ps
 | .keep φ=>LX ss φ
 | .ghost φ=>LX ss φ
 | .rowk _ els=>P9 ss els.flatten
 |_=>True
def subT(Γ:Cx)(ss:Ss):Ts→Prop
 |[]=>True
 |(t,φ)::r=>(BB Γ.ts t=some φ∧LX ss φ)∧subT Γ ss r
def uP(Γ:Cx)(ss:Ss):Ss→Prop
 |[]=>True
 |(j,S)::r=>(AG Γ.ss j=some S∧refS ss S)∧uP Γ ss r
def Sub(Γ' Γ:Cx):Prop:=subT Γ Γ'.ss Γ'.ts∧uP Γ Γ'.ss Γ'.ss
theorem Zq{ss:Ss}: ∀{ts:Ts} {t:Nat} {φ:AK},subT Γ ss ts→BB ts t=some φ→BB Γ.ts t=some φ∧LX ss φ
 |[],_,_,_,e=>by simp[BB]at e
 |(u,ψ)::r,t,φ,h,e=>by
  simp only[BB]at e
  split at e
  ·rename_i hu;cases e;subst hu;exact h.1
  ·exact Zq h.2 e
theorem IE{ss:Ss}: ∀{l:Ss} {j:Nat} {S:CY},uP Γ ss l→AG l j=some S→AG Γ.ss j=some S∧refS ss S
 |[],_,_,_,e=>by simp[AG]at e
 |(u,ψ)::r,t,φ,h,e=>by
  simp only[AG]at e
  split at e
  ·rename_i hu;cases e;subst hu;exact h.1
  ·exact IE h.2 e
theorem WJ{ss:Ss}{φ:AK}(h:LX ss φ): ∀j,¬Ew j φ→AZ ss j∧(¬NO j φ→D5 (AG ss j)=true):=by
 intro j hj
 have key: ∀{l:List Nat},P9 ss l→j∈l→AZ ss j∧D5 (AG ss j)=true:=fun h hm=>⟨Lz (P8 h j hm),P8 h j hm⟩
 cases φ<;>first
  |exact absurd trivial hj
  |(simp only[Ew,ne_eq,Decidable.not_not]at hj;subst hj;exact⟨h,fun hn=>absurd trivial hn⟩)
  |(simp only[Ew,ne_eq,Decidable.not_not]at hj;exact⟨(key h (by simp[hj])).1,fun _=>(key h (by simp[hj])).2⟩)
  |exact⟨(key h (Decidable.not_not.1 hj)).1,fun _=>(key h (Decidable.not_not.1 hj)).2⟩
theorem WI{ss:Ss}: ∀{ps:List (Nat×AK)},lS ss ps→ ∀p∈ps,LX ss p.2
 |[],_,p,hp=>by cases hp
 |q::r,h,p,hp=>by
  rcases List.mem_cons.1 hp with rfl|hp
  ·exact h.1
  ·exact WI h.2 p hp
theorem Bo.sub{Γ':Cx}(I:Bo E Γ rv fp f H)(h:Sub Γ' Γ):Bo E Γ' rv fp f H:=by
 have hlv: ∀k,AZ Γ'.ss k→AZ Γ.ss k:=by
  intro k l
  cases e:AG Γ'.ss k with
  |none=>simp only[AZ,e]at l;exact l.elim
  |some S=>
   have:=(IE h.2 e).1
   simp only[AZ,e]at l
   simp only[AZ,this];exact l
 have hP: ∀i,Pf E Γ.ss fp H i→Pf E Γ'.ss fp H i:=fun i=>Pf.same hlv
 have hsame: ∀φ,LX Γ'.ss φ→Uv rv rv Γ.ss Γ'.ss φ:=fun φ r j hj l=>by
  have hl:=(WJ r j hj).1
  refine⟨⟨hl,fun e=> ?_⟩,rfl⟩
  cases e':AG Γ'.ss j with
  |none=>simp only[AZ,e']at hl;exact hl.elim
  |some S=>rw[(IE h.2 e').1]at e;exact e
 refine⟨I.le,I.base,I.wf,fun k i l e=>I.fplt k i (hlv k l) e,fun k l=>I.rvlt k (hlv k l),fun k l=>(I.scal k (hlv k l)).imp (fun e=> ?_) id,fun k k' i l l' e e'=>I.inj k k' i (hlv k l) (hlv k' l') e e',?_,?_,?_⟩
 ·cases e':AG Γ'.ss k with
  |none=>simp only[AZ,e']at l;exact l.elim
  |some S=>rw[(IE h.2 e').1]at e;exact e
 ·intro k S e
  obtain⟨e',r⟩:=IE h.2 e
  refine(I.slots k S e').keep rfl rfl (fun i hi=>⟨hP i hi,rfl⟩) (Nat.le_refl _) (fun _ _=>rfl) (fun ps hps p hp=> ?_) (fun φ hφ=> ?_) fun sz els he=> ?_
  ·subst hps
   exact hsame p.2 (WI r p hp)
  ·subst hφ
   exact hsame φ r
  ·subst he
   exact hsame (.aggk els.flatten) r
 ·intro t φ e
  obtain⟨e',r⟩:=Zq h.1 e
  exact(I.temps t φ e').mono (fun i hi=>⟨hP i hi,rfl⟩) (hsame φ r)
 ·intro k φ e
  obtain⟨e',r⟩:=IE h.2 e
  exact(I.gh k φ e').mono (fun i hi=>⟨hP i hi,rfl⟩) (hsame φ r)
end
end Go.Proofs.YtobejhpigbllpaaGreatDoor.Am
namespace Go.Proofs.YtobejhpigbllpaaGreatDoor.Am
def HO{σ β:Type}(F:σ→Option (σ⊕β)):Nat→σ→Option β
 |0,_=>none
 |n+1,s=>(F s).bind fun
  | .inl s'=>HO F n s'
  | .inr b=>some b
open Classical in
noncomputable def iter{σ β:Type}(F:σ→Option (σ⊕β))(s:σ):Option β:=
 if h: ∃n,(HO F n s).isSome=true then HO F (Classical.choose h) s else none
section
variable{σ β:Type}{F:σ→Option (σ⊕β)}
theorem R4: ∀{n m:Nat} {s:σ} {b:β},n≤m→HO F n s=some b→HO F m s=some b
 |0,_,_,_,_,h=>by simp[HO]at h
 |n+1,0,_,_,hm,_=>by omega
 |n+1,m+1,s,b,hm,h=>by
  simp only[HO]at h ⊢
  obtain⟨r,hr,h⟩:=Option.bind_eq_some_iff.1 h
  rw[hr]
  cases r with
  |inl s'=>exact R4 (by omega) h
  |inr b'=>exact h
theorem Md{n:Nat}{s:σ}{b:β}(h:HO F n s=some b):iter F s=some b:=by
 unfold iter
 have hx: ∃n,(HO F n s).isSome=true:=⟨n,by rw[h];rfl⟩
 rw[dif_pos hx]
 obtain⟨b',hb⟩:=Option.isSome_iff_exists.1 (Classical.choose_spec hx)
 have h1:=R4 (Nat.le_max_left n (Classical.choose hx)) h
 have h2:=R4 (Nat.le_max_right n (Classical.choose hx)) hb
 rw[hb,←h2,h1]
theorem TW{s:σ}{b:β}(h:iter F s=some b): ∃n,HO F n s=some b:=by
 unfold iter at h
 split at h
 ·exact⟨_,h⟩
 ·cases h
theorem Qj{s s':σ}(h:F s=some (.inl s')):iter F s=iter F s':=by
 apply Option.ext
 intro b
 constructor
 ·intro e
  obtain⟨n,hn⟩:=TW e
  cases n with
  |zero=>simp[HO]at hn
  |succ n=>simp only[HO,h,Option.bind_some]at hn;exact Md hn
 ·intro e
  obtain⟨n,hn⟩:=TW e
  exact Md (n:=n+1) (by simp only[HO,h,Option.bind_some];exact hn)
theorem TX{s:σ}{b:β}(h:F s=some (.inr b)):iter F s=some b:=
 Md (n:=1) (by simp only[HO,h,Option.bind_some])
end
inductive Kf where
 |seq (y:AC)
 |blk (id:Nat)
noncomputable def I4(tb:CW):List Kf→Ex×Fr×Av→Option (Ex×Fr×Av)
 |[],r=>some r
 | .seq y::ks,(.normal,f,h)=>(AW tb (Ch tb) y f h).bind (I4 tb ks)
 | .seq _::ks,r=>I4 tb ks r
 | .blk id::ks,(.exit id',f,h)=>if id'=id then I4 tb ks (.normal,f,h)else I4 tb ks (.exit id',f,h)
 | .blk _::ks,r=>I4 tb ks r
abbrev LT(ρ:Type):=Ph→ρ→Ex→Fr→Av→Prop
structure Aa(tb:CW)(Γ:Cx)(c:AC)(ks:List Kf){ρ:Type}(Q:LT ρ) where
 m:Option ρ
 ok: ∀E f H,Rel E Γ f H→ ∀r,m=some r→ ∃e f' H',(AW tb (Ch tb) c f H).bind (I4 tb ks)=some (e,f',H')∧Q E r e f' H'
def rg(q:Bool)(l:List AT):AC:=if q then .regq l else .reg l
section
variable{tb:CW}{Γ:Cx}{ks:List Kf}{ρ:Type}{Q:LT ρ}
def Aa.of{c c':AC}{ks':List Kf}(h: ∀f H,(AW tb (Ch tb) c' f H).bind (I4 tb ks')=(AW tb (Ch tb) c f H).bind (I4 tb ks))(s:Aa tb Γ c ks Q):Aa tb Γ c' ks' Q:=
 ⟨s.m,fun E f H R r hr=>by rw[h];exact s.ok E f H R r hr⟩
def Aa.weak{c:AC}{Γ':Cx}(s:Aa tb Γ' c ks Q)(h:Sub Γ' Γ):Aa tb Γ c ks Q:=
 ⟨s.m,fun E f H ⟨rv,fp,I⟩ r hr=>s.ok E f H ⟨rv,fp,I.sub h⟩ r hr⟩
def Aa.turn{c:AC}{Γ':Cx}(h: ∀E f H,Rel E Γ f H→Rel E Γ' f H)(s:Aa tb Γ' c ks Q):Aa tb Γ c ks Q:=
 ⟨s.m,fun E f H R r hr=>s.ok E f H (h E f H R) r hr⟩
def Aa.frzRow{c:AC}(j:Nat){t:T}{g:GS t.α}(h:AG Γ.ss j=some (.row t g))(hn:Nat.blt j cG=true)(s:Aa tb (Γ.turn j (vI t g)) c ks Q):Aa tb Γ c ks Q:=
 s.turn fun _ _ _ ⟨rv,fp,I⟩=>⟨rv,fp,I.frzRow h hn⟩
theorem Dv{q:Bool}{f:Fr}{H:Av}:AW tb (Ch tb) (rg q []) f H=some (.normal,f,H):=by
 cases q<;>simp[rg,AW,ops,Ia]
def Ad{x y:AC}(s:Aa tb Γ x (.seq y::ks) Q):Aa tb Γ (.seq x y) ks Q:=
 s.of fun f H=>by
  simp only[AW]
  cases AW tb (Ch tb) x f H with
  |none=>rfl
  |some p=>obtain⟨e,f',H'⟩:=p;cases e<;>simp[I4]
def A6{id:Nat}{x:AC}(s:Aa tb Γ x (.blk id::ks) Q):Aa tb Γ (.blk id x) ks Q:=
 s.of fun f H=>by
  simp only[AW]
  cases AW tb (Ch tb) x f H with
  |none=>rfl
  |some p=>
   obtain⟨e,f',H'⟩:=p
   cases e<;>simp[I4]
   split<;>simp
def Ac{q:Bool}{y:AC}(s:Aa tb Γ y ks Q):Aa tb Γ (rg q []) (.seq y::ks) Q:=
 s.of fun f H=>by simp[Dv,I4]
def AI{q:Bool}{id:Nat}(s:Aa tb Γ (rg q []) ks Q):Aa tb Γ (rg q []) (.blk id::ks) Q:=
 s.of fun f H=>by simp[Dv,I4]
def Aa.skip(s:Aa tb Γ (rg false []) ks Q):Aa tb Γ .skip ks Q:=
 s.of fun f H=>by simp[Dv,AW]
def AQ{id:Nat}{y:AC}(s:Aa tb Γ (.exit id) ks Q):Aa tb Γ (.exit id) (.seq y::ks) Q:=
 s.of fun f H=>by simp[AW,I4]
def AR{id:Nat}(s:Aa tb Γ (rg false []) ks Q):Aa tb Γ (.exit id) (.blk id::ks) Q:=
 s.of fun f H=>by simp[AW,I4,Dv]
theorem W8{f:Fr}{H:Av}: ∀ks:List Kf,I4 tb ks (.ret,f,H)=some (.ret,f,H)
 |[]=>rfl
 | .seq _::ks=>by simp[I4,W8 ks]
 | .blk _::ks=>by simp[I4,W8 ks]
def C7(tb:CW)(Γ:Cx)(a:AO)(φ:AK):Prop:= ∀E rv fp f H,Bo E Γ rv fp f H→FR rv Γ.ss (Pf E Γ.ss fp H) H φ (eval tb f a)
def Fw(tb:CW)(Γ:Cx)(o:HN){β:Type}(a:Option β)(φ:β→AK):Prop:=
 ∀E rv fp f H,Bo E Γ rv fp f H→ ∀b,a=some b→ ∃v u,Bp tb (Ch tb) (eval tb f) H o=some (v,u)∧u.getD H=H∧FR rv Γ.ss (Pf E Γ.ss fp H) H (φ b) v
theorem E6{q:Bool}{d:Option Nat}{o:HN}{l:List AT}{f:Fr}{H:Av}{v:AV}{u:Option Av}(h:Bp tb (Ch tb) (eval tb f) H o=some (v,u))(hu:u.getD H=H):
  AW tb (Ch tb) (rg q (⟨d,none,o⟩::l)) f H=AW tb (Ch tb) (rg q l) (put f d v) H:=by
 cases q<;>simp[rg,AW,ops,Ia,wanted,h,hu]
theorem Kd{d:Option Nat}{o:HN}{l:List AT}{f:Fr}{H:Av}{v:AV}{u:Option Av}(h:Bp tb (Ch tb) (eval tb f) H o=some (v,u)):
  AW tb (Ch tb) (rg false (⟨d,none,o⟩::l)) f H=AW tb (Ch tb) (rg false l) (put f d v) (u.getD H):=by
 simp[rg,AW,ops,wanted,h]
def Aa.op{q:Bool}{d:Nat}{o:HN}{l:List AT}{β:Type}{a:Option β}{φ:β→AK}(h:Fw tb Γ o a φ)(k:(b:β)→Aa tb (Γ.push d (φ b)) (rg q l) ks Q):Aa tb Γ (rg q (⟨some d,none,o⟩::l)) ks Q:=
 ⟨a.bind fun b=>(k b).m,fun E f H ⟨rv,fp,I⟩ r hr=>by
  obtain⟨b,hb,hr⟩:=Option.bind_eq_some_iff.1 hr
  obtain⟨v,u,h1,h2,h3⟩:=h E rv fp f H I b hb
  obtain⟨e,f',H',h4,h5⟩:=(k b).ok E (put f (some d) v) H ⟨rv,fp,I.push h3⟩ r hr
  exact⟨e,f',H',by rw[E6 h1 h2];exact h4,h5⟩⟩
def Ai{q:Bool}{d:Nat}{o:HN}{l:List AT}{φ:AK}(h:Fw tb Γ o (some ()) fun _=>φ)(k:Aa tb (Γ.push d φ) (rg q l) ks Q):Aa tb Γ (rg q (⟨some d,none,o⟩::l)) ks Q:=
 ⟨k.m,fun E f H ⟨rv,fp,I⟩ r hr=>by
  obtain⟨v,u,h1,h2,h3⟩:=h E rv fp f H I () rfl
  obtain⟨e,f',H',h4,h5⟩:=k.ok E (put f (some d) v) H ⟨rv,fp,I.push h3⟩ r hr
  exact⟨e,f',H',by rw[E6 h1 h2];exact h4,h5⟩⟩
def An{q:Bool}{d:Nat}{o:HN}{l:List AT}{t:T}{x:t.α}(h:Fw tb Γ o (some ()) fun _=> .val t x)(k:(y:t.α)→Aa tb (Γ.push d (.val t y)) (rg q l) ks Q):Aa tb Γ (rg q (⟨some d,none,o⟩::l)) ks Q:=
 Ai h (k x)
def qU{q:Bool}{d:Nat}{o:HN}{l:List AT}{t:T}{x:t.α}(h:Fw tb Γ o (some ()) fun _=> .rp t x)(k:(y:t.α)→Aa tb (Γ.push d (.rp t y)) (rg q l) ks Q):Aa tb Γ (rg q (⟨some d,none,o⟩::l)) ks Q:=
 Ai h (k x)
def Wd(tb:CW)(Γ:Cx)(d:Option Nat)(o:HN){β:Type}(a:Option β)(Γ':β→Cx):Prop:=
 ∀E rv fp f H,Bo E Γ rv fp f H→ ∀b,a=some b→ ∃v u,Bp tb (Ch tb) (eval tb f) H o=some (v,u)∧ ∃rv' fp',Bo E (Γ' b) rv' fp' (put f d v) (u.getD H)
def Cq{d:Option Nat}{o:HN}{l:List AT}{β:Type}{a:Option β}{Γ':β→Cx}(h:Wd tb Γ d o a Γ')(k:(b:β)→Aa tb (Γ' b) (rg false l) ks Q):Aa tb Γ (rg false (⟨d,none,o⟩::l)) ks Q:=
 ⟨a.bind fun b=>(k b).m,fun E f H ⟨rv,fp,I⟩ r hr=>by
  obtain⟨b,hb,hr⟩:=Option.bind_eq_some_iff.1 hr
  obtain⟨v,u,h1,rv',fp',h3⟩:=h E rv fp f H I b hb
  obtain⟨e,f',H',h4,h5⟩:=(k b).ok E _ _ ⟨rv',fp',h3⟩ r hr
  exact⟨e,f',H',by rw[Kd h1];exact h4,h5⟩⟩
def Aa.stop{c:AC}:Aa tb Γ c ks Q:=⟨Option.none,fun _ _ _ _ _ h=>(by cases h)⟩
def Aa.scope{x:AC}(s:Aa tb Γ x ks Q):Aa tb Γ (.scope x) ks Q:=Aa.of (c:=x) (fun f H=>by simp only[AW]) s
def Hq{c:AC}{τ:Type}(Γj:τ→Cx)(k:(p:τ)→Aa tb (Γj p) (rg false []) ks Q)(main:((p:τ)→Aa tb (Γj p) (rg false []) ks Q)→Aa tb Γ c ks Q):Aa tb Γ c ks Q:=main k
theorem Gb{P:Nat→Prop}{H:Av}{v:AV}{x:Bool}:T.b.V P H v x↔v= .b x:=PN
theorem BY{k:IntKind}{P:Nat→Prop}{H:Av}{v:AV}{x:Int}:(T.int k).V P H v x↔v= .i k x:=PN
theorem E8{P:Nat→Prop}{H:Av}{v:AV}{x:AM}:Ax.V P H v x↔v= .s x:=PN
theorem Uu{P:Nat→Prop}{H:Av}{v:AV}{x:UInt8}:T.u8.V P H v x↔v= .i .u8 x.toNat:=PN
theorem eN{P:Nat→Prop}{H:Av}{v:AV}{x:UInt16}:T.u16.V P H v x↔v= .i .u16 x.toNat:=PN
theorem eM{P:Nat→Prop}{H:Av}{v:AV}{x:UInt32}:T.u32.V P H v x↔v= .i .u32 x.toNat:=PN
theorem qT{P:Nat→Prop}{H:Av}{v:AV}{x:UInt64}:T.u64.V P H v x↔v= .i .u64 x.toNat:=PN
def Aa.cond{a:AO}{b:Bool}{x y:AC}(h:C7 tb Γ a (.val T.b b))(s:Aa tb Γ x ks Q)(s':Aa tb Γ y ks Q):Aa tb Γ (.cond a x y) ks Q:=
 ⟨if b=true then s.m else s'.m,fun E f H ⟨rv,fp,I⟩ r hr=>by
  have hv:=Gb.1 (h E rv fp f H I)
  cases b with
  |true=>
   obtain⟨e,f',H',h4,h5⟩:=s.ok E f H ⟨rv,fp,I⟩ r (by simpa using hr)
   exact⟨e,f',H',by simp only[AW,hv,if_true];exact h4,h5⟩
  |false=>
   obtain⟨e,f',H',h4,h5⟩:=s'.ok E f H ⟨rv,fp,I⟩ r (by simpa using hr)
   exact⟨e,f',H',by simp only[AW,hv,Bool.false_eq_true,if_false];exact h4,h5⟩⟩
def lD(tb:CW){σ τ:Type}(Γl:σ→Cx)(Γx:τ→Cx)(id:Nat)(ks:List Kf)(Q:LT ρ):LT (σ⊕(τ⊕ρ)):=fun E r e f H=>
 match r with
 | .inl s=>e= .normal∧Rel E (Γl s) f H
 | .inr (.inl p)=>e= .exit id∧Rel E (Γx p) f H
 | .inr (.inr r)=>e≠ .normal∧ ∃e' f' H',I4 tb ks (e,f,H)=some (e',f',H')∧Q E r e' f' H'
theorem WZ: ∀{l:List Nat} {f:Fr} {t:Nat},t∈l→get (keepL l f) t=get f t
 |u::l,f,t,h=>by
  simp only[keepL,List.map_cons,get]
  by_cases e:u=t
  ·subst e;rw[if_pos rfl]
  ·rw[if_neg e]
   rcases List.mem_cons.1 h with e'|h
   ·exact absurd e'.symm e
   ·exact WZ h
def pL(l:List Nat)(ts:Ts):Bool:=ts.all fun p=>l.any (Nat.beq p.1)
theorem WW{l:List Nat}: ∀{ts:Ts} {t:Nat} {φ:AK},pL l ts=true→BB ts t=some φ→t∈l
 |[],_,_,_,e=>by simp[BB]at e
 |(u,ψ)::r,t,φ,h,e=>by
  simp only[pL,List.all_cons,Bool.and_eq_true]at h
  simp only[BB]at e
  split at e
  ·rename_i hu
   subst hu
   obtain⟨x,hx,hb⟩:=List.any_eq_true.1 h.1
   have hb':u=x:=Nat.eq_of_beq_eq_true hb
   exact hb'▸hx
  ·exact WW h.2 e
theorem Rel.keep{E:Ph}{f:Fr}{H:Av}{l:List Nat}(h:pL l Γ.ts=true):Rel E Γ f H→Rel E Γ (keepL l f) H
 |⟨rv,fp,I⟩=>⟨rv,fp,I.fr fun _ _ e=>WZ (WW h e)⟩
noncomputable def Aa.loop{σ τ:Type}{lv:List Nat}{x:AC}{id:Nat}(Γl:σ→Cx)(Γx:τ→Cx)(s0:σ)(h0:Sub (Γl s0) Γ)(hl: ∀s,pL lv (Γl s).ts=true)
  (body:(s:σ)→Aa tb (Γl s) x [] (lD tb Γl Γx id ks Q)) (k:(p:τ)→Aa tb (Γx p) (.exit id) ks Q):Aa tb Γ (.loop lv x) ks Q:=
 ⟨(iter (fun s=>(body s).m) s0).bind (Sum.elim (fun p=>(k p).m) some),fun E f H ⟨rv,fp,I⟩ r hr=>by
  obtain⟨b,hb,hr⟩:=Option.bind_eq_some_iff.1 hr
  obtain⟨n,hn⟩:=TW hb
  have key: ∀n s f H,Rel E (Γl s) f H→HO (fun s=>(body s).m) n s=some b→ ∃e f' H',Vo (KS lv (AW tb (Ch tb) x)) n f H=some (e,f',H')∧e≠ .normal∧lD tb Γl Γx id ks Q E (.inr b) e f' H':=by
   intro n
   induction n with
   |zero=>intro s f H _ h;simp[HO]at h
   |succ n ih=>
    intro s f H R h
    simp only[HO]at h
    obtain⟨r1,h1,h⟩:=Option.bind_eq_some_iff.1 h
    obtain⟨e,f',H',h2,h3⟩:=(body s).ok E (keepL lv f) H (R.keep (hl s)) r1 h1
    have h2':AW tb (Ch tb) x (keepL lv f) H=some (e,f',H'):=by
     obtain⟨p,hp,h2⟩:=Option.bind_eq_some_iff.1 h2
     rw[hp,←h2];rfl
    cases r1 with
    |inl s'=>
     obtain⟨rfl,R'⟩:=h3
     obtain⟨e2,f2,H2,h4,h5⟩:=ih s' (keepL lv f') H' (R'.keep (hl s')) h
     exact⟨e2,f2,H2,by simp only[Vo,KS,h2',Option.map_some];exact h4,h5⟩
    |inr b'=>
     simp only[Option.some.injEq]at h
     subst h
     have hne:e≠ .normal:=by
      cases b' with
      |inl p=>rw[h3.1];simp
      |inr r=>exact h3.1
     refine⟨e,f',H',?_,hne,h3⟩
     simp only[Vo,KS,h2',Option.map_some]
     cases e<;>first|exact absurd rfl hne|rfl
  obtain⟨e,f1,H1,h1,h2,h3⟩:=key n s0 f H ⟨rv,fp,I.sub h0⟩ hn
  have hlp:AW tb (Ch tb) (.loop lv x) f H=some (e,f1,H1):=by
   simp only[AW]
   exact xS _ h1
  rw[hlp]
  cases b with
  |inr r'=>
   simp only[Sum.elim_inr,Option.some.injEq]at hr
   subst hr
   exact h3.2
  |inl p=>
   obtain⟨rfl,R⟩:=h3
   simp only[Sum.elim_inl]at hr
   obtain⟨e2,f2,H2,h4,h5⟩:=(k p).ok E f1 H1 R r hr
   exact⟨e2,f2,H2,by simpa [AW]using h4,h5⟩⟩
def Aa.next{q:Bool}{σ τ:Type}{Γl:σ→Cx}{Γx:τ→Cx}{id:Nat}(s:σ)(h:Sub (Γl s) Γ):Aa tb Γ (rg q []) [] (lD tb Γl Γx id ks Q):=
 ⟨some (.inl s),fun E f H ⟨rv,fp,I⟩ r hr=>by
  cases hr
  exact⟨.normal,f,H,by simp[Dv,I4],rfl,rv,fp,I.sub h⟩⟩
def Bv{σ τ:Type}{Γl:σ→Cx}{Γx:τ→Cx}{id:Nat}(p:τ)(h:Sub (Γx p) Γ):Aa tb Γ (.exit id) [] (lD tb Γl Γx id ks Q):=
 ⟨some (.inr (.inl p)),fun E f H ⟨rv,fp,I⟩ r hr=>by
  cases hr
  exact⟨.exit id,f,H,by simp[AW,I4],rfl,rv,fp,I.sub h⟩⟩
def Yd(s:Aa tb Γ .ret [] Q):Aa tb Γ .ret ks Q:=
 s.of fun f H=>by simp[AW,W8,I4]
def BA{σ τ:Type}{Γl:σ→Cx}{Γx:τ→Cx}{id:Nat}{ks':List Kf}(s:Aa tb Γ .ret ks Q):Aa tb Γ .ret ks' (lD tb Γl Γx id ks Q):=
 Yd ⟨s.m.map fun r=> .inr (.inr r),fun E f H R r hr=>by
  obtain⟨r',h1,rfl⟩:=Option.map_eq_some_iff.1 hr
  obtain⟨e,f',H',h2,h3⟩:=s.ok E f H R r' h1
  refine⟨.ret,f,H,by simp[AW,I4],by simp,e,f',H',?_,h3⟩
  simpa [AW]using h2⟩
end
end Go.Proofs.YtobejhpigbllpaaGreatDoor.Am
namespace Go.Proofs.YtobejhpigbllpaaGreatDoor.Am
def BS:List T→Type
 |[]=>Unit
 |[a]=>a.α
 |a::b::r=>a.α×BS (b::r)
def UY(P:Nat→Prop)(H:Av):(l:List T)→List AV→BS l→Prop
 |[],vs,_=>vs=[]
 |[a],vs,x=> ∃v,vs=[v]∧a.V P H v x
 |a::b::r,vs,x=> ∃v q,vs=v::q∧a.V P H v x.1∧UY P H (b::r) q x.2
def OutR(P:Nat→Prop)(H:Av)(l:List T)(v:AV)(x:BS l):Prop:= ∃vs,v=Gp vs∧UY P H l vs x
structure CallR(tb:CW)(g:Nat)(P:Nat→Prop)(h:Av)(args:List AV)(Rs:List T)(r:BS Rs):Prop where
 call: ∃v u,B1 tb (Ch tb) h g args=some (v,u)∧u.getD h=h∧OutR P h Rs v r
def Spec(tb:CW)(g:Nat)(As Rs:List T)(F:BS As→Option (BS Rs)):Prop:=
 ∀(P:Nat→Prop) (h:Av) (args:List AV) (xs:BS As),(∀i,P i→i<h.length)→CB h≤h.length→UY P h As args xs→ ∀r,F xs=some r→CallR tb g P h args Rs r
section
variable{tb:CW}
theorem UY.mono{P Q:Nat→Prop}{H G:Av}(m: ∀i,P i→Q i∧G[i]? =H[i]?): ∀{l:List T} {vs:List AV} {x:BS l},UY P H l vs x→UY Q G l vs x
 |[],_,_,h=>h
 |[a],_,_,⟨v,e,h⟩=>⟨v,e,h.mono m⟩
 |_::_::_,_,_,⟨v,q,e,h,g⟩=>⟨v,q,e,h.mono m,UY.mono m g⟩
theorem UY.frz{P Q:Nat→Prop}{H:Av}{n:Nat}(hw:CB (H.take n)≤n)(hp: ∀i,P i→i<n→Q i): ∀{l:List T} {vs:List AV} {x:BS l},(∀t∈l,t.dep≤11)→UY P H l vs x→
  ∃vs',dJ H n vs=some vs'∧UY Q (H.take n) l vs' x
 |[],_,_,_,h=>by rw[show _=[]from h];exact⟨[],rfl,rfl⟩
 |[a],_,_,hd,⟨v,e,h⟩=>by
  obtain⟨v',e',r⟩:=h.frz (d:=11) (hd a List.mem_cons_self) (by omega) hw hp
  exact⟨[v'],by rw[e];simp[dJ,D4,e'],v',rfl,r⟩
 |a::b::l,_,_,hd,⟨v,q,e,h,g⟩=>by
  obtain⟨v',e',r⟩:=h.frz (d:=11) (hd a List.mem_cons_self) (by omega) hw hp
  obtain⟨q',e2,r2⟩:=UY.frz hw hp (fun t ht=>hd t (List.mem_cons_of_mem _ ht)) g
  refine⟨v'::q',?_,v',q',rfl,r,r2⟩
  have e2':D4 (Am.frz H n 12) q=some q':=e2
  rw[e];simp[dJ,D4,e',e2']
def ResR(E:Ph)(Rs:List T)(res:List KR)(r:BS Rs)(f:Fr)(H:Av):Prop:=
 ∃P vs,(∀i,P i→i<E.h.length→E.P0 i)∧results f H res=some vs∧UY P H Rs vs r∧E.h.length≤H.length∧ ∀i,i<E.h.length→E.K i→H[i]? =E.h[i]?
def QRes(Rs:List T)(res:List KR):LT (BS Rs):=fun E r e f H=>(e= .ret∨e= .normal)∧ResR E Rs res r f H
def ResF(Γ:Cx)(a:KR)(t:T)(x:t.α):Prop:=
 ∀E rv fp f H,Bo E Γ rv fp f H→ ∀r vs,results f H r=some vs→ ∃v,results f H (a::r)=some (v::vs)∧t.V (Pf E Γ.ss fp H) H v x
inductive lC(Γ:Cx):(Rs:List T)→List KR→BS Rs→Type 1 where
 |nil:lC Γ [] [] ()
 |one {a:KR} {t:T} {x:t.α}:ResF Γ a t x→lC Γ [t] [a] x
 |cons {a:KR} {t u:T} {x:t.α} {Rs:List T} {l:List KR} {y:BS (u::Rs)}:ResF Γ a t x→lC Γ (u::Rs) l y→lC Γ (t::u::Rs) (a::l) (x,y)
theorem lC.spec{Γ:Cx}{E:Ph}{rv:Nat→AV}{fp:Fp}{f:Fr}{H:Av}(I:Bo E Γ rv fp f H): ∀{Rs:List T} {l:List KR} {y:BS Rs},lC Γ Rs l y→ ∃vs,results f H l=some vs∧UY (Pf E Γ.ss fp H) H Rs vs y
 |_,_,_, .nil=>⟨[],rfl,rfl⟩
 |_,_,_, .one h=>by
  obtain⟨v,h1,h2⟩:=h E rv fp f H I [] [] rfl
  exact⟨[v],h1,v,rfl,h2⟩
 |_,_,_, .cons h r=>by
  obtain⟨vs,g1,g2⟩:=r.spec I
  obtain⟨v,h1,h2⟩:=h E rv fp f H I _ vs g1
  exact⟨v::vs,h1,v,vs,rfl,h2,g2⟩
def Aa.ret{Γ:Cx}{ks:List Kf}{Rs:List T}{res:List KR}{r:BS Rs}(h:lC Γ Rs res r):Aa tb Γ .ret ks (QRes Rs res):=
 Yd ⟨some r,fun E f H ⟨rv,fp,I⟩ r' hr=>by
  cases hr
  obtain⟨vs,h1,h2⟩:=h.spec I
  refine⟨.ret,f,H,by simp[AW,I4], .inl rfl,Pf E Γ.ss fp H,vs,?_,h1,h2,I.le,I.base⟩
  rintro i (h|h) hi
  ·exact h.2
  ·omega⟩
def Aa.fin{Γ:Cx}{q:Bool}{Rs:List T}{res:List KR}{r:BS Rs}(h:lC Γ Rs res r):Aa tb Γ (rg q []) [] (QRes Rs res):=
 ⟨some r,fun E f H ⟨rv,fp,I⟩ r' hr=>by
  cases hr
  obtain⟨vs,h1,h2⟩:=h.spec I
  refine⟨.normal,f,H,by simp[Dv,I4], .inr rfl,Pf E Γ.ss fp H,vs,?_,h1,h2,I.le,I.base⟩
  rintro i (h|h) hi
  ·exact h.2
  ·omega⟩
theorem AA{Γ:Cx}{n:Nat}{t:T}{x:t.α}(h:BB Γ.ts n=some (.val t x)):ResF Γ (.tmp n) t x:=by
 intro E rv fp f H I r vs hr
 exact⟨_,by simp[results,hr],I.temps n _ h⟩
def UX:(l:List T)→Nat→BS l→Ts
 |[],_,_=>[]
 |[a],k,x=>[(k, .val a x)]
 |a::b::r,k,x=>(k, .val a x.1)::UX (b::r) (k+1) x.2
theorem aA{P:Nat→Prop}{H:Av}{rv:Nat→AV}{ss:Ss}: ∀{l:List T} {vs:List AV} {k:Nat} {x:BS l},UY P H l vs x→ ∀t φ,BB (UX l k x) t=some φ→k≤t∧FR rv ss P H φ (get ((vs.zipIdx k).map fun p=>(p.2,p.1)) t)
 |[],_,_,_,_,t,φ,e=>by simp[UX,BB]at e
 |[a],_,k,x,⟨v,rfl,h⟩,t,φ,e=>by
  simp only[UX,BB]at e
  split at e
  ·rename_i hk
   cases e
   subst hk
   exact⟨Nat.le_refl _,by simpa [get,FR]using h⟩
  ·cases e
 |a::b::r,_,k,x,⟨v,q,rfl,h,g⟩,t,φ,e=>by
  simp only[UX,BB]at e
  simp only[List.zipIdx_cons,List.map_cons,get]
  split at e
  ·rename_i hk
   cases e
   subst hk
   exact⟨Nat.le_refl _,by rw[if_pos rfl];exact h⟩
  ·rename_i hk
   obtain⟨h1,h2⟩:=aA g t φ e
   exact⟨by omega,by rw[if_neg hk];exact h2⟩
theorem UY.length{P:Nat→Prop}{H:Av}: ∀{l:List T} {vs:List AV} {x:BS l},UY P H l vs x→vs.length=l.length
 |[],_,_,h=>by rw[show _=[]from h];rfl
 |[a],_,_,⟨v,rfl,h⟩=>rfl
 |a::b::r,_,_,⟨v,q,rfl,h,g⟩=>by simp[UY.length g]
theorem Spec.of{g:Nat}{fn:CI}{As Rs:List T}(hf:tb.prim g=none∧tb.fns g=some fn)(hw:fn.warm=false)(hn:fn.np=As.length)(hd:Rs.all (fun t=>Nat.ble t.dep 11)=true)
  (s:(xs:BS As)→Aa tb ⟨UX As 0 xs,[]⟩ fn.body [] (QRes Rs fn.res)):Spec tb g As Rs fun xs=>(s xs).m:=by
 intro P h args xs hP hwf hargs r hr
 let E:Ph:=⟨h,P,fun _=>True,hP,fun _ _=>trivial,fun _=> .junk⟩
 have hPf: ∀i,P i→Pf E [] (fun _ _=>False) h i∧h[i]? =h[i]? :=fun i hi=>⟨.inl ⟨hP i hi,hi⟩,rfl⟩
 have I:Bo E ⟨UX As 0 xs,[]⟩ (fun _=> .junk) (fun _ _=>False) (args.zipIdx.map fun p=>(p.2,p.1)) h:=by
  refine⟨Nat.le_refl _,fun _ _ _=>rfl,hwf,fun j id l=>l.elim,fun j l=>l.elim,fun j l=>l.elim,fun j k id l=>l.elim,fun j S e=>by simp[AG]at e,fun t φ e=> ?_,fun j φ e=>by simp[AG]at e⟩
  exact(aA (hargs.mono hPf) t φ e).2
 obtain⟨e,f',H',h1,he,P',vs,hP',h2,h3,hle,hbase⟩:=(s xs).ok E _ h ⟨_,_,I⟩ r hr
 have h4:H'.take h.length=h:=by
  apply List.ext_getElem?
  intro i
  rw[List.getElem?_take]
  split
  ·rename_i hi;exact hbase i hi trivial
  ·rename_i hi;rw[List.getElem?_eq_none (by omega)]
 have h1':AW tb (Ch tb) fn.body (args.zipIdx.map fun p=>(p.2,p.1)) h=some (e,f',H'):=by
  obtain⟨p,hp,h1⟩:=Option.bind_eq_some_iff.1 h1
  rw[hp,←h1];rfl
 have hwf':CB (H'.take h.length)≤h.length:=by rw[h4];exact hwf
 obtain⟨vs',h5,h6⟩:=h3.frz hwf' hP' fun t ht=>Nat.le_of_ble_eq_true (List.all_eq_true.1 hd t ht)
 have hbody:body tb (Ch tb) fn args h=some (Gp vs',some h):=by
  have hnp:args.length=fn.np:=by rw[hn,hargs.length]
  simp only[body,hnp,if_true,h1',Option.bind_some]
  have hq:WM fn.warm h.length H' vs=(Gp vs',some h):=by
   rw[hw]
   simp only[WM,WY,h5]
   rw[if_pos hwf',h4]
  rcases he with rfl|rfl
  ·simp[h2,hq]
  ·simp[h2,hq]
 refine⟨Gp vs',some h,?_,rfl,vs',rfl,by rw[h4]at h6;exact h6⟩
 simp only[B1,hf.1]
 rw[PI,hf.2]
 simp only[Option.bind_some]
 exact hbody
end
end Go.Proofs.YtobejhpigbllpaaGreatDoor.Am
namespace Go.Proofs.YtobejhpigbllpaaGreatDoor.Am
section
variable{tb:CW}{Γ:Cx}
theorem Ae{n:Nat}{φ:AK}(h:BB Γ.ts n=some φ):C7 tb Γ (.t n) φ:=fun _ _ _ _ _ I=>I.temps n φ h
theorem AJ{k:IntKind}{n:Int}:C7 tb Γ (.k (.i k n)) (.val (T.int k) n):=fun _ _ _ _ _ _=>BY.2 rfl
theorem Hw{x:Bool}:C7 tb Γ (.k (.b x)) (.val T.b x):=fun _ _ _ _ _ _=>Gb.2 rfl
theorem Ds{x:AM}:C7 tb Γ (.k (.s x)) (.val Ax x):=fun _ _ _ _ _ _=>E8.2 rfl
theorem gP{n:Int}(x:UInt8)(h:n=x.toNat):C7 tb Γ (.k (.i .u8 n)) (.val T.u8 x):=fun _ _ _ _ _ _=>Uu.2 (by rw[h];rfl)
theorem xP{n:Int}(x:UInt16)(h:n=x.toNat):C7 tb Γ (.k (.i .u16 n)) (.val T.u16 x):=fun _ _ _ _ _ _=>eN.2 (by rw[h];rfl)
theorem DY{n:Int}(x:UInt32)(h:n=x.toNat):C7 tb Γ (.k (.i .u32 n)) (.val T.u32 x):=fun _ _ _ _ _ _=>eM.2 (by rw[h];rfl)
theorem Db{n:Int}(x:UInt64)(h:n=x.toNat):C7 tb Γ (.k (.i .u64 n)) (.val T.u64 x):=fun _ _ _ _ _ _=>qT.2 (by rw[h];rfl)
theorem KE{t:T}:C7 tb Γ (.k .nils) (.val (T.sl t) .nil):=fun _ _ _ _ _ _=>JU.2 rfl
theorem A1{a:AO}{φ:AK}(h:C7 tb Γ a φ):Fw tb Γ (.mv a) (some ()) fun _=>φ:=
 fun E rv fp f H I _ _=>⟨_,none,rfl,rfl,h E rv fp f H I⟩
structure IT where
 t:T
 k:IntKind
 toI:t.α→Int
 ofI:Int→t.α
 V: ∀{P:Nat→Prop} {H:Av} {v:AV} {x:t.α},t.V P H v x↔v= .i k (toI x)
 h: ∀n,toI (ofI n)=k.wrap n
theorem oQ(n:Int):IntKind.u8.wrap n=n%256:=by simp[IntKind.wrap,IntKind.bits,IntKind.signed]
theorem eV(n:Int):IntKind.u16.wrap n=n%65536:=by simp[IntKind.wrap,IntKind.bits,IntKind.signed]
theorem eU(n:Int):IntKind.u32.wrap n=n%4294967296:=by simp[IntKind.wrap,IntKind.bits,IntKind.signed]
theorem eT(n:Int):IntKind.u64.wrap n=n%18446744073709551616:=by simp[IntKind.wrap,IntKind.bits,IntKind.signed]
def IT.int(k:IntKind):IT:=⟨T.int k,k,fun x=>x,k.wrap,BY,fun _=>rfl⟩
def IT.u8:IT:=⟨T.u8, .u8,fun x:UInt8=>(x.toNat:Int),fun n=>UInt8.ofNat (n%256).toNat,Uu,fun n=>by
 rw[oQ,UInt8.toNat_ofNat'];omega⟩
def IT.u16:IT:=⟨T.u16, .u16,fun x:UInt16=>(x.toNat:Int),fun n=>UInt16.ofNat (n%65536).toNat,eN,fun n=>by
 rw[eV,UInt16.toNat_ofNat'];omega⟩
def IT.u32:IT:=⟨T.u32, .u32,fun x:UInt32=>(x.toNat:Int),fun n=>UInt32.ofNat (n%4294967296).toNat,eM,fun n=>by
 rw[eU,UInt32.toNat_ofNat'];omega⟩
def IT.u64:IT:=⟨T.u64, .u64,fun x:UInt64=>(x.toNat:Int),fun n=>UInt64.ofNat (n%18446744073709551616).toNat,qT,fun n=>by
 rw[eT,UInt64.toNat_ofNat'];omega⟩
theorem Ld{rv:Nat→AV}{ss:Ss}{P:Nat→Prop}{H:Av}{I:IT}{x:I.t.α}{v:AV}(h:FR rv ss P H (.val I.t x) v):v= .i I.k (I.toI x):=I.V.1 h
theorem QY{rv:Nat→AV}{ss:Ss}{P:Nat→Prop}{H:Av}(I:IT){n:Int}:FR rv ss P H (.val I.t (I.ofI n)) (.i I.k (I.k.wrap n)):=I.V.2 (by rw[I.h])
section
variable{I J:IT}{x y:I.t.α}{a b:AO}
theorem Bt(ha:C7 tb Γ a (.val I.t x))(hb:C7 tb Γ b (.val I.t y)):Fw tb Γ (.bin .add a b) (some (I.ofI (I.toI x+I.toI y))) fun z=> .val I.t z:=by
 rintro E rv fp f H R z ⟨⟩
 exact⟨_,none,by simp only[Bp,Ld (ha E rv fp f H R),Ld (hb E rv fp f H R),bin,if_true];rfl,rfl,QY I⟩
theorem DZ(ha:C7 tb Γ a (.val I.t x))(hb:C7 tb Γ b (.val I.t y)):Fw tb Γ (.bin .sub a b) (some (I.ofI (I.toI x-I.toI y))) fun z=> .val I.t z:=by
 rintro E rv fp f H R z ⟨⟩
 exact⟨_,none,by simp only[Bp,Ld (ha E rv fp f H R),Ld (hb E rv fp f H R),bin,if_true];rfl,rfl,QY I⟩
theorem Hd(ha:C7 tb Γ a (.val I.t x))(hb:C7 tb Γ b (.val I.t y)):Fw tb Γ (.bin .mul a b) (some (I.ofI (I.toI x*I.toI y))) fun z=> .val I.t z:=by
 rintro E rv fp f H R z ⟨⟩
 exact⟨_,none,by simp only[Bp,Ld (ha E rv fp f H R),Ld (hb E rv fp f H R),bin,if_true];rfl,rfl,QY I⟩
theorem KT(ha:C7 tb Γ a (.val I.t x))(hb:C7 tb Γ b (.val I.t y)):Fw tb Γ (.bin .quo a b) (if I.toI y=0 then none else some (I.ofI ((I.toI x).tdiv (I.toI y)))) fun z=> .val I.t z:=by
 intro E rv fp f H R z hz
 split at hz
 ·cases hz
 ·rename_i h0
  cases hz
  exact⟨_,none,by simp only[Bp,Ld (ha E rv fp f H R),Ld (hb E rv fp f H R),bin,if_true,if_neg h0];rfl,rfl,QY I⟩
def JA(op:BinOp)(k:IntKind)(x y:Int):Int:=
 match op with
 | .and=>(BitVec.ofInt k.bits x&&&BitVec.ofInt k.bits y).toNat
 | .or=>(BitVec.ofInt k.bits x|||BitVec.ofInt k.bits y).toNat
 | .xor=>(BitVec.ofInt k.bits x^^^BitVec.ofInt k.bits y).toNat
 |_=>(BitVec.ofInt k.bits x&&& ~~~(BitVec.ofInt k.bits y)).toNat
theorem pX(ha:C7 tb Γ a (.val I.t x))(hb:C7 tb Γ b (.val I.t y)):Fw tb Γ (.bin .and a b) (some (I.ofI (JA .and I.k (I.toI x) (I.toI y)))) fun z=> .val I.t z:=by
 rintro E rv fp f H R z ⟨⟩
 exact⟨_,none,by simp only[Bp,Ld (ha E rv fp f H R),Ld (hb E rv fp f H R),bin,if_true];rfl,rfl,QY I⟩
theorem h_or(ha:C7 tb Γ a (.val I.t x))(hb:C7 tb Γ b (.val I.t y)):Fw tb Γ (.bin .or a b) (some (I.ofI (JA .or I.k (I.toI x) (I.toI y)))) fun z=> .val I.t z:=by
 rintro E rv fp f H R z ⟨⟩
 exact⟨_,none,by simp only[Bp,Ld (ha E rv fp f H R),Ld (hb E rv fp f H R),bin,if_true];rfl,rfl,QY I⟩
theorem h_shl{y:J.t.α}(ha:C7 tb Γ a (.val I.t x))(hb:C7 tb Γ b (.val J.t y)):Fw tb Γ (.bin .shl a b) (if J.toI y<0 then none else some (I.ofI (I.toI x*2^(min (J.toI y).toNat I.k.bits)))) fun z=> .val I.t z:=by
 intro E rv fp f H R z hz
 split at hz
 ·cases hz
 ·rename_i h0
  cases hz
  exact⟨_,none,by simp only[Bp,Ld (ha E rv fp f H R),Ld (hb E rv fp f H R),bin,if_neg h0];rfl,rfl,QY I⟩
def cmpI:BinOp→Int→Int→Bool
 | .eql,x,y=>decide (x=y)
 | .neq,x,y=> !decide (x=y)
 | .lss,x,y=>decide (x<y)
 | .leq,x,y=>decide (x≤y)
 | .gtr,x,y=>decide (y<x)
 |_,x,y=>decide (y≤x)
def pT:BinOp→Bool
 | .eql| .neq| .lss| .leq| .gtr| .geq=>true
 |_=>false
theorem bin_cmp{op:BinOp}{k:IntKind}{x y:Int}(h:pT op=true):bin op (.i k x) (.i k y)=some (.b (cmpI op x y)):=by
 cases op<;>simp only[pT,Bool.false_eq_true]at h<;>simp only[bin,if_true,cmpI]<;>rfl
theorem ER{op:BinOp}(h:pT op=true)(ha:C7 tb Γ a (.val I.t x))(hb:C7 tb Γ b (.val I.t y)):Fw tb Γ (.bin op a b) (some (cmpI op (I.toI x) (I.toI y))) fun z=> .val T.b z:=by
 rintro E rv fp f H R z ⟨⟩
 exact⟨_,none,by simp only[Bp,Ld (ha E rv fp f H R),Ld (hb E rv fp f H R),bin_cmp h];rfl,rfl,Gb.2 rfl⟩
theorem DL{k:IntKind}(hk:k=J.k)(ha:C7 tb Γ a (.val I.t x)):Fw tb Γ (.cvi k a) (some (J.ofI (I.toI x))) fun z=> .val J.t z:=by
 rintro E rv fp f H R z ⟨⟩
 subst hk
 exact⟨_,none,by simp only[Bp,Ld (ha E rv fp f H R)],rfl,QY J⟩
theorem h_max{mx:Bool}(ha:C7 tb Γ a (.val I.t x))(hb:C7 tb Γ b (.val I.t y)):Fw tb Γ (.mnx mx a b) (some (if mx then(if I.toI y>I.toI x then y else x)else(if I.toI y<I.toI x then y else x))) fun z=> .val I.t z:=by
 rintro E rv fp f H R z ⟨⟩
 refine⟨_,none,by simp only[Bp,Ld (ha E rv fp f H R),Ld (hb E rv fp f H R),if_true];rfl,rfl,I.V.2 ?_⟩
 cases mx<;>simp only[if_true,Bool.false_eq_true,if_false]<;>split<;>rfl
end
theorem iW{k:IntKind}{x y:Int}{a b:AO}(ha:C7 tb Γ a (.val (T.int k) x))(hb:C7 tb Γ b (.val (T.int k) y)):Fw tb Γ (.bin .rem a b) (if y=0 then none else some (x.tmod y)) fun z=> .val (T.int k) z:=by
 intro E rv fp f H R z hz
 split at hz
 ·cases hz
 ·rename_i h0
  cases hz
  exact⟨_,none,by simp only[Bp,BY.1 (ha E rv fp f H R),BY.1 (hb E rv fp f H R),bin,if_true,if_neg h0];rfl,rfl,BY.2 rfl⟩
theorem h_shr{k:IntKind}{J:IT}{x:Int}{y:J.t.α}{a b:AO}(ha:C7 tb Γ a (.val (T.int k) x))(hb:C7 tb Γ b (.val J.t y)):Fw tb Γ (.bin .shr a b) (if J.toI y<0 then none else some (x.fdiv (2^(min (J.toI y).toNat k.bits)))) fun z=> .val (T.int k) z:=by
 intro E rv fp f H R z hz
 split at hz
 ·cases hz
 ·rename_i h0
  cases hz
  exact⟨_,none,by simp only[Bp,BY.1 (ha E rv fp f H R),Ld (hb E rv fp f H R),bin,if_neg h0];rfl,rfl,BY.2 rfl⟩
structure NT extends IT where
 lt: ∀x,0≤toI x∧toI x<2^k.bits
 w: ∀n,0≤n→n<2^k.bits→k.wrap n=n
def NT.u8:NT:=⟨IT.u8,fun x=>⟨by simp[IT.u8],by have:x.toNat<256:=UInt8.toNat_lt x;simp only[IT.u8,IntKind.bits];omega⟩,fun n h0 h1=>by simp only[IT.u8,IntKind.bits]at*;rw[oQ];omega⟩
def NT.u16:NT:=⟨IT.u16,fun x=>⟨by simp[IT.u16],by have:x.toNat<65536:=UInt16.toNat_lt x;simp only[IT.u16,IntKind.bits];omega⟩,fun n h0 h1=>by simp only[IT.u16,IntKind.bits]at*;rw[eV];omega⟩
def NT.u32:NT:=⟨IT.u32,fun x=>⟨by simp[IT.u32],by have:x.toNat<4294967296:=UInt32.toNat_lt x;simp only[IT.u32,IntKind.bits];omega⟩,fun n h0 h1=>by simp only[IT.u32,IntKind.bits]at*;rw[eU];omega⟩
def NT.u64:NT:=⟨IT.u64,fun x=>⟨by simp[IT.u64],by have:x.toNat<18446744073709551616:=UInt64.toNat_lt x;simp only[IT.u64,IntKind.bits];omega⟩,fun n h0 h1=>by simp only[IT.u64,IntKind.bits]at*;rw[eT];omega⟩
theorem PB{I:NT}{x y:I.t.α}{a b:AO}(ha:C7 tb Γ a (.val I.t x))(hb:C7 tb Γ b (.val I.t y)):Fw tb Γ (.bin .rem a b) (if I.toI y=0 then none else some (I.ofI ((I.toI x).tmod (I.toI y)))) fun z=> .val I.t z:=by
 intro E rv fp f H R z hz
 split at hz
 ·cases hz
 ·rename_i h0
  cases hz
  have h1:=I.lt x
  have h2:=I.lt y
  have hm:(I.toI x).tmod (I.toI y)=(I.toI x)%(I.toI y):=Int.tmod_eq_emod_of_nonneg h1.1
  have hw:=I.w ((I.toI x).tmod (I.toI y)) (by rw[hm];exact Int.emod_nonneg _ h0) (by rw[hm];exact Int.lt_of_lt_of_le (Int.emod_lt_of_pos _ (by omega)) (by omega))
  refine⟨_,none,by simp only[Bp,Ld (I:=I.toIT) (ha E rv fp f H R),Ld (I:=I.toIT) (hb E rv fp f H R),bin,if_true,if_neg h0];rfl,rfl,?_⟩
  have:=QY (rv:=rv) (ss:=Γ.ss) (P:=Pf E Γ.ss fp H) (H:=H) I.toIT (n:=(I.toI x).tmod (I.toI y))
  rwa [hw]at this
theorem Xn{I:NT}{J:IT}{x:I.t.α}{y:J.t.α}{a b:AO}(ha:C7 tb Γ a (.val I.t x))(hb:C7 tb Γ b (.val J.t y)):Fw tb Γ (.bin .shr a b) (if J.toI y<0 then none else some (I.ofI ((I.toI x).fdiv (2^(min (J.toI y).toNat I.k.bits))))) fun z=> .val I.t z:=by
 intro E rv fp f H R z hz
 split at hz
 ·cases hz
 ·rename_i h0
  cases hz
  have h1:=I.lt x
  have hp:(0:Int)<2^(min (J.toI y).toNat I.k.bits):=by exact_mod_cast Nat.two_pow_pos _
  have hm:(I.toI x).fdiv (2^(min (J.toI y).toNat I.k.bits))=(I.toI x)/(2^(min (J.toI y).toNat I.k.bits)):=Int.fdiv_eq_ediv_of_nonneg _ (by omega)
  have hw:=I.w ((I.toI x).fdiv (2^(min (J.toI y).toNat I.k.bits))) (by rw[hm];exact Int.ediv_nonneg h1.1 (by omega)) (by rw[hm];exact Int.lt_of_le_of_lt (Int.ediv_le_self _ h1.1) h1.2)
  refine⟨_,none,by simp only[Bp,Ld (I:=I.toIT) (ha E rv fp f H R),Ld (hb E rv fp f H R),bin,if_neg h0];rfl,rfl,?_⟩
  have:=QY (rv:=rv) (ss:=Γ.ss) (P:=Pf E Γ.ss fp H) (H:=H) I.toIT (n:=(I.toI x).fdiv (2^(min (J.toI y).toNat I.k.bits)))
  rwa [hw]at this
section
variable{a b:AO}
theorem EQ{x:Bool}(ha:C7 tb Γ a (.val T.b x)):Fw tb Γ (.un .not a) (some (!x)) fun z=> .val T.b z:=by
 rintro E rv fp f H R z ⟨⟩
 exact⟨_,none,by simp only[Bp,Gb.1 (ha E rv fp f H R),un];rfl,rfl,Gb.2 rfl⟩
def Fo{α:Type}(l:List α)(i:Int):Option α:=if 0≤i then l[i.toNat]? else none
def Tu(len:Nat)(lo hi:Option Int):Option (Nat×Nat):=
 (match hi with
  |none=>some len
  |some n=>if 0≤n∧n≤len then some n.toNat else none).bind fun h=>
 (match lo with
  |none=>some 0
  |some n=>if 0≤n∧n≤h then some n.toNat else none).bind fun l=>some (l,h)
def UZ{α:Type}(l:List α)(lo hi:Option Int):Option (List α):=(Tu l.length lo hi).map fun p=>(l.take p.2).drop p.1
inductive uG(tb:CW)(Γ:Cx):Option AO→Option Int→Prop where
 |none:uG tb Γ none none
 |some {a:AO} {k:IntKind} {n:Int}:C7 tb Γ a (.val (T.int k) n)→uG tb Γ (some a) (some n)
theorem Um{lo hi:Option AO}{l h:Option Int}(hl:uG tb Γ lo l)(hh:uG tb Γ hi h){E:Ph}{rv:Nat→AV}{fp:Fp}{f:Fr}{H:Av}(R:Bo E Γ rv fp f H)(len:Nat):Hn (eval tb f) len lo hi=Tu len l h:=by
 cases hl with
 |none=>
  cases hh with
  |none=>rfl
  |some hh=>simp only[Hn,Tu,JS,BY.1 (hh E rv fp f H R),HQ,Option.bind_some]
 |some hl=>
  cases hh with
  |none=>simp only[Hn,Tu,JS,BY.1 (hl E rv fp f H R),HQ,Option.bind_some]
  |some hh=>simp only[Hn,Tu,JS,BY.1 (hl E rv fp f H R),BY.1 (hh E rv fp f H R),HQ,Option.bind_some]
variable{x y:AM}
theorem BR(ha:C7 tb Γ a (.val Ax x))(hb:C7 tb Γ b (.val Ax y)):Fw tb Γ (.bin .add a b) (if x.length+y.length≤2*Be then some (x++y)else none) fun z=> .val Ax z:=by
 intro E rv fp f H R z hz
 split at hz
 ·rename_i h0
  cases hz
  exact⟨_,none,by simp only[Bp,E8.1 (ha E rv fp f H R),E8.1 (hb E rv fp f H R),bin,if_pos h0];rfl,rfl,E8.2 rfl⟩
 ·cases hz
theorem MG(ha:C7 tb Γ a (.val Ax x))(hb:C7 tb Γ b (.val Ax y)):Fw tb Γ (.bin .eql a b) (some (decide (x=y))) fun z=> .val T.b z:=by
 rintro E rv fp f H R z ⟨⟩
 exact⟨_,none,by simp only[Bp,E8.1 (ha E rv fp f H R),E8.1 (hb E rv fp f H R),bin];rfl,rfl,Gb.2 (by congr 1;rw[Bool.eq_iff_iff];simp)⟩
theorem F3(ha:C7 tb Γ a (.val Ax x)):Fw tb Γ (.lens a) (some (x.length:Int)) fun z=> .val (T.int .i64) z:=by
 rintro E rv fp f H R z ⟨⟩
 exact⟨_,none,by simp only[Bp,E8.1 (ha E rv fp f H R)],rfl,BY.2 rfl⟩
theorem EA{k:IntKind}{n:Int}(ha:C7 tb Γ a (.val Ax x))(hb:C7 tb Γ b (.val (T.int k) n)):Fw tb Γ (.ixs a b) (Fo x n) fun z=> .val T.u8 z:=by
 intro E rv fp f H R z hz
 simp only[Fo]at hz
 split at hz
 ·rename_i h0
  exact⟨_,none,by simp only[Bp,E8.1 (ha E rv fp f H R),BY.1 (hb E rv fp f H R),HQ,Option.bind_some,if_pos h0,hz,Option.map_some],rfl,Uu.2 rfl⟩
 ·cases hz
theorem UE{lo hi:Option AO}{l h:Option Int}(ha:C7 tb Γ a (.val Ax x))(hl:uG tb Γ lo l)(hh:uG tb Γ hi h):Fw tb Γ (.sls a lo hi) (UZ x l h) fun z=> .val Ax z:=by
 intro E rv fp f H R z hz
 obtain⟨p,hp,rfl⟩:=Option.map_eq_some_iff.1 hz
 exact⟨_,none,by simp only[Bp,E8.1 (ha E rv fp f H R),Um hl hh R,hp,Option.map_some],rfl,E8.2 rfl⟩
theorem h_cvc{k:IntKind}{n:Int}(ha:C7 tb Γ a (.val (T.int k) n)):Fw tb Γ (.cvc a) (some (Utf8.encode n).data.toList) fun z=> .val Ax z:=by
 rintro E rv fp f H R z ⟨⟩
 exact⟨_,none,by simp only[Bp,BY.1 (ha E rv fp f H R)],rfl,E8.2 rfl⟩
end
def gd(g:Nat)(w:Bool)(o:AT):AT:=match o.g with
 |none=>{o with g:=some (g,w)}
 |some _=>o
def Zs:List Nat→List AT→Bool
 |_,[]=>true
 |seen,o::r=>(match o.g with
  |none=>true
  |some (t,_)=>seen.any (Nat.beq t))&&Zs (match o.d with|some d=>d::seen|none=>seen) r
def E0(l:List AT):List Nat:=l.filterMap (·.d)
structure Bj(tb:CW)(Γ:Cx)(q:Bool)(l:List AT)(t:Nat) where
 m:Option Bool
 ok: ∀E rv fp f H,Bo E Γ rv fp f H→ ∀b,m=some b→ ∃f',AW tb (Ch tb) (rg q l) f H=some (.normal,f',H)∧get f' t= .b b∧ ∀u,u∉E0 l→get f' u=get f u
def Bj.nil{q:Bool}{t:Nat}{b:Bool}(h:C7 tb Γ (.t t) (.val T.b b)):Bj tb Γ q [] t:=
 ⟨some b,fun E rv fp f H I _ hb=>by
  cases hb
  exact⟨f,Dv,Gb.1 (h E rv fp f H I),fun _ _=>rfl⟩⟩
def Bj.op{q:Bool}{t d:Nat}{o:HN}{l:List AT}{β:Type}{a:Option β}{φ:β→AK}(h:Fw tb Γ o a φ)(k:(b:β)→Bj tb (Γ.push d (φ b)) q l t):Bj tb Γ q (⟨some d,none,o⟩::l) t:=
 ⟨a.bind fun b=>(k b).m,fun E rv fp f H I r hr=>by
  obtain⟨b,hb,hr⟩:=Option.bind_eq_some_iff.1 hr
  obtain⟨v,u,h1,h2,h3⟩:=h E rv fp f H I b hb
  obtain⟨f',h4,h5,h6⟩:=(k b).ok E rv fp (put f (some d) v) H (I.push h3) r hr
  refine⟨f',by rw[E6 h1 h2];exact h4,h5,fun u hu=> ?_⟩
  simp only[E0,List.filterMap_cons,List.mem_cons,not_or]at hu
  rw[h6 u hu.2]
  simp only[put,get]
  rw[if_neg (Ne.symm hu.1)]⟩
def Ca{q:Bool}{t d:Nat}{o:HN}{l:List AT}{u:T}{x:u.α}(h:Fw tb Γ o (some ()) fun _=> .val u x)(k:(y:u.α)→Bj tb (Γ.push d (.val u y)) q l t):Bj tb Γ q (⟨some d,none,o⟩::l) t:=
 ⟨(k x).m,(Bj.op (a:=some ()) (φ:=fun _=> .val u x) h fun _=>k x).ok⟩
def AP{q:Bool}{t d:Nat}{o:HN}{l:List AT}{φ:AK}(h:Fw tb Γ o (some ()) fun _=>φ)(k:Bj tb (Γ.push d φ) q l t):Bj tb Γ q (⟨some d,none,o⟩::l) t:=
 ⟨k.m,(Bj.op (a:=some ()) (φ:=fun _=>φ) h fun _=>k).ok⟩
theorem Ft{q:Bool}: ∀{l r:List AT} {f f':Fr} {H H':Av},AW tb (Ch tb) (rg q l) f H=some (.normal,f',H')→AW tb (Ch tb) (rg q (l++r)) f H=AW tb (Ch tb) (rg q r) f' H'
 |[],r,f,f',H,H',h=>by rw[Dv]at h;cases h;rfl
 |o::l,r,f,f',H,H',h=>by
  cases q with
  |true=>
   simp only[rg,if_true,AW,List.cons_append,Ia]at h ⊢
   cases hw:wanted f o.g with
   |none=>rw[hw]at h;simp at h
   |some w=>
    rw[hw]at h
    simp only[Option.bind_some]at h ⊢
    cases w with
    |false=>
     simp only[Bool.false_eq_true,if_false]at h ⊢
     exact Ft (q:=true) (l:=l) (r:=r) (by simpa [rg,AW]using h)
    |true=>
     simp only[if_true]at h ⊢
     cases hp:Bp tb (Ch tb) (eval tb f) H o.o with
     |none=>rw[hp]at h;simp at h
     |some p=>
      rw[hp]at h
      simp only[Option.bind_some]at h ⊢
      split at h
      ·rename_i hs
       rw[if_pos hs]
       exact Ft (q:=true) (l:=l) (r:=r) (by simpa [rg,AW]using h)
      ·simp at h
  |false=>
   simp only[rg,Bool.false_eq_true,if_false,AW,List.cons_append,ops]at h ⊢
   cases hw:wanted f o.g with
   |none=>rw[hw]at h;simp at h
   |some w=>
    rw[hw]at h
    simp only[Option.bind_some]at h ⊢
    cases w with
    |false=>
     simp only[Bool.false_eq_true,if_false]at h ⊢
     exact Ft (q:=false) (l:=l) (r:=r) (by simpa [rg,AW]using h)
    |true=>
     simp only[if_true]at h ⊢
     cases hp:Bp tb (Ch tb) (eval tb f) H o.o with
     |none=>rw[hp]at h;simp at h
     |some p=>
      rw[hp]at h
      simp only[Option.bind_some]at h ⊢
      exact Ft (q:=false) (l:=l) (r:=r) (by simpa [rg,AW]using h)
def KC(g:Nat)(w:Bool):Nat→List AT→Option (List AT×List AT)
 |0,L=>some ([],L)
 |n+1,⟨d,some (g',w'),o⟩::r=>(KC g w n r).map fun p=>(if Nat.beq g' g&&(w'==w)then⟨d,none,o⟩::p.1 else⟨d,some (g',w'),o⟩::p.1,p.2)
 |_,_=>none
theorem GZ{g:Nat}{w:Bool}: ∀{n:Nat} {L l R:List AT},KC g w n L=some (l,R)→L=l.map (gd g w)++R
 |0,L,l,R,h=>by simp only[KC,Option.some.injEq,Prod.mk.injEq]at h;rw[←h.1,←h.2];rfl
 |n+1,[],l,R,h=>by simp[KC]at h
 |n+1,⟨d,none,o⟩::r,l,R,h=>by simp[KC]at h
 |n+1,⟨d,some (g',w'),o⟩::r,l,R,h=>by
  simp only[KC]at h
  obtain⟨p,hp,h⟩:=Option.map_eq_some_iff.1 h
  have ih:=GZ (l:=p.1) (R:=p.2) hp
  simp only[Prod.mk.injEq]at h
  obtain⟨h1,rfl⟩:=h
  split at h1
  ·rename_i hc
   simp only[Bool.and_eq_true,beq_iff_eq]at hc
   obtain⟨hc,rfl⟩:=hc
   have hc:=Nat.eq_of_beq_eq_true hc
   subst hc
   rw[←h1,ih];rfl
  ·rw[←h1,ih];rfl
theorem wanted_put{f:Fr}{g:Nat}{w:Bool}{v:AV}{d:Option Nat}(h:d≠some g):get (put f d v) g=get f g:=by
 cases d with
 |none=>rfl
 |some d=>simp only[put,get];rw[if_neg (fun e=>h (by rw[e]))]
theorem WB{q:Bool}{g:Nat}{w:Bool}: ∀{l:List AT} {f:Fr} {H:Av},get f g= .b w→g∉E0 l→AW tb (Ch tb) (rg q (l.map (gd g w))) f H=AW tb (Ch tb) (rg q l) f H
 |[],_,_,_,_=>rfl
 |o::l,f,H,h,hn=>by
  have hd:o.d≠some g:=fun e=>hn (by simp[E0,e])
  have hn':g∉E0 l:=fun e=>hn (by
   simp only[E0,List.filterMap_cons]at e ⊢
   cases o.d<;>simp[e])
  have hwt:wanted f (gd g w o).g=wanted f o.g:=by
   cases ho:o.g with
   |none=>simp[gd,ho,wanted,h]
   |some p=>simp[gd,ho]
  have hoo:(gd g w o).o=o.o:=by cases ho:o.g<;>simp[gd,ho]
  have hod:(gd g w o).d=o.d:=by cases ho:o.g<;>simp[gd,ho]
  have ih: ∀v H',AW tb (Ch tb) (rg q (l.map (gd g w))) (put f o.d v) H'=AW tb (Ch tb) (rg q l) (put f o.d v) H':=fun v H'=>WB (by rw[wanted_put (w:=w) hd];exact h) hn'
  cases q with
  |true=>
   have ih': ∀v H',Ia tb (Ch tb) H' (l.map (gd g w)) (put f o.d v)=Ia tb (Ch tb) H' l (put f o.d v):=fun v H'=>by
    have:=ih v H'
    simp only[rg,if_true,AW]at this
    cases h1:Ia tb (Ch tb) H' (l.map (gd g w)) (put f o.d v)<;>cases h2:Ia tb (Ch tb) H' l (put f o.d v)<;>simp_all
   simp only[rg,if_true,AW,List.map_cons,Ia,hwt,hoo,hod,ih']
  |false=>
   have ih': ∀v H',ops tb (Ch tb) (l.map (gd g w)) (put f o.d v) H'=ops tb (Ch tb) l (put f o.d v) H':=fun v H'=>by
    have:=ih v H'
    simp only[rg,Bool.false_eq_true,if_false,AW]at this
    cases h1:ops tb (Ch tb) (l.map (gd g w)) (put f o.d v) H'<;>cases h2:ops tb (Ch tb) l (put f o.d v) H'<;>simp_all [Prod.ext_iff]
   simp only[rg,Bool.false_eq_true,if_false,AW,List.map_cons,ops,hwt,hoo,hod,ih']
theorem PS{q:Bool}{g:Nat}{w:Bool}: ∀{l:List AT} {seen:List Nat} {f:Fr} {H:Av},get f g= .b (!w)→g∉E0 l→Zs seen l=true→(∀t∈seen,get f t= .tup [])→
  ∃f',AW tb (Ch tb) (rg q (l.map (gd g w))) f H=some (.normal,f',H)∧ ∀u,u∉E0 l→get f' u=get f u
 |[],seen,f,H,_,_,_,_=>⟨f,Dv,fun _ _=>rfl⟩
 |o::l,seen,f,H,h,hn,hs,hseen=>by
  have hd:o.d≠some g:=fun e=>hn (by simp[E0,e])
  have hn':g∉E0 l:=fun e=>hn (by
   simp only[E0,List.filterMap_cons]at e ⊢
   cases o.d<;>simp[e])
  simp only[Zs,Bool.and_eq_true]at hs
  have hwt:wanted f (gd g w o).g=some false:=by
   cases ho:o.g with
   |none=>simp[gd,ho,wanted,h]
   |some p=>
    obtain⟨t,b⟩:=p
    simp only[gd,ho,wanted]
    have:=hs.1
    rw[ho]at this
    obtain⟨x,hx,hb⟩:=List.any_eq_true.1 this
    have hb:=Nat.eq_of_beq_eq_true hb
    subst hb
    rw[hseen _ hx]
  have hod:(gd g w o).d=o.d:=by cases ho:o.g<;>simp[gd,ho]
  obtain⟨f',h1,h2⟩:=PS (q:=q) (w:=w) (l:=l) (seen:=match o.d with|some d=>d::seen|none=>seen) (f:=put f o.d (.tup [])) (H:=H)
   (by rw[wanted_put (w:=w) hd];exact h) hn' hs.2 (fun t ht=>by
    cases hdd:o.d with
    |none=>rw[hdd]at ht;exact hseen t ht
    |some d=>
     rw[hdd]at ht
     simp only[put,get]
     by_cases e:d=t
     ·rw[if_pos e]
     ·rw[if_neg e]
      rcases List.mem_cons.1 ht with e'|ht
      ·exact absurd e'.symm e
      ·exact hseen t ht)
  refine⟨f',?_,fun u hu=> ?_⟩
  ·cases q with
   |true=>
    simp only[rg,if_true,AW]at h1 ⊢
    simp only[List.map_cons,Ia,hwt,Option.bind_some,Bool.false_eq_true,if_false,hod];exact h1
   |false=>
    simp only[rg,Bool.false_eq_true,if_false,AW]at h1 ⊢
    simp only[List.map_cons,ops,hwt,Option.bind_some,Bool.false_eq_true,if_false,hod];exact h1
  ·have hu':u∉E0 l:=fun e=>hu (by
    simp only[E0,List.filterMap_cons]at e ⊢
    cases o.d<;>simp[e])
   rw[h2 u hu']
   exact wanted_put (w:=w) fun e=>hu (by simp[E0,e])
def YG(l:List Nat)(n:Nat):Bool:=l.any (Nat.beq n)
theorem JK{l:List Nat}{n:Nat}(h:YG l n=false):n∉l:=by
 intro hm
 rw[YG,List.any_eq_false]at h
 exact h n hm (by simp)
def qS(l:List Nat)(ts:Ts):Bool:=ts.all fun p=> !YG l p.1
theorem IC{l:List Nat}: ∀{ts:Ts} {t:Nat} {φ:AK},qS l ts=true→BB ts t=some φ→t∉l
 |[],_,_,_,e=>by simp[BB]at e
 |(u,ψ)::r,t,φ,h,e=>by
  simp only[qS,List.all_cons,Bool.and_eq_true,Bool.not_eq_true']at h
  simp only[BB]at e
  split at e
  ·rename_i hu;subst hu;exact JK h.1
  ·exact IC (by simpa [qS]using h.2) e
def VF(g:Nat)(l:List AT)(ts:Ts):Bool:=Zs [] l&&(!YG (E0 l) g&&qS (E0 l) ts)
theorem WN{f:Fr}{H:Av}{E:Ph}{rv:Nat→AV}{fp:Fp}(I:Bo E Γ rv fp f H){d:Nat}{z:Bool}:Bo E (Γ.push d (.val T.b z)) rv fp (put f (some d) (.b z)) H:=I.push (Gb.2 rfl)
def Dx(b:Bool)(m:Option Bool):Option Bool:=if b=true then m else some false
def HZ(b:Bool)(m:Option Bool):Option Bool:=if b=true then some true else m
variable{ks:List Kf}{ρ:Type}{Q:LT ρ}
def Aa.and{q:Bool}{L l rest:List AT}{g t d:Nat}{b:Bool}(n:Nat)(og:BB Γ.ts g=some (.val T.b b))(h:KC g true n L=some (l,⟨some d,none, .pick (.t g) (.t t) (.k (.b false))⟩::rest))(hc:VF g l Γ.ts=true)
  (ON:Bj tb Γ q l t) (k:(z:Bool)→Aa tb (Γ.push d (.val T.b z)) (rg q rest) ks Q):Aa tb Γ (rg q L) ks Q:=
 ⟨(Dx b ON.m).bind fun z=>(k z).m,fun E f H ⟨rv,fp,I⟩ r hr=>by
  obtain⟨z,hz,hr⟩:=Option.bind_eq_some_iff.1 hr
  have hL:=GZ h
  simp only[VF,Bool.and_eq_true,Bool.not_eq_true']at hc
  obtain⟨hc1,hc2,hc3⟩:=hc
  have hg:=Gb.1 (I.temps g _ og)
  have hng:=JK hc2
  have fin: ∃f',AW tb (Ch tb) (rg q (l.map (gd g true))) f H=some (.normal,f',H)∧(∀u,u∉E0 l→get f' u=get f u)∧(if b then get f' t else .b false)= .b z:=by
   cases b with
   |true=>
    obtain⟨f',h1,h2,h3⟩:=ON.ok E rv fp f H I z (by simpa [Dx,HZ]using hz)
    exact⟨f',by rw[WB hg hng];exact h1,h3,by simpa using h2⟩
   |false=>
    obtain⟨f',h1,h2⟩:=PS (tb:=tb) (q:=q) (w:=true) (H:=H) hg hng hc1 (by simp)
    exact⟨f',h1,h2,by simpa [Dx,HZ]using hz⟩
  obtain⟨f',h1,h2,h3⟩:=fin
  have hp:Bp tb (Ch tb) (eval tb f') H (.pick (.t g) (.t t) (.k (.b false)))=some (.b z,none):=by
   simp only[Bp,eval,h2 g hng,hg]
   rw[←h3]
  have I':Bo E Γ rv fp f' H:=I.fr fun u φ e=>h2 u (IC hc3 e)
  obtain⟨e,f2,H2,h4,h5⟩:=(k z).ok E _ H ⟨rv,fp,WN I'⟩ r hr
  exact⟨e,f2,H2,by rw[hL,Ft h1,E6 hp rfl];exact h4,h5⟩⟩
def Aa.or{q:Bool}{L l rest:List AT}{g t d:Nat}{b:Bool}(n:Nat)(og:BB Γ.ts g=some (.val T.b b))(h:KC g false n L=some (l,⟨some d,none, .pick (.t g) (.k (.b true)) (.t t)⟩::rest))(hc:VF g l Γ.ts=true)
  (ON:Bj tb Γ q l t) (k:(z:Bool)→Aa tb (Γ.push d (.val T.b z)) (rg q rest) ks Q):Aa tb Γ (rg q L) ks Q:=
 ⟨(HZ b ON.m).bind fun z=>(k z).m,fun E f H ⟨rv,fp,I⟩ r hr=>by
  obtain⟨z,hz,hr⟩:=Option.bind_eq_some_iff.1 hr
  have hL:=GZ h
  simp only[VF,Bool.and_eq_true,Bool.not_eq_true']at hc
  obtain⟨hc1,hc2,hc3⟩:=hc
  have hg:=Gb.1 (I.temps g _ og)
  have hng:=JK hc2
  have fin: ∃f',AW tb (Ch tb) (rg q (l.map (gd g false))) f H=some (.normal,f',H)∧(∀u,u∉E0 l→get f' u=get f u)∧(if b then .b true else get f' t)= .b z:=by
   cases b with
   |false=>
    obtain⟨f',h1,h2,h3⟩:=ON.ok E rv fp f H I z (by simpa [Dx,HZ]using hz)
    exact⟨f',by rw[WB hg hng];exact h1,h3,by simpa using h2⟩
   |true=>
    obtain⟨f',h1,h2⟩:=PS (tb:=tb) (q:=q) (w:=false) (H:=H) hg hng hc1 (by simp)
    exact⟨f',h1,h2,by simpa [Dx,HZ]using hz⟩
  obtain⟨f',h1,h2,h3⟩:=fin
  have hp:Bp tb (Ch tb) (eval tb f') H (.pick (.t g) (.k (.b true)) (.t t))=some (.b z,none):=by
   simp only[Bp,eval,h2 g hng,hg]
   rw[←h3]
  have I':Bo E Γ rv fp f' H:=I.fr fun u φ e=>h2 u (IC hc3 e)
  obtain⟨e,f2,H2,h4,h5⟩:=(k z).ok E _ H ⟨rv,fp,WN I'⟩ r hr
  exact⟨e,f2,H2,by rw[hL,Ft h1,E6 hp rfl];exact h4,h5⟩⟩
def Bj.and{q:Bool}{L l rest:List AT}{g t t' d:Nat}{b:Bool}(n:Nat)(og:BB Γ.ts g=some (.val T.b b))(h:KC g true n L=some (l,⟨some d,none, .pick (.t g) (.t t) (.k (.b false))⟩::rest))(hc:VF g l Γ.ts=true)
  (hd:(E0 l).all (YG (E0 L))=true) (hd':(d::E0 rest).all (YG (E0 L))=true)
  (ON:Bj tb Γ q l t) (k:(z:Bool)→Bj tb (Γ.push d (.val T.b z)) q rest t'):Bj tb Γ q L t':=
 ⟨(Dx b ON.m).bind fun z=>(k z).m,fun E rv fp f H I r hr=>by
  obtain⟨z,hz,hr⟩:=Option.bind_eq_some_iff.1 hr
  have hL:=GZ h
  simp only[VF,Bool.and_eq_true,Bool.not_eq_true']at hc
  obtain⟨hc1,hc2,hc3⟩:=hc
  have hg:=Gb.1 (I.temps g _ og)
  have hng:=JK hc2
  have sub: ∀{m:List Nat},m.all (YG (E0 L))=true→ ∀u,u∉E0 L→u∉m:=fun hm u hu hum=>by
   have:=List.all_eq_true.1 hm u hum
   obtain⟨x,hx,hb⟩:=List.any_eq_true.1 this
   exact hu (Nat.eq_of_beq_eq_true hb▸hx)
  have fin: ∃f',AW tb (Ch tb) (rg q (l.map (gd g true))) f H=some (.normal,f',H)∧(∀u,u∉E0 l→get f' u=get f u)∧(if b then get f' t else .b false)= .b z:=by
   cases b with
   |true=>
    obtain⟨f',h1,h2,h3⟩:=ON.ok E rv fp f H I z (by simpa [Dx,HZ]using hz)
    exact⟨f',by rw[WB hg hng];exact h1,h3,by simpa using h2⟩
   |false=>
    obtain⟨f',h1,h2⟩:=PS (tb:=tb) (q:=q) (w:=true) (H:=H) hg hng hc1 (by simp)
    exact⟨f',h1,h2,by simpa [Dx,HZ]using hz⟩
  obtain⟨f',h1,h2,h3⟩:=fin
  have hp:Bp tb (Ch tb) (eval tb f') H (.pick (.t g) (.t t) (.k (.b false)))=some (.b z,none):=by
   simp only[Bp,eval,h2 g hng,hg]
   rw[←h3]
  have I':Bo E Γ rv fp f' H:=I.fr fun u φ e=>h2 u (IC hc3 e)
  obtain⟨f2,h4,h5,h6⟩:=(k z).ok E rv fp _ H (WN I') r hr
  refine⟨f2,by rw[hL,Ft h1,E6 hp rfl];exact h4,h5,fun u hu=> ?_⟩
  have hu':=sub hd' u hu
  rw[h6 u fun e=>hu' (List.mem_cons_of_mem _ e),wanted_put (w:=true) (fun e=>hu' (by cases e;exact List.mem_cons_self)),h2 u (sub hd u hu)]⟩
def Bj.or{q:Bool}{L l rest:List AT}{g t t' d:Nat}{b:Bool}(n:Nat)(og:BB Γ.ts g=some (.val T.b b))(h:KC g false n L=some (l,⟨some d,none, .pick (.t g) (.k (.b true)) (.t t)⟩::rest))(hc:VF g l Γ.ts=true)
  (hd:(E0 l).all (YG (E0 L))=true) (hd':(d::E0 rest).all (YG (E0 L))=true)
  (ON:Bj tb Γ q l t) (k:(z:Bool)→Bj tb (Γ.push d (.val T.b z)) q rest t'):Bj tb Γ q L t':=
 ⟨(HZ b ON.m).bind fun z=>(k z).m,fun E rv fp f H I r hr=>by
  obtain⟨z,hz,hr⟩:=Option.bind_eq_some_iff.1 hr
  have hL:=GZ h
  simp only[VF,Bool.and_eq_true,Bool.not_eq_true']at hc
  obtain⟨hc1,hc2,hc3⟩:=hc
  have hg:=Gb.1 (I.temps g _ og)
  have hng:=JK hc2
  have sub: ∀{m:List Nat},m.all (YG (E0 L))=true→ ∀u,u∉E0 L→u∉m:=fun hm u hu hum=>by
   have:=List.all_eq_true.1 hm u hum
   obtain⟨x,hx,hb⟩:=List.any_eq_true.1 this
   exact hu (Nat.eq_of_beq_eq_true hb▸hx)
  have fin: ∃f',AW tb (Ch tb) (rg q (l.map (gd g false))) f H=some (.normal,f',H)∧(∀u,u∉E0 l→get f' u=get f u)∧(if b then .b true else get f' t)= .b z:=by
   cases b with
   |false=>
    obtain⟨f',h1,h2,h3⟩:=ON.ok E rv fp f H I z (by simpa [Dx,HZ]using hz)
    exact⟨f',by rw[WB hg hng];exact h1,h3,by simpa using h2⟩
   |true=>
    obtain⟨f',h1,h2⟩:=PS (tb:=tb) (q:=q) (w:=false) (H:=H) hg hng hc1 (by simp)
    exact⟨f',h1,h2,by simpa [Dx,HZ]using hz⟩
  obtain⟨f',h1,h2,h3⟩:=fin
  have hp:Bp tb (Ch tb) (eval tb f') H (.pick (.t g) (.k (.b true)) (.t t))=some (.b z,none):=by
   simp only[Bp,eval,h2 g hng,hg]
   rw[←h3]
  have I':Bo E Γ rv fp f' H:=I.fr fun u φ e=>h2 u (IC hc3 e)
  obtain⟨f2,h4,h5,h6⟩:=(k z).ok E rv fp _ H (WN I') r hr
  refine⟨f2,by rw[hL,Ft h1,E6 hp rfl];exact h4,h5,fun u hu=> ?_⟩
  have hu':=sub hd' u hu
  rw[h6 u fun e=>hu' (List.mem_cons_of_mem _ e),wanted_put (w:=true) (fun e=>hu' (by cases e;exact List.mem_cons_self)),h2 u (sub hd u hu)]⟩
end
end Go.Proofs.YtobejhpigbllpaaGreatDoor.Am
namespace Go.Proofs.YtobejhpigbllpaaGreatDoor.Am
structure AL(t u:T)(off:Nat) where
 get:t.α→u.α
 put:t.α→u.α→t.α
 le:off+u.sz≤t.sz
 getR: ∀{P:Nat→Prop} {H:Av} {cs:List AV} {x:t.α},t.R P H cs x→u.R P H (sub cs off u.sz) (get x)
 putR: ∀{P:Nat→Prop} {H:Av} {cs:List AV} {x:t.α} {c:List AV} {y:u.α},t.R P H cs x→u.R P H c y→t.R P H (Bw cs off c) (put x y)
def Aw(t:T):AL t t 0 where
 get:=fun x=>x
 put:=fun _ y=>y
 le:=by omega
 getR:=fun{P H cs x} h=>by
  have:=t.len h
  rw[show sub cs 0 t.sz=cs by simp only[sub,List.drop_zero];exact List.take_of_length_le (by omega)];exact h
 putR:=fun{P H cs x c y} h g=>by
  have h1:=t.len h
  have h2:=t.len g
  rw[show Bw cs 0 c=c by simp[Bw,List.drop_eq_nil_of_le (show cs.length≤c.length by omega)]];exact g
def DN{a b u:T}{off:Nat}(F:AL a u off):AL (CE a b) u off where
 get:=fun x=>F.get x.1
 put:=fun x y=>(F.put x.1 y,x.2)
 le:=Nat.le_trans F.le (Nat.le_add_right _ _)
 getR:=fun{P H cs x} ⟨c,d,e,h,g⟩=>by
  have h1:=a.len h
  have h2:=F.le
  have:=F.getR h
  rw[show sub cs off u.sz=sub c off u.sz by
   subst e
   simp only[sub]
   rw[List.drop_append_of_le_length (by omega),List.take_append_of_le_length (by simp;omega)]]
  exact this
 putR:=fun{P H cs x c' y} ⟨c,d,e,h,g⟩ k=>by
  have h1:=a.len h
  have h2:=F.le
  have h3:=u.len k
  refine⟨Bw c off c',d,?_,F.putR h k,g⟩
  subst e
  simp only[Bw]
  rw[List.take_append_of_le_length (by omega),List.drop_append_of_le_length (by omega)]
  simp
def Bb{a b u:T}{off:Nat}(F:AL b u off):AL (CE a b) u (a.sz+off) where
 get:=fun x=>F.get x.2
 put:=fun x y=>(x.1,F.put x.2 y)
 le:=by have:=F.le;show a.sz+off+u.sz≤a.sz+b.sz;omega
 getR:=fun{P H cs x} ⟨c,d,e,h,g⟩=>by
  have h1:=a.len h
  have:=F.getR g
  rw[show sub cs (a.sz+off) u.sz=sub d off u.sz by
   subst e
   simp only[sub]
   rw[←List.drop_drop,List.drop_left' h1]]
  exact this
 putR:=fun{P H cs x c' y} ⟨c,d,e,h,g⟩ k=>by
  have h1:=a.len h
  refine⟨c,Bw d off c',?_,h,F.putR g k⟩
  subst e
  simp only[Bw]
  rw[List.take_append,List.take_of_length_le (by omega),show a.sz+off-c.length=off by omega]
  rw[show a.sz+off+c'.length=c.length+(off+c'.length) by omega,←List.drop_drop,List.drop_left' rfl]
  simp
def Dg{t u:T}{off:Nat}{β:Type}{f:β→t.α}{g:t.α→β}{hfg: ∀y,f (g y)=y}(F:AL t u off):AL (OW t β f g hfg) u off where
 get:=fun x=>F.get (f x)
 put:=fun x y=>g (F.put (f x) y)
 le:=F.le
 getR:=fun h=>F.getR h
 putR:=fun{P H cs x c y} h k=>by
  show t.R P H _ (f (g _))
  rw[hfg]
  exact F.putR h k
def Ar.set{α:Type}{n:Nat}(a:Ar α n)(i:Nat)(x:α):Ar α n:=⟨a.l.set i x,by rw[List.length_set];exact a.len⟩
section
variable{tb:CW}{Γ:Cx}{a b:AO}
theorem Tn.len{t:T}{P:Nat→Prop}{H:Av}{v:AV}: ∀{g:GS t.α},Tn t P H v g→P7 v=some g.l.length
 | .nil,h=>by rw[show v=_ from h];rfl
 | .mk l,⟨bp,els,e,h⟩=>by
  have hl:=h.length
  cases v<;>simp only[M7]at bp<;>simp only[Eu]at e<;>simp only[P7,GS.l,Option.some.injEq]
  ·split at e
   ·cases e;exact hl
   ·cases e
  ·obtain⟨r,hr,e⟩:=Option.bind_eq_some_iff.1 e
   split at e
   ·rename_i hc
    cases e
    rw[List.length_take,List.length_drop]at hl
    omega
   ·cases e
  ·obtain⟨r,hr,e⟩:=Option.bind_eq_some_iff.1 e
   split at e
   ·cases e
    rename_i hc
    rw[←hl]
    have: ∀(n:Nat) (l:List AV) (sz:Nat),(BP sz n l).length=n:=by
     intro n
     induction n with
     |zero=>intro l sz;rfl
     |succ n ih=>intro l sz;simp[BP,ih]
    exact(this _ _ _).symm
   ·cases e
theorem Tn.els{t:T}{P:Nat→Prop}{H:Av}{v:AV}: ∀{g:GS t.α},Tn t P H v g→ ∃els,Eu H t.sz v=some els∧CG t P H els g.l
 | .nil,h=>by rw[show v=_ from h];exact⟨[],rfl,trivial⟩
 | .mk l,⟨_,els,e,h⟩=>⟨els,e,h⟩
theorem Ez{t:T}{g:GS t.α}(ha:C7 tb Γ a (.val (T.sl t) g)):Fw tb Γ (.len a) (some (g.l.length:Int)) fun z=> .val (T.int .i64) z:=by
 rintro E rv fp f H R z ⟨⟩
 exact⟨_,none,by simp only[Bp,(JU.1 (ha E rv fp f H R)).len,Option.map_some],rfl,BY.2 rfl⟩
theorem SV{sz:Nat}: ∀{n i:Nat} {l c:List AV},n*sz≤l.length→(BP sz n l)[i]? =some c→sub l (i*sz) sz=c∧i*sz+sz≤l.length
 |0,i,l,c,_,h=>by simp[BP]at h
 |n+1,0,l,c,hl,h=>by
  simp only[BP,List.getElem?_cons_zero,Option.some.injEq]at h
  rw[Nat.succ_mul]at hl
  exact⟨by simpa [sub]using h,by omega⟩
 |n+1,i+1,l,c,hl,h=>by
  simp only[BP,List.getElem?_cons_succ]at h
  rw[Nat.succ_mul]at hl
  obtain⟨h1,h2⟩:=SV (l:=l.drop sz) (by simp;omega) h
  simp only[List.length_drop]at h2
  refine⟨?_,by rw[Nat.succ_mul];omega⟩
  simp only[sub,List.drop_drop]at h1 ⊢
  rw[show(i+1)*sz=sz+i*sz by rw[Nat.succ_mul];omega];exact h1
theorem Qm{els:List (List AV)}{i:Nat}{c:List AV}(hc:els[i]? =some c):(els.drop i).flatten=c++(els.drop (i+1)).flatten:=by
 obtain⟨hi,rfl⟩:=List.getElem?_eq_some_iff.1 hc
 rw[List.drop_eq_getElem_cons hi,List.flatten_cons]
theorem fB{c d:List AV}{o k:Nat}(h:o+k≤c.length):sub (c++d) o k=sub c o k:=by
 simp only[sub]
 rw[List.drop_append_of_le_length (by omega),List.take_append_of_le_length (by simp;omega)]
theorem Tn.addr{t:T}{P:Nat→Prop}{H:Av}{v:AV}{i:Nat}{x:t.α}: ∀{g:GS t.α},Tn t P H v g→g.l[i]? =some x→ ∃p,UD H t.sz v i=some p∧Zh t P H p x
 | .nil,_,h=>by simp[GS.l]at h
 | .mk l,⟨bp,els,e,h⟩,hx=>by
  obtain⟨c,hc,hr⟩:=h.get hx
  have hi:i<els.length:=(List.getElem?_eq_some_iff.1 hc).1
  have hlen:=t.len hr
  have hsub: ∀cs:List AV,cs=c→sub cs 0 t.sz=c:=fun cs e=>by
   subst e;simp only[sub,List.drop_zero];exact List.take_of_length_le (by omega)
  simp only[UD,e,Option.bind_some,if_pos hi]
  cases v<;>simp only[M7]at bp
  ·refine⟨.ip c 0,by simp[hc],trivial,c,0,rfl,by omega,by rw[hsub c rfl];exact hr,fun m hm=> ?_⟩
   simpa [B7]using t.men hr hm
  ·rename_i id k lo len
   simp only[Eu]at e
   obtain⟨r,hrow,e⟩:=Option.bind_eq_some_iff.1 e
   split at e
   ·rename_i hcd
    cases e
    have hc':r.2.2[lo+i]? =some c:=by
     rw[List.getElem?_take]at hc
     split at hc
     ·rwa [List.getElem?_drop]at hc
     ·cases hc
    refine⟨.pe id k (lo+i) 0,rfl,bp,_,0,by simp only[place,hrow,Option.bind_some,if_pos hcd.1];rfl,by rw[Qm hc'];simp;omega,by rw[Qm hc',fB (by omega),hsub c rfl];exact hr,fun m hm=>by simp only[B7];exact hm _ bp⟩
   ·cases e
  ·rename_i sz' id off len
   simp only[Eu]at e
   obtain⟨r,hrow,e⟩:=Option.bind_eq_some_iff.1 e
   split at e
   ·rename_i hcd
    cases e
    obtain⟨h1,h2⟩:=SV (by simp;omega) hc
    simp only[List.length_drop]at h2
    refine⟨.ptr id (off+i*t.sz),rfl,bp,r,off+i*t.sz,by simp[place,hrow],by omega,?_,fun m hm=>by simp only[B7];exact hm _ bp⟩
    have:sub r (off+i*t.sz) t.sz=c:=by
     simp only[sub,List.drop_drop]at h1 ⊢;exact h1
    rw[this];exact hr
   ·cases e
theorem FO{t:T}{g:GS t.α}{k:IntKind}{i:Int}{sz:Nat}(hs:sz=t.sz)(ha:C7 tb Γ a (.val (T.sl t) g))(hb:C7 tb Γ b (.val (T.int k) i)):Fw tb Γ (.ias sz a b) (Fo g.l i) fun x=> .rp t x:=by
 intro E rv fp f H R x hx
 simp only[Fo]at hx
 split at hx
 ·rename_i h0
  obtain⟨p,h1,h2⟩:=(JU.1 (ha E rv fp f H R)).addr hx
  subst hs
  exact⟨p,none,by simp only[Bp,BY.1 (hb E rv fp f H R),HQ,Option.bind_some,if_pos h0,h1,val,Option.map_some],rfl,h2⟩
 ·cases hx
theorem Zh.load{t:T}{P:Nat→Prop}{H:Av}{p:AV}{x:t.α}(h:Zh t P H p x): ∃v,load H t.agg t.sz p=some v∧t.V P H v x:=by
 obtain⟨_,cs,off,e,l,r,_⟩:=h
 obtain⟨v,h1,h2⟩:=T.V.of r
 exact⟨v,by simp only[Am.load,e,Option.bind_some,if_pos l,h1],h2⟩
theorem Ja{t:T}{x:t.α}{ag:Bool}{n:Nat}(hag:ag=t.agg)(hn:n=t.sz)(ha:C7 tb Γ a (.rp t x)):Fw tb Γ (.ld ag n a) (some ()) fun _=> .val t x:=by
 rintro E rv fp f H R z ⟨⟩
 obtain⟨v,h1,h2⟩:=Zh.load (ha E rv fp f H R)
 subst hag hn
 exact⟨v,none,by simp only[Bp,h1,val,Option.map_some],rfl,h2⟩
theorem Zh.shift{t u:T}{off:Nat}(F:AL t u off){P:Nat→Prop}{H:Av}{p:AV}{x:t.α}(h:Zh t P H p x): ∃v,shift off p=some v∧Zh u P H v (F.get x):=by
 obtain⟨hp,cs,o,e,l,r,hm⟩:=h
 have hle:=F.le
 have hr:=F.getR r
 have hsub:sub (sub cs o t.sz) off u.sz=sub cs (o+off) u.sz:=by
  simp only[sub]
  rw[List.drop_take,List.take_take,List.drop_drop,Nat.min_eq_left (by omega)]
 rw[hsub]at hr
 cases p<;>simp only[Vn]at hp<;>simp only[place]at e
 ·rename_i id o'
  obtain⟨cs',hc,e⟩:=Option.map_eq_some_iff.1 e
  cases e
  refine⟨_,rfl,hp,cs,o+off,by simp[place,hc],by omega,hr,fun m hm=>by simp only[B7];exact hm _ hp⟩
 ·rename_i id n i o'
  obtain⟨row,hrow,e⟩:=Option.bind_eq_some_iff.1 e
  split at e
  ·rename_i hn
   cases e
   refine⟨_,rfl,hp,_,_,by simp only[place,hrow,Option.bind_some];rw[if_pos hn],by omega,hr,fun m hm=>by simp only[B7];exact hm _ hp⟩
  ·cases e
 ·rename_i cs' o'
  cases e
  exact⟨_,rfl,hp,cs,o+off,rfl,by omega,hr,fun m h=>by simpa [B7]using hm m h⟩
theorem h_fa{t u:T}{x:t.α}{off:Nat}(F:AL t u off)(ha:C7 tb Γ a (.rp t x)):Fw tb Γ (.fa off a) (some ()) fun _=> .rp u (F.get x):=by
 rintro E rv fp f H R z ⟨⟩
 obtain⟨v,h1,h2⟩:=Zh.shift F (ha E rv fp f H R)
 exact⟨v,none,by simp only[Bp,h1,val,Option.map_some],rfl,h2⟩
end
end Go.Proofs.YtobejhpigbllpaaGreatDoor.Am
namespace Go.Proofs.YtobejhpigbllpaaGreatDoor.Am
def Jm:List (Nat×AK)→Nat→Option (Nat×AK×Nat)
 |[],_=>none
 |(n,φ)::r,o=>if Nat.blt o n then some (n,φ,o)else Jm r (o-n)
def Vm:List (Nat×AK)→Nat→AK→List (Nat×AK)
 |[],_,_=>[]
 |(n,φ)::r,o,ψ=>if Nat.blt o n then(n,ψ)::r else(n,φ)::Vm r (o-n) ψ
theorem Tf{a b:Nat}:Nat.blt a b=true↔a<b:=by
 rw[Nat.blt,Nat.ble_eq];exact Iff.rfl
section
variable{rv:Nat→AV}{ss:Ss}{P:Nat→Prop}{H:Av}
theorem FA: ∀{ps:List (Nat×AK)} {o o' N:Nat} {φ:AK} {cs:List AV},PR rv ss P H ps cs→Jm ps o=some (N,φ,o')→
  ∃b c,c.length=N∧o=b+o'∧o'<c.length∧b+c.length≤cs.length∧FC rv ss P H φ c∧(∀m k,m+k≤c.length→sub cs (b+m) k=sub c m k)∧
   (∀m d ψ,m+d.length≤c.length→FC rv ss P H ψ (Bw c m d)→PR rv ss P H (Vm ps o ψ) (Bw cs (b+m) d))
 |[],o,o',N,φ,cs,_,h=>by simp[Jm]at h
 |(n,ψ)::r,o,o',N,φ,cs,⟨c,d,e,hl,hc,hr⟩,h=>by
  simp only[Jm]at h
  split at h
  ·rename_i ho
   rw[Tf]at ho
   cases h
   subst e
   refine⟨0,c,hl,by omega,by omega,by simp,hc,?_,?_⟩
   ·intro m k hm
    simp only[sub,Nat.zero_add]
    rw[List.drop_append_of_le_length (by omega),List.take_append_of_le_length (by simp;omega)]
   ·intro m d' χ hm hf
    simp only[Vm,Tf.2 ho,if_true]
    refine⟨Bw c m d',d,?_,?_,hf,hr⟩
    ·simp only[Bw,Nat.zero_add]
     rw[List.take_append_of_le_length (by omega),List.drop_append_of_le_length (by omega)]
     simp
    ·simp only[Bw,List.length_append,List.length_take,List.length_drop];omega
  ·rename_i ho
   have ho': ¬o<n:=fun e=>ho (Tf.2 e)
   obtain⟨b,c',h0,h1,h2,h3,h4,h5,h6⟩:=FA hr h
   subst e
   refine⟨n+b,c',h0,by omega,h2,by simp;omega,h4,?_,?_⟩
   ·intro m k hm
    rw[←h5 m k hm]
    simp only[sub]
    rw[show n+b+m=c.length+(b+m) by omega,←List.drop_drop,List.drop_left' rfl]
   ·intro m d' χ hm hf
    have:=h6 m d' χ hm hf
    simp only[Vm,if_neg ho]
    refine⟨c,_,?_,hl,hc,this⟩
    simp only[Bw]
    rw[List.take_append,List.take_of_length_le (by omega),show n+b+m-c.length=b+m by omega]
    rw[show n+b+m+d'.length=c.length+(b+m+d'.length) by omega,←List.drop_drop,List.drop_left' rfl]
    simp
end
def Cx.setS(Γ:Cx)(j:Nat)(S:CY):Cx:=⟨Γ.ts,(j,S)::Γ.ss⟩
section
variable{tb:CW}{Γ:Cx}{a b:AO}
theorem AE{j o off:Nat}(ha:C7 tb Γ a (.cp j o)):Fw tb Γ (.fa off a) (some ()) fun _=> .cp j (o+off):=by
 rintro E rv fp f H R z ⟨⟩
 obtain⟨l,id,e,hv⟩:=ha E rv fp f H R
 exact⟨.ptr id (o+off),none,by simp only[Bp,hv,shift,val,Option.map_some],rfl,l,id,e,rfl⟩
theorem FX{E:Ph}{rv:Nat→AV}{fp:Fp}{f:Fr}{H:Av}(R:Bo E Γ rv fp f H){j:Nat}{ps:List (Nat×AK)}(hj:AG Γ.ss j=some (.cells ps)){id:Nat}(e:rv j= .ptr id 0):
  ∃cs,(∀i,fp j i↔i=id)∧BX H id=some cs∧PR rv Γ.ss (Pf E Γ.ss fp H) H ps cs:=by
 obtain⟨id',cs,h1,h0,h2,h3⟩:=R.slots j _ hj
 rw[e]at h1;cases h1
 exact⟨cs,h0,h2,h3⟩
theorem A3{t u:T}{x:t.α}{j o o' n N:Nat}{ag:Bool}{ps:List (Nat×AK)}(ha:C7 tb Γ a (.cp j o))(hj:AG Γ.ss j=some (.cells ps))(hp:Jm ps o=some (N, .val t x,o'))(F:AL t u o')(hag:ag=u.agg)(hn:n=u.sz):
  Fw tb Γ (.ld ag n a) (some ()) fun _=> .val u (F.get x):=by
 rintro E rv fp f H R z ⟨⟩
 obtain⟨l,id,e,hv⟩:=ha E rv fp f H R
 obtain⟨cs,h0,h2,h3⟩:=FX R hj e
 obtain⟨b',c,e0,e1,e2,e3,e4,e5,_⟩:=FA h3 hp
 have hle:=F.le
 have hl:=t.len e4
 have hr:=F.getR e4
 rw[←e5 o' u.sz (by omega),←e1]at hr
 obtain⟨v,g1,g2⟩:=T.V.of hr
 subst hag hn
 exact⟨v,none,by simp only[Bp,hv,Am.load,place,h2,Option.map_some,Option.bind_some,if_pos (show o+u.sz≤cs.length by omega),g1,val],rfl,g2⟩
def yF:AK→Bool
 | .own _=>true
 | .cp _ _=>true
 | .ep _ _ _=>true
 | .rp _ _=>true
 | .oc _ _ _ _=>true
 | .con _=>true
 | .fnv _ _ _=>true
 | .kv _=>true
 |_=>false
theorem sV{φ:AK}(h:yF φ=true){rv:Nat→AV}{ss:Ss}{P:Nat→Prop}{H:Av}{c:List AV}:FC rv ss P H φ c↔ ∃v,c=[v]∧FR rv ss P H φ v:=by
 cases φ<;>simp only[yF,Bool.false_eq_true]at h<;>exact Iff.rfl
theorem MH{φ:AK}{j o N:Nat}{ps:List (Nat×AK)}(ha:C7 tb Γ a (.cp j o))(hj:AG Γ.ss j=some (.cells ps))(hp:Jm ps o=some (N,φ,0))(hφ:yF φ=true):
  Fw tb Γ (.ld false 1 a) (some ()) fun _=>φ:=by
 rintro E rv fp f H R z ⟨⟩
 obtain⟨l,id,e,hv⟩:=ha E rv fp f H R
 obtain⟨cs,h0,h2,h3⟩:=FX R hj e
 obtain⟨b',c,e0,e1,e2,e3,e4,e5,_⟩:=FA h3 hp
 obtain⟨v,rfl,hr⟩:=(sV hφ).1 e4
 have hs:=e5 0 1 (by simp)
 rw[Nat.add_zero]at e1 hs
 subst e1
 simp only[List.length_cons,List.length_nil]at e3
 exact⟨v,none,by simp only[Bp,hv,Am.load,place,h2,Option.map_some,Option.bind_some,if_pos (show o+1≤cs.length by omega),hs,val];rfl,rfl,hr⟩
theorem Wq{cs d:List AV}{o:Nat}(h:o+d.length≤cs.length):(Bw cs o d).length=cs.length:=by
 simp only[Bw,List.length_append,List.length_take,List.length_drop];omega
theorem NP{cs d:List AV}{o m:Nat}(h:Bg cs≤m)(g:Bg d≤m):Bg (Bw cs o d)≤m:=by
 simp only[Bw,Gs]
 have:=Kx cs o
 have:=IJ cs (o+d.length)
 omega
theorem M_st{φ ψ:AK}{j o o' n N:Nat}{ps:List (Nat×AK)}(ha:C7 tb Γ a (.cp j o))(hj:AG Γ.ss j=some (.cells ps))(hp:Jm ps o=some (N,φ,o'))
  (hb: ∀E rv fp f H,Bo E Γ rv fp f H→ ∀c,FC rv Γ.ss (Pf E Γ.ss fp H) H φ c→c.length=N→o'<c.length→(cellsOf (eval tb f b)).length=n∧o'+n≤c.length∧Bg (cellsOf (eval tb f b))≤H.length∧FC rv Γ.ss (Pf E Γ.ss fp H) H ψ (Bw c o' (cellsOf (eval tb f b)))):
  Wd tb Γ none (.st n a b) (some ()) fun _=>Γ.setS j (.cells (Vm ps o ψ)):=by
 rintro E rv fp f H R z ⟨⟩
 obtain⟨l,id,e,hv⟩:=ha E rv fp f H R
 obtain⟨cs,h0,h2,h3⟩:=FX R hj e
 obtain⟨b',c,e0,e1,e2,e3,e4,e5,e6⟩:=FA h3 hp
 obtain⟨g1,g2,g3,g4⟩:=hb E rv fp f H R c e4 e0 e2
 have hpr:=e6 o' _ ψ (by omega) g4
 rw[←e1]at hpr
 have hmen:=PR.men R.ltP R.rvlt h3
 have hlt:=(R.fplt j id l ((h0 id).2 rfl)).1
 have hv0:=R.rvlt j l
 obtain⟨rv',fp',_,_,R'⟩:=R.set (j:=j) (S:= .cells (Vm ps o ψ)) (v:=rv j) (o:= .cells (Ek H id) (Bw cs o (cellsOf (eval tb f b)))) (by rw[hj];rfl) l h0 (by simp only[Ej];exact NP hmen g3) rfl hv0 (.inl rfl) (R.scal j l) fun rv' fp' e1 e2 hP hs=>
  ⟨id,_,by rw[e1,e],e2,by simp[BX,hlt],PR.mono hP (by simp) (fun p _=>hs p.2 (.inl rfl)) hpr⟩
 refine⟨.junk,some (H.set id (BF.cells (Ek H id) (Bw cs o (cellsOf (eval tb f b))))),?_,rv',fp',R'⟩
 simp only[Bp,hv,store,h2,Option.bind_some]
 rw[if_pos ⟨g1,by omega⟩]
 rfl
theorem CV{t u:T}{x:t.α}{y:u.α}{j o o' n N:Nat}{ps:List (Nat×AK)}(ha:C7 tb Γ a (.cp j o))(hb:C7 tb Γ b (.val u y))(hj:AG Γ.ss j=some (.cells ps))(hp:Jm ps o=some (N, .val t x,o'))(F:AL t u o')(hn:n=u.sz):
  Wd tb Γ none (.st n a b) (some (F.put x y)) fun z=>Γ.setS j (.cells (Vm ps o (.val t z))):=by
 have:=M_st (n:=n) (ψ:= .val t (F.put x y)) ha hj hp (b:=b) fun E rv fp f H R c hc _ _=>by
  have hv:=T.V.cells (hb E rv fp f H R)
  have hle:=F.le
  have h1:=u.len hv
  have h2:=t.len hc
  exact⟨by rw[h1,hn],by omega,u.men hv R.ltP,F.putR hc hv⟩
 intro E rv fp f H R z hz
 cases hz
 exact this E rv fp f H R () rfl
theorem BZ{t:T}{d t0:Nat}{z:List AV}(j:Nat)(hz:z=t.zc)(hj:AG Γ.ss j=none):Wd tb Γ (some d) (.alloc t0 z) (some t.z) fun z=>⟨(d, .cp j 0)::Γ.ts,(j, .cells [(t.sz, .val t z)])::Γ.ss⟩:=by
 intro E rv fp f H R _ hz0
 cases hz0
 subst hz
 have hzm:Bg t.zc≤0:=t.men (t.hz (fun _=>False) []) (fun _ h=>h.elim)
 obtain⟨rv',fp',h1,h2,h3⟩:=R.more (j:=j) (S:= .cells [(t.sz, .val t t.z)]) (v:= .ptr H.length 0) (o:= .cells (some t0) t.zc) (Hy hj) (by simp only[Ej];omega) rfl (by simp[B7]) rfl fun rv' fp' e1 e2 hP hs=>
  ⟨_,t.zc,e1,e2,by simp[BX],t.zc,[],(List.append_nil _).symm,t.len (t.hz (fun _=>False) []),t.hz _ _,rfl⟩
 exact⟨_,_,rfl,rv',fp',h3.push (φ:= .cp j 0) ⟨h2,_,h1,rfl⟩⟩
theorem Bq{t:T}{x:t.α}{d n t0:Nat}(j:Nat)(hn:n=t.sz)(hj:AG Γ.ss j=none)(ha:C7 tb Γ a (.val t x)):Wd tb Γ (some d) (.box t0 n a) (some ()) fun _=>⟨(d, .cp j 0)::Γ.ts,(j, .cells [(t.sz, .val t x)])::Γ.ss⟩:=by
 rintro E rv fp f H R _ ⟨⟩
 have hv:=T.V.cells (ha E rv fp f H R)
 have hl:=t.len hv
 have hm:=t.men hv R.ltP
 obtain⟨rv',fp',h1,h2,h3⟩:=R.more (j:=j) (S:= .cells [(t.sz, .val t x)]) (v:= .ptr H.length 0) (o:= .cells (some t0) (cellsOf (eval tb f a))) (Hy hj) (by simp only[Ej];omega) rfl (by simp[B7]) rfl fun rv' fp' e1 e2 hP hs=>
  ⟨_,cellsOf (eval tb f a),e1,e2,by simp[BX],cellsOf (eval tb f a),[],(List.append_nil _).symm,hl,t.mono hP hv,rfl⟩
 refine⟨.ptr H.length 0,some (H++[BF.cells (some t0) (cellsOf (eval tb f a))]),by simp only[Bp];rw[if_pos (by rw[hl,hn])],rv',fp',h3.push (φ:= .cp j 0) ⟨h2,_,h1,rfl⟩⟩
def appG{α:Type}:GS α→List α→GS α
 | .nil,[]=> .nil
 | .nil,l=> .mk l
 | .mk a,l=> .mk (a++l)
theorem Bo.moreNil{E:Ph}{rv:Nat→AV}{fp:Fp}{f:Fr}{H:Av}(R:Bo E Γ rv fp f H){j:Nat}(t:T)(hj: ¬AZ Γ.ss j): ∃rv' fp',rv' j= .nils∧AZ ((j, .row t .nil)::Γ.ss) j∧Bo E ⟨Γ.ts,(j, .row t .nil)::Γ.ss⟩ rv' fp' f H:=
 R.chg (F:=fun _=>False) (v:= .nils) (G:=H) (by
   cases e:D5 (AG Γ.ss j)with
   |false=>rfl
   |true=>exact absurd (Lz e) hj) rfl (Nat.le_refl _) (fun _ _ _=>rfl) (fun _ h=>h.elim) (fun l=>absurd l hj) R.wf (by simp[B7]) (.inr rfl) fun rv' fp' e1 e2 _ _=>⟨e1,fun i h=>by rw[e2]at h;exact h⟩
theorem born{t:T}{n j:Nat}(hj:AG Γ.ss j=none)(ha:BB Γ.ts n=some (.val (T.sl t) .nil)): ∀E f H,Rel E Γ f H→Rel E ⟨(n, .own j)::Γ.ts,(j, .row t .nil)::Γ.ss⟩ f H:=by
 rintro E f H ⟨rv,fp,R⟩
 obtain⟨rv',fp',h1,h2,I⟩:=R.moreNil t (Hy hj)
 have hv:get f n= .nils:=JU.1 (R.temps n _ ha)
 refine⟨rv',fp',I.le,I.base,I.wf,I.fplt,I.rvlt,I.scal,I.inj,I.slots,fun u φ e=> ?_,I.gh⟩
 simp only[BB]at e
 split at e
 ·rename_i hu
  cases e
  subst hu
  exact⟨h2,by rw[h1,hv]⟩
 ·exact I.temps u φ e
end
end Go.Proofs.YtobejhpigbllpaaGreatDoor.Am
namespace Go.Proofs.YtobejhpigbllpaaGreatDoor.Am
section
variable{tb:CW}{Γ:Cx}{a b:AO}
def Aa9(tb:CW)(Γ:Cx)(a:AO)(t:T)(l:List t.α):Prop:= ∀E rv fp f H,Bo E Γ rv fp f H→ ∃els,gR H t.sz (eval tb f a)=some els∧CG t (Pf E Γ.ss fp H) H els l
theorem TP{t:T}{g:GS t.α}(ha:C7 tb Γ a (.val (T.sl t) g)):Aa9 tb Γ a t g.l:=by
 intro E rv fp f H R
 have hv:=JU.1 (ha E rv fp f H R)
 obtain⟨els,e,h⟩:=hv.els
 refine⟨els,?_,h⟩
 have hs:=hv.sca
 cases hx:eval tb f a<;>rw[hx]at e hv<;>first
  |exact e
  |(cases g<;>first|(have hv':=hv;cases hv';done)|(have:=hv.1;simp only[M7]at this;done))
theorem aE{P:Nat→Prop}{H:Av}: ∀l:AM,CG T.u8 P H (Bu l) l
 |[]=>trivial
 |c::l=>⟨rfl,aE l⟩
def Wc{α:Type}(bytes:Nat)(g:GS α)(l:List α):Option (GS α):=if(g.l.length+l.length)*bytes≤Be then some (appG g l)else none
theorem QT: ∀(x y:List (List AV)),CJ (x++y)=max (CJ x) (CJ y)
 |[],y=>by simp[CJ]
 |z::x,y=>by simp only[List.cons_append,CJ,QT x y];omega
theorem N5{t:T}{g:GS t.α}{l:List t.α}{d j t0 sz bytes:Nat}(hs:sz=t.sz)(ha:C7 tb Γ a (.own j))(hj:AG Γ.ss j=some (.row t g))(hb:Aa9 tb Γ b t l):
  Wd tb Γ (some d) (.app t0 sz bytes a b) (Wc bytes g l) fun g'=>⟨(d, .own j)::(Γ.kill j).ts,(j, .row t g')::(Γ.kill j).ss⟩:=by
 intro E rv fp f H R g' hg
 simp only[Wc]at hg
 split at hg
 ·rename_i hle
  cases hg
  subst hs
  obtain⟨els,e,hels⟩:=hb E rv fp f H R
  have hel:=hels.length
  have hlive:AZ Γ.ss j:=La hj rfl
  have hnk:D5 (AG Γ.ss j)=false:=by rw[hj];rfl
  have hka:=lF R hnk
  have K:=R.kill j hnk
  have hkk:D5 (AG (Γ.kill j).ss j)=false:=by rw[Cx.kill];simp only[GM,TS];exact hnk
  have hkl:AZ (Γ.kill j).ss j:=S2.2 hlive
  have hslot:=R.slots j _ hj
  have hPk: ∀i,Pf E Γ.ss fp H i→Pf E (Γ.kill j).ss fp H i:=fun i=>Pf.same fun k l=>S2.1 l
  have hels':=hels.mono (Q:=Pf E (Γ.kill j).ss fp H) (G:=H) fun i hi=>⟨hPk i hi,rfl⟩
  have hmen:=hels'.men K.ltP
  obtain⟨_,hv⟩:=ha E rv fp f H R
  simp only[Bp,e,Option.bind_some,hv]
  cases g with
  |nil=>
   obtain⟨hr,hf⟩:=hslot
   rw[hr]
   simp only[GS.l,List.length_nil,Nat.zero_add]at hle
   cases l with
   |nil=>
    have:els=[]:=List.length_eq_zero_iff.1 hel
    subst this
    obtain⟨rv',fp',h1,h2,h3⟩:=K.chg (j:=j) (S:= .row t .nil) (v:= .nils) (F:=fp j) (G:=H) hkk rfl (Nat.le_refl _) (fun _ _ _=>rfl) (fun i hi=>absurd hi (hf i)) (fun _=> .inr hka) K.wf (by simp[B7]) (.inr rfl)
     fun rv' fp' e1 e2 _ _=>⟨e1,fun i=>by rw[e2];exact hf i⟩
    exact⟨.nils,none,rfl,rv',fp',h3.push (φ:= .own j) ⟨h2,h1.symm⟩⟩
   |cons x l=>
    have hne: ¬els.length=0:=by rw[hel];simp
    obtain⟨rv',fp',h1,h2,h3⟩:=K.chg (j:=j) (S:= .row t (.mk (x::l))) (v:= .orow H.length els.length 0 els.length) (F:=fun i=>i=H.length) (G:=H++[.row (some t0) false t.sz els]) hkk rfl (by simp) (fun i hi _=>List.getElem?_append_left hi)
     (fun i hi=> .inr ⟨by omega,by simp;omega⟩) (fun _=> .inr hka) (by rw[Qh];have:=K.wf;simp only[CB,Ej,List.length_append,List.length_cons,List.length_nil];omega) (by simp[B7]) (.inr rfl)
     fun rv' fp' e1 e2 hP _=>⟨_,els,e1,fun i=>by rw[e2],by simp[rowAt],hels'.mono hP⟩
    refine⟨.orow H.length els.length 0 els.length,some (H++[BF.row (some t0) false t.sz els]),?_,rv',fp',h3.push (φ:= .own j) ⟨h2,h1.symm⟩⟩
    simp only[Ur,if_neg hne]
    rw[if_pos (by rw[hel];exact hle)]
  |mk q=>
   obtain⟨id,old,hr,hf,h2,h3⟩:=hslot
   rw[hr]
   have hlen:=h3.length
   have h3':=h3.mono (Q:=Pf E (Γ.kill j).ss fp H) (G:=H) fun i hi=>⟨hPk i hi,rfl⟩
   have hm3:=h3'.men K.ltP
   have hidlt:=(K.fplt j id hkl ((hf id).2 rfl)).1
   simp only[GS.l]at hle
   simp only[Ur,h2,Option.bind_some]
   rw[if_pos ⟨trivial,trivial,trivial,trivial,by rw[hlen,hel];exact hle,trivial⟩]
   by_cases h0:els.length=0
   ·rw[if_pos h0]
    have hnil:els=[]:=List.length_eq_zero_iff.1 h0
    subst hnil
    have hl0:l=[]:=List.length_eq_zero_iff.1 hel.symm
    subst hl0
    obtain⟨rv',fp',g1,g2,g3⟩:=K.chg (j:=j) (S:= .row t (.mk q)) (v:=rv j) (F:=fp j) (G:=H) hkk rfl (Nat.le_refl _) (fun _ _ _=>rfl) (fun i hi=> .inl ⟨hkl,hi⟩) (fun _=> .inl rfl) K.wf (K.rvlt j hkl) (.inr (by rw[hr];rfl))
     fun rv' fp' e1 e2 hP _=>⟨id,old,by rw[e1];exact hr,by rw[e2];exact hf,h2,h3'.mono hP⟩
    refine⟨.orow id old.length 0 old.length,none,rfl,rv',fp',?_⟩
    have:=g3.push (d:=d) (φ:= .own j) (v:=rv j) ⟨g2,g1.symm⟩
    rw[hr]at this
    simpa [appG,Cx.push]using this
   ·rw[if_neg h0]
    obtain⟨rv',fp',g1,g2,g3⟩:=K.set (j:=j) (S:= .row t (.mk (q++l))) (v:= .orow id (old++els).length 0 (old++els).length) (o:= .row (UB (Ek H id) t0) false t.sz (old++els)) hkk hkl hf (by simp only[Ej,QT];omega) rfl (by simp only[B7];omega) (.inr hka) (.inr rfl)
     fun rv' fp' e1 e2 hP _=>⟨id,old++els,e1,e2,by simp[rowAt,hidlt],(h3'.app hels').mono hP⟩
    refine⟨.orow id (old++els).length 0 (old++els).length,some (H.set id (.row (UB (Ek H id) t0) false t.sz (old++els))),by rw[List.length_append],rv',fp',g3.push (φ:= .own j) ⟨g2,g1.symm⟩⟩
 ·cases hg
theorem vX{t:T}{g:GS t.α}{j:Nat}(ha:C7 tb Γ a (.own j))(hj:AG Γ.ss j=some (.row t g)){E:Ph}{rv:Nat→AV}{fp:Fp}{f:Fr}{H:Av}(R:Bo E Γ rv fp f H):
  (g= .nil∧eval tb f a= .nils)∨ ∃id els l,g= .mk l∧rv j= .orow id els.length 0 els.length∧(∀i,fp j i↔i=id)∧rowAt H id=some (false,t.sz,els)∧CG t (Pf E Γ.ss fp H) H els l∧eval tb f a= .orow id els.length 0 els.length:=by
 obtain⟨_,hv⟩:=ha E rv fp f H R
 have hs:=R.slots j _ hj
 cases g with
 |nil=>exact .inl ⟨rfl,hv.trans hs.1⟩
 |mk l=>
  obtain⟨id,els,h1,h0,h2,h3⟩:=hs
  exact .inr ⟨id,els,l,rfl,h1,h0,h2,h3,hv.trans h1⟩
theorem yN{t:T}{g:GS t.α}{j:Nat}(ha:C7 tb Γ a (.own j))(hj:AG Γ.ss j=some (.row t g)):Fw tb Γ (.len a) (some (g.l.length:Int)) fun z=> .val (T.int .i64) z:=by
 rintro E rv fp f H R z ⟨⟩
 rcases vX ha hj R with ⟨rfl,hv⟩|⟨id,els,l,rfl,_,_,_,h,hv⟩
 ·exact⟨_,none,by simp only[Bp,hv,P7,Option.map_some];rfl,rfl,BY.2 rfl⟩
 ·exact⟨_,none,by simp only[Bp,hv,P7,Option.map_some,h.length];rfl,rfl,BY.2 rfl⟩
def DQ(n:Nat)(i:Int):Option Nat:=if 0≤i∧i.toNat<n then some i.toNat else none
theorem h_iasO{t:T}{g:GS t.α}{j sz:Nat}{k:IntKind}{i:Int}(hs:sz=t.sz)(ha:C7 tb Γ a (.own j))(hj:AG Γ.ss j=some (.row t g))(hb:C7 tb Γ b (.val (T.int k) i)):
  Fw tb Γ (.ias sz a b) (DQ g.l.length i) fun n=> .ep j n 0:=by
 intro E rv fp f H R n hn
 simp only[DQ]at hn
 split at hn
 ·rename_i hc
  cases hn
  subst hs
  have hl:AZ Γ.ss j:=La hj rfl
  rcases vX ha hj R with ⟨rfl,hv⟩|⟨id,els,l,rfl,hid,_,hr,h,hv⟩
  ·simp[GS.l]at hc
  ·have hlen:=h.length
   simp only[GS.l]at hc
   have hx:UD H t.sz (.orow id els.length 0 els.length) i.toNat=some (.pe id els.length (0+i.toNat) 0):=by
    simp[UD,Eu,hr,hlen,hc.2]
   refine⟨.pe id els.length (0+i.toNat) 0,none,by simp only[Bp,hv,BY.1 (hb E rv fp f H R),HQ,Option.bind_some,if_pos hc.1,hx,val,Option.map_some],rfl,hl,id,els.length,hid,by omega,by rw[Nat.zero_add]⟩
 ·cases hn
theorem h_ldE{t u:T}{g:GS t.α}{j i off n:Nat}{ag:Bool}(hag:ag=u.agg)(hn:n=u.sz)(F:AL t u off)(ha:C7 tb Γ a (.ep j i off))(hj:AG Γ.ss j=some (.row t g)):Fw tb Γ (.ld ag n a) ((g.l[i]?).map F.get) fun z=> .val u z:=by
 intro E rv fp f H R z hz
 obtain⟨x,hx,rfl⟩:=Option.map_eq_some_iff.1 hz
 obtain⟨_,id,m,hid,hi,hv⟩:=ha E rv fp f H R
 have hs:=R.slots j _ hj
 cases g with
 |nil=>simp[GS.l]at hx
 |mk l=>
  obtain⟨id',els,h1,h0,h2,h3⟩:=hs
  rw[hid]at h1;cases h1
  obtain⟨c,hc,hr⟩:=h3.get hx
  have hle:=F.le
  have hl:=t.len hr
  obtain⟨v,g1,g2⟩:=T.V.of (F.getR hr)
  subst hag hn
  refine⟨v,none,?_,rfl,g2⟩
  have hlf:off+u.sz≤((els.drop i).flatten).length:=by rw[Qm hc];simp;omega
  simp only[Bp,hv,Am.load,place,h2,Option.bind_some,if_pos,Option.map_some,if_pos hlf,val]
  rw[Qm hc,fB (by omega),g1];rfl
end
end Go.Proofs.YtobejhpigbllpaaGreatDoor.Am
namespace Go.Proofs.YtobejhpigbllpaaGreatDoor.Am
section
variable{tb:CW}{Γ:Cx}{a b:AO}
theorem Qu{P:Nat→Prop}{H:Av}: ∀{els:List (List AV)} {l:AM},CG T.u8 P H els l→Ev els=some l
 |[],[],_=>rfl
 |c::els,x::l,h=>by
  have hc:c=[.i .u8 x.toNat]:=h.1
  subst hc
  simp only[Ev,Qu h.2,Option.map_some]
  congr 2
  simp
theorem h_cvs{g:GS UInt8}(ha:C7 tb Γ a (.val (T.sl T.u8) g)):Fw tb Γ (.cvs a) (some g.l) fun z=> .val Ax z:=by
 rintro E rv fp f H R z ⟨⟩
 obtain⟨els,e,h⟩:=(JU.1 (ha E rv fp f H R)).els
 refine⟨.s g.l,none,?_,rfl,E8.2 rfl⟩
 have e':Eu H 1 (eval tb f a)=some els:=e
 simp only[Bp,e',Option.bind_some,Qu h,val];rfl
theorem h_cvsO{g:GS UInt8}{j:Nat}(ha:C7 tb Γ a (.own j))(hj:AG Γ.ss j=some (.row T.u8 g)):Fw tb Γ (.cvs a) (some g.l) fun z=> .val Ax z:=by
 rintro E rv fp f H R z ⟨⟩
 refine⟨.s g.l,none,?_,rfl,E8.2 rfl⟩
 rcases vX ha hj R with ⟨rfl,hv⟩|⟨id,els,l,rfl,_,_,hr,h,hv⟩
 ·simp only[Bp,hv,Eu,Option.bind_some,Ev,val];rfl
 ·have e':Eu H 1 (eval tb f a)=some els:=by
   have hr':rowAt H id=some (false,1,els):=hr
   simp[hv,Eu,hr']
  simp only[Bp,e',Option.bind_some,Qu h,val];rfl
def TJ{α:Type}(g:GS α)(c d:Nat):GS α:=match g with
 | .nil=> .nil
 | .mk l=> .mk ((l.take d).drop c)
def slG{α:Type}(g:GS α)(lo hi:Option Int):Option (GS α):=(Tu g.l.length lo hi).map fun p=>TJ g p.1 p.2
theorem zU{n:Nat}{lo hi:Option Int}{p:Nat×Nat}(h:Tu n lo hi=some p):p.1≤p.2∧p.2≤n:=by
 unfold Tu at h
 obtain⟨u,hu,h⟩:=Option.bind_eq_some_iff.1 h
 obtain⟨l,hl,h⟩:=Option.bind_eq_some_iff.1 h
 cases h
 have h1:u≤n:=by
  cases hi with
  |none=>cases hu;omega
  |some m=>simp only[]at hu;split at hu<;>cases hu;omega
 have h2:l≤u:=by
  cases lo with
  |none=>cases hl;omega
  |some m=>simp only[]at hl;split at hl<;>cases hl;omega
 exact⟨h2,h1⟩
theorem Ol{sz:Nat}: ∀{len c d:Nat} {l:List AV},c≤d→d≤len→((BP sz len l).take d).drop c=BP sz (d-c) (l.drop (c*sz))
 |len,0,0,l,_,_=>by simp[BP]
 |len,c+1,0,l,h,_=>by omega
 |0,c,d+1,l,_,h=>by omega
 |len+1,0,d+1,l,_,h=>by
  have:=Ol (sz:=sz) (len:=len) (c:=0) (d:=d) (l:=l.drop sz) (by omega) (by omega)
  simp only[List.drop_zero,Nat.zero_mul,Nat.sub_zero]at this
  simp[BP,this]
 |len+1,c+1,d+1,l,h1,h2=>by
  have:=Ol (sz:=sz) (len:=len) (c:=c) (d:=d) (l:=l.drop sz) (by omega) (by omega)
  simp only[BP,List.take_succ_cons,List.drop_succ_cons,this,List.drop_drop,Nat.succ_mul]
  rw[show d+1-(c+1)=d-c by omega,Nat.add_comm sz]
theorem Tn.resl{t:T}{P:Nat→Prop}{H:Av}{v:AV}{c d:Nat}(h1:c≤d): ∀{g:GS t.α},d≤g.l.length→Tn t P H v g→ ∃w,Am.resl H t.sz v c d=some w∧Tn t P H w (TJ g c d)
 | .nil,_,h=>by rw[show v=_ from h];exact⟨.nils,rfl,rfl⟩
 | .mk l,hd,⟨bp,els,e,h⟩=>by
  have hl:=h.length
  simp only[GS.l]at hd
  have hall:=h.take (n:=d) |>.drop (n:=c)
  cases v<;>simp only[M7]at bp<;>simp only[Eu]at e
  ·split at e
   ·rename_i hs
    cases e
    subst hs
    exact⟨.sl t.sz ((els.take d).drop c),by simp[Am.resl],trivial,_,by simp[Eu],hall⟩
   ·cases e
  ·rename_i id k lo len
   obtain⟨r,hr,e⟩:=Option.bind_eq_some_iff.1 e
   split at e
   ·rename_i hc
    cases e
    rw[List.length_take,List.length_drop]at hl
    refine⟨.orow id k (lo+c) (d-c),by simp only[Am.resl,hr,Option.bind_some];rw[if_pos hc],bp,(r.2.2.drop (lo+c)).take (d-c),?_,?_⟩
    ·simp only[Eu,hr,Option.bind_some]
     rw[if_pos ⟨hc.1,hc.2.1,by omega⟩]
    ·have:(((r.2.2.drop lo).take len).take d).drop c=(r.2.2.drop (lo+c)).take (d-c):=by
      rw[List.take_take,Nat.min_eq_left (by omega),List.drop_take,List.drop_drop]
     rw[this]at hall
     exact hall
   ·cases e
  ·rename_i sz' id off len
   obtain⟨r,hr,e⟩:=Option.bind_eq_some_iff.1 e
   split at e
   ·rename_i hc
    have he:some (BP t.sz len (r.drop off))=some els:=e
    cases he
    obtain⟨hs,hc⟩:=hc
    subst hs
    have hcl:(BP t.sz len (r.drop off)).length=len:=by
     have: ∀(n:Nat) (l:List AV),(BP t.sz n l).length=n:=by
      intro n
      induction n with
      |zero=>intro l;rfl
      |succ n ih=>intro l;simp[BP,ih]
     exact this _ _
    rw[hcl]at hl
    refine⟨.ocel t.sz id (off+c*t.sz) (d-c),by simp only[Am.resl,if_true],bp,BP t.sz (d-c) (r.drop (off+c*t.sz)),?_,?_⟩
    ·have hmul:(d-c)*t.sz+c*t.sz≤len*t.sz:=by
      rw[←Nat.add_mul];exact Nat.mul_le_mul_right _ (by omega)
     simp only[Eu,hr,Option.bind_some]
     rw[if_pos ⟨trivial,by omega⟩]
    ·have:=Ol (sz:=t.sz) (len:=len) (c:=c) (d:=d) (l:=r.drop off) h1 (by omega)
     rw[this,List.drop_drop]at hall
     exact hall
   ·cases e
theorem h_sll{t:T}{g:GS t.α}{sz:Nat}{lo hi:Option AO}{l h:Option Int}(hs:sz=t.sz)(ha:C7 tb Γ a (.val (T.sl t) g))(hl:uG tb Γ lo l)(hh:uG tb Γ hi h):Fw tb Γ (.sll sz a lo hi) (slG g l h) fun z=> .val (T.sl t) z:=by
 intro E rv fp f H R z hz
 obtain⟨p,hp,rfl⟩:=Option.map_eq_some_iff.1 hz
 have hv:=JU.1 (ha E rv fp f H R)
 obtain⟨h1,h2⟩:=zU hp
 obtain⟨w,h3,h4⟩:=hv.resl h1 h2
 subst hs
 exact⟨w,none,by simp only[Bp,hv.len,Option.bind_some,Um hl hh R,hp,h3,val,Option.map_some],rfl,JU.2 h4⟩
inductive oO(tb:CW)(Γ:Cx)(t:T):List (Nat×Nat×AO)→t.α→t.α→Prop where
 |nil (x:t.α):oO tb Γ t [] x x
 |cons {u:T} {off n:Nat} {a:AO} {r:List (Nat×Nat×AO)} {x z:t.α} {y:u.α} (F:AL t u off) (hn:n=u.sz) (h:C7 tb Γ a (.val u y)) (k:oO tb Γ t r (F.put x y) z):oO tb Γ t ((off,n,a)::r) x z
theorem oO.spec{t:T}{E:Ph}{rv:Nat→AV}{fp:Fp}{f:Fr}{H:Av}(R:Bo E Γ rv fp f H): ∀{ps:List (Nat×Nat×AO)} {x z:t.α} {cs:List AV},oO tb Γ t ps x z→t.R (Pf E Γ.ss fp H) H cs x→
  ∃ds,Mf cs (eval tb f) ps=some ds∧t.R (Pf E Γ.ss fp H) H ds z
 |_,_,_,cs, .nil _,h=>⟨cs,rfl,h⟩
 |_,_,_,cs, .cons (u:=u) (off:=off) F hn ho k,h=>by
  have hv:=T.V.cells (ho E rv fp f H R)
  have hl:=u.len hv
  have hle:=F.le
  have ht:=t.len h
  obtain⟨ds,h1,h2⟩:=k.spec R (F.putR h hv)
  refine⟨ds,?_,h2⟩
  simp only[Mf]
  rw[if_pos ⟨by rw[hl,hn],by omega⟩]
  exact h1
theorem Cy{t:T}{zero:List AV}{ps:List (Nat×Nat×AO)}{z:t.α}(hz:zero=t.zc)(ht:t.agg=true)(h:oO tb Γ t ps t.z z):Fw tb Γ (.bld zero ps) (some z) fun z=> .val t z:=by
 rintro E rv fp f H R _ ⟨⟩
 subst hz
 obtain⟨ds,h1,h2⟩:=h.spec R (t.hz _ _)
 exact⟨.agg ds,none,by simp only[Bp,h1,Option.map_some,val],rfl, .inl ⟨ht,ds,rfl,h2⟩⟩
inductive oN(tb:CW)(Γ:Cx)(t:T):List (Nat×AO)→List t.α→List t.α→Prop where
 |nil (l:List t.α):oN tb Γ t [] l l
 |cons {i:Nat} {a:AO} {r:List (Nat×AO)} {l m:List t.α} {y:t.α} (hi:Nat.blt i l.length=true) (h:C7 tb Γ a (.val t y)) (k:oN tb Γ t r (l.set i y) m):oN tb Γ t ((i,a)::r) l m
theorem oN.spec{t:T}{E:Ph}{rv:Nat→AV}{fp:Fp}{f:Fr}{H:Av}(R:Bo E Γ rv fp f H): ∀{ps:List (Nat×AO)} {l m:List t.α} {els:List (List AV)},oN tb Γ t ps l m→CG t (Pf E Γ.ss fp H) H els l→
  ∃ds,Mg els t.sz (eval tb f) ps=some ds∧CG t (Pf E Γ.ss fp H) H ds m
 |_,_,_,els, .nil _,h=>⟨els,rfl,h⟩
 |_,_,_,els, .cons (i:=i) hi ho k,h=>by
  have hv:=T.V.cells (ho E rv fp f H R)
  have hl:=t.len hv
  have hlen:=h.length
  rw[Tf]at hi
  obtain⟨ds,h1,h2⟩:=k.spec R (h.set (i:=i) hv)
  refine⟨ds,?_,h2⟩
  simp only[Mg]
  rw[if_pos ⟨hl,by omega⟩]
  exact h1
theorem Nt{t:T}{zero:List (List AV)}{sz n:Nat}{ps:List (Nat×AO)}{l:List t.α}(hs:sz=t.sz)(hz:zero=List.replicate n t.zc)(h:oN tb Γ t ps (List.replicate n t.z) l):Fw tb Γ (.bll sz zero ps) (some l) fun l=> .val (T.sl t) (.mk l):=by
 rintro E rv fp f H R _ ⟨⟩
 subst hz hs
 obtain⟨ds,h1,h2⟩:=h.spec R (CG.rep (t.hz _ _) n)
 exact⟨.sl t.sz ds,none,by simp only[Bp,h1,Option.map_some,val],rfl,JU.2 ⟨trivial,ds,by simp[Eu],h2⟩⟩
theorem Ar.get_lt{α:Type}{n:Nat}(x:Ar α n){i:Nat}{y:α}(h:x.l[i]? =some y):i<n:=by
 have:=(List.getElem?_eq_some_iff.1 h).1
 have:=x.len
 omega
theorem jG{sz:Nat}: ∀{l:List (List AV)} {i:Nat} {c:List AV},(∀e∈l,e.length=sz)→l[i]? =some c→sub l.flatten (i*sz) sz=c
 |[],i,c,_,h=>by simp at h
 |d::l,0,c,hl,h=>by
  simp only[List.getElem?_cons_zero,Option.some.injEq]at h
  subst h
  have:=hl d List.mem_cons_self
  simp[sub,this]
 |d::l,i+1,c,hl,h=>by
  simp only[List.getElem?_cons_succ]at h
  have h1:=hl d List.mem_cons_self
  have:=jG (l:=l) (fun e he=>hl e (List.mem_cons_of_mem _ he)) h
  simp only[sub]at this ⊢
  rw[List.flatten_cons,show(i+1)*sz=d.length+i*sz by rw[Nat.succ_mul];omega,←List.drop_drop,List.drop_left' rfl]
  exact this
theorem UH{sz:Nat}: ∀{l:List (List AV)} {i:Nat} {c:List AV},(∀e∈l,e.length=sz)→i<l.length→c.length=sz→Bw l.flatten (i*sz) c=(l.set i c).flatten
 |[],i,c,_,h,_=>by simp at h
 |d::l,0,c,hl,h,hc=>by
  have:=hl d List.mem_cons_self
  simp only[Bw,Nat.zero_mul,List.take_zero,Nat.zero_add,List.nil_append,List.set_cons_zero,List.flatten_cons]
  rw[hc,←this,List.drop_left' rfl]
 |d::l,i+1,c,hl,h,hc=>by
  have h1:=hl d List.mem_cons_self
  have ih:=UH (l:=l) (fun e he=>hl e (List.mem_cons_of_mem _ he)) (by simpa using h) hc
  simp only[Bw]at ih ⊢
  rw[List.flatten_cons,List.set_cons_succ,List.flatten_cons,←ih,show(i+1)*sz=d.length+i*sz by rw[Nat.succ_mul];omega]
  rw[List.take_append,List.take_of_length_le (by omega),show d.length+i*sz-d.length=i*sz by omega]
  rw[show d.length+i*sz+c.length=d.length+(i*sz+c.length) by omega,←List.drop_drop,List.drop_left' rfl]
  simp
def AL.at(n:Nat)(t:T)(i:Nat)(hi:i<n):AL (Ay n t) t (i*t.sz) where
 get:=fun x=>x.l[i]'(by rw[x.len];exact hi)
 put:=fun x y=>x.set i y
 le:=by
  show i*t.sz+t.sz≤n*t.sz
  rw[←Nat.succ_mul];exact Nat.mul_le_mul_right _ hi
 getR:=fun{P H cs x} ⟨css,e,h⟩=>by
  obtain⟨c,hc,hr⟩:=h.get (i:=i) (x:=x.l[i]'(by rw[x.len];exact hi)) (List.getElem?_eq_getElem _)
  rw[e,jG h.lens hc];exact hr
 putR:=fun{P H cs x c y} ⟨css,e,h⟩ k=>by
  have hlen:=h.length
  have hx:=x.len
  have hc:=t.len k
  exact⟨css.set i c,by rw[e];exact UH h.lens (by omega) hc,h.set k⟩
def J0{t u w:T}{o o':Nat}(F:AL t u o)(G:AL u w o'):AL t w (o+o') where
 get:=fun x=>G.get (F.get x)
 put:=fun x y=>F.put x (G.put (F.get x) y)
 le:=by have:=F.le;have:=G.le;omega
 getR:=fun{P H cs x} h=>by
  have h1:=F.le
  have h2:=G.le
  have h3:=t.len h
  have:=G.getR (F.getR h)
  rw[show sub cs (o+o') w.sz=sub (sub cs o u.sz) o' w.sz by
   simp only[sub]
   rw[List.drop_take,List.take_take,List.drop_drop,Nat.min_eq_left (by omega)]]
  exact this
 putR:=fun{P H cs x c y} h k=>by
  have h1:=F.le
  have h2:=G.le
  have h3:=t.len h
  have h4:=w.len k
  have:=F.putR h (G.putR (F.getR h) k)
  rw[show Bw cs (o+o') c=Bw cs o (Bw (sub cs o u.sz) o' c) by
   have hsl:(Bw (sub cs o u.sz) o' c).length=u.sz:=by
    rw[Wq]<;>simp only[sub,List.length_take,List.length_drop]<;>omega
   apply List.ext_getElem?
   intro i
   simp only[Bw,sub,List.getElem?_append,List.getElem?_take,List.getElem?_drop,List.length_append,List.length_take,List.length_drop]
   have hl2:(Bw (sub cs o u.sz) o' c).length=u.sz:=hsl
   simp only[Bw,sub,List.length_append,List.length_take,List.length_drop]at hl2
   repeat' split
   all_goals first|rfl|omega|(congr 1;omega)|(exfalso;omega)]
  exact this
theorem ZE{n:Nat}{i:Int}{m:Nat}(h:DQ n i=some m):0≤i∧m=i.toNat∧m<n:=by
 unfold DQ at h
 split at h
 ·rename_i hc;cases h;exact⟨hc.1,rfl,hc.2⟩
 ·cases h
theorem Er{j o len sz:Nat}{k:IntKind}{i:Int}(ha:C7 tb Γ a (.cp j o))(hb:C7 tb Γ b (.val (T.int k) i)):Fw tb Γ (.iaa len sz a b) (DQ len i) fun m=> .cp j (o+m*sz):=by
 intro E rv fp f H R m hm
 obtain⟨h0,rfl,h1⟩:=ZE hm
 obtain⟨l,id,e,hv⟩:=ha E rv fp f H R
 exact⟨.ptr id (o+i.toNat*sz),none,by simp only[Bp,hv,BY.1 (hb E rv fp f H R),HQ,Option.bind_some,if_pos (show 0≤i∧i<(len:Int) by omega),shift,val,Option.map_some],rfl,l,id,e,rfl⟩
theorem yO{t:T}{n len sz:Nat}{x:Ar t.α n}{k:IntKind}{i:Int}(hl:len=n)(hs:sz=t.sz)(ha:C7 tb Γ a (.rp (Ay n t) x))(hb:C7 tb Γ b (.val (T.int k) i)):Fw tb Γ (.iaa len sz a b) (Fo x.l i) fun y=> .rp t y:=by
 intro E rv fp f H R y hy
 simp only[Fo]at hy
 split at hy
 ·rename_i h0
  have hlt:=x.get_lt hy
  subst hl hs
  obtain⟨v,h1,h2⟩:=Zh.shift (AL.at len t i.toNat hlt) (ha E rv fp f H R)
  have:(AL.at len t i.toNat hlt).get x=y:=by
   have:=List.getElem?_eq_some_iff.1 hy
   exact this.2
  rw[this]at h2
  exact⟨v,none,by simp only[Bp,BY.1 (hb E rv fp f H R),HQ,Option.bind_some,if_pos (show 0≤i∧i<(len:Int) by omega),h1,val,Option.map_some],rfl,h2⟩
 ·cases hy
theorem h_ixa{t:T}{n len sz:Nat}{x:Ar t.α n}{ag:Bool}{k:IntKind}{i:Int}(hl:len=n)(hs:sz=t.sz)(hag:ag=t.agg)(ha:C7 tb Γ a (.val (Ay n t) x))(hb:C7 tb Γ b (.val (T.int k) i)):Fw tb Γ (.ixa len sz ag a b) (Fo x.l i) fun y=> .val t y:=by
 intro E rv fp f H R y hy
 simp only[Fo]at hy
 split at hy
 ·rename_i h0
  have hlt:=x.get_lt hy
  subst hl hs hag
  rcases ha E rv fp f H R with ⟨_,cs,e,r⟩|⟨e,_⟩
  ·have hg:=(AL.at len t i.toNat hlt).getR r
   have:(AL.at len t i.toNat hlt).get x=y:=(List.getElem?_eq_some_iff.1 hy).2
   rw[this]at hg
   obtain⟨v,h1,h2⟩:=T.V.of hg
   have hlen:=(Ay len t).len r
   have hlen':cs.length=len*t.sz:=hlen
   exact⟨v,none,by simp only[Bp,e,BY.1 (hb E rv fp f H R),HQ,Option.bind_some,if_pos (show 0≤i∧i<(len:Int)∧len*t.sz≤cs.length by omega),h1,val,Option.map_some],rfl,h2⟩
  ·cases e
 ·cases hy
theorem Jl{s t:T}{x:s.α}{n j o o' m k N:Nat}{ag:Bool}{ps:List (Nat×AK)}(F:AL s (Ay n t) o')(hag:ag=t.agg)(hk:k=t.sz)(ha:C7 tb Γ a (.cp j (o+m*t.sz)))(hj:AG Γ.ss j=some (.cells ps))(hp:Jm ps o=some (N, .val s x,o')):
  Fw tb Γ (.ld ag k a) ((F.get x).l[m]?) fun y=> .val t y:=by
 intro E rv fp f H R y hy
 have hlt:=(F.get x).get_lt hy
 obtain⟨l,id,e,hv⟩:=ha E rv fp f H R
 obtain⟨cs,h0,h2,h3⟩:=FX R hj e
 obtain⟨b',c,e0,e1,e2,e3,e4,e5,_⟩:=FA h3 hp
 have G:=J0 F (AL.at n t m hlt)
 have hr:=(J0 F (AL.at n t m hlt)).getR e4
 have hle:=(J0 F (AL.at n t m hlt)).le
 have hl:=s.len e4
 have:(J0 F (AL.at n t m hlt)).get x=y:=(List.getElem?_eq_some_iff.1 hy).2
 rw[this,←e5 (o'+m*t.sz) t.sz (by omega),show b'+(o'+m*t.sz)=o+m*t.sz by omega]at hr
 obtain⟨v,g1,g2⟩:=T.V.of hr
 subst hag hk
 exact⟨v,none,by simp only[Bp,hv,Am.load,place,h2,Option.map_some,Option.bind_some,if_pos (show o+m*t.sz+t.sz≤cs.length by omega),g1,val],rfl,g2⟩
end
end Go.Proofs.YtobejhpigbllpaaGreatDoor.Am
