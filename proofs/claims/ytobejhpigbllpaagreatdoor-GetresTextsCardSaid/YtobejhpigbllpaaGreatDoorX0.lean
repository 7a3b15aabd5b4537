/-
  An abstract machine over flat lists of abstract cells: its values, its code and what its code does. Nothing here is about memory.
  The machine's equations: a loop is its body and the loop again; a call is its body, in which calls are calls again.
  The machine's values and memory as those of the model: what an abstract value says of a value in a world; that it goes on saying it.
  Types as sets of Lean values, and what cells of the machine's say of such a value; memory that P names is no more written.
  What is known at a point of a function's code: of its temporaries and of the memory that it made itself.
  What is known, put otherwise: fewer things; a slot that is no more written.
  What a function's code computes, as a Lean value, and that it does: the shapes of code.
  A function: its arguments, its results; what its code computes is what a call of it comes to.
  What operations come to, on typed values: numbers, texts, tests.
  What operations come to, on typed values: fields, slices, memory, calls.
  What operations come to, on typed values: memory of the function's own, calls, equality.
  What operations come to, on typed values: slices that grow, texts and bytes, structures, calls, equality.
  What operations come to, on typed values: texts and bytes, pieces of slices, literals, arrays, calls, equality.
-/
import GoSem.Step
import Derived.Attr
import Derived.Calls
import Derived.Still
namespace Go.Proofs.YtobejhpigbllpaaGreatDoor.Am
inductive AV where
 |b(x:Bool)
 |i(k:IntKind)(n:Int)
 |s(l:List UInt8)
 |agg(cs:List AV)
 |tup(cs:List AV)
 |nilp
 |ptr(id off:Nat)
 |pe(id n i off:Nat)
 |ip(cs:List AV)(off:Nat)
 |nils
 |sl(sz:Nat)(els:List(List AV))
 |orow(id n lo len:Nat)
 |ocel(sz id off len:Nat)
 |nilm
 |mp(id:Nat)
 |nilf
 |fn(f:Fn)(first captured:List AV)
 |nili
 |ifc(t:Nat)(v:AV)
 |junk
 deriving Inhabited
inductive BH where
 |cells(t:Option Nat)(cs:List AV)
 |row(t:Option Nat)(fz:Bool)(sz:Nat)(els:List(List AV))
 |map(es:List(AV×AV))
 |iter(l:List UInt8)(pos:Nat)
 deriving Inhabited
abbrev Av:=List BH
abbrev Fr:=List(Nat×AV)
def get:Fr→Nat→AV
 |[],_=> .junk
 |(u,v)::r,t=>if u=t then v else get r t
def put(f:Fr)(d:Option Nat)(v:AV):Fr:=
 match d with
 |some t=>(t,v)::f
 |none=>f
inductive CK where
 |b
 |i(k:IntKind)
 |s
 deriving DecidableEq,Inhabited
inductive EK where
 |one(c:CK)
 |agg(l:List CK)
 |p
 |m
 |f
 |n
 |sl
 deriving DecidableEq,Inhabited
def zz:List(Nat×AV)→List AV
 |[]=>[]
 |(n,v)::r=>List.replicate n v++zz r
def kk:List(Nat×CK)→List CK
 |[]=>[]
 |(n,c)::r=>List.replicate n c++kk r
inductive AO where
 |t(n:Nat)
 |k(v:AV)
 |f(n:Nat)
 |g(n:Nat)
 deriving Inhabited
inductive HT where
 |mv(x:AO)
 |pick(c a b:AO)
 |alloc(t:Nat)(zero:List AV)
 |box(t n:Nat)(x:AO)
 |bld(zero:List AV)(parts:List(Nat×Nat×AO))
 |bls(t sz:Nat)(zero:List(List AV))(parts:List(Nat×AO))
 |bll(sz:Nat)(zero:List(List AV))(parts:List(Nat×AO))
 |ld(agg:Bool)(n:Nat)(a:AO)
 |st(n:Nat)(a x:AO)
 |nilc(x:AO)
 |bin(op:BinOp)(x y:AO)
 |eq(neg:Bool)(ek:EK)(x y:AO)
 |un(op:UnOp)(x:AO)
 |cvi(k:IntKind)(x:AO)
 |cvid(x:AO)
 |cvb(t:Nat)(x:AO)
 |cvr(x:AO)
 |cvs(x:AO)
 |cvc(x:AO)
 |mkf(fn:Fn)(first captured:List AO)
 |mkm
 |mks(t sz bytes:Nat)(zero:List AV)(len cap:AO)
 |sls(x:AO)(lo hi:Option AO)
 |sll(sz:Nat)(x:AO)(lo hi:Option AO)
 |sla(n sz:Nat)(x:AO)(lo hi:Option AO)
 |fa(off:Nat)(x:AO)
 |fld(agg:Bool)(off n:Nat)(x:AO)
 |ias(sz:Nat)(x i:AO)
 |iaa(len sz:Nat)(x i:AO)
 |ixa(len sz:Nat)(agg:Bool)(x i:AO)
 |ixs(x i:AO)
 |lkp(ek:EK)(zero:AV)(ok:Bool)(m k:AO)
 |mup(ek:EK)(m k v:AO)
 |rng(x:AO)
 |nxt(x:AO)
 |ext(x:AO)(i:Nat)
 |s2a(n sz:Nat)(x:AO)
 |mkif(t:Nat)(x:AO)
 |call(f:Nat)(xs:List AO)
 |callv(x:AO)(xs:List AO)
 |len(x:AO)
 |lens(x:AO)
 |app(t sz bytes:Nat)(s x:AO)
 |cpy(sz:Nat)(d s:AO)
 |mnx(max:Bool)(x y:AO)
 |clr(zero:List AV)(x:AO)
 |del(ek:EK)(m k:AO)
 |lenm(m:AO)
 |cvp(x:AO)
 |cvu(t n:Nat)(x:AO)
 |eqp(neg:Bool)(x y:AO)
 |isni(neg:Bool)(x:AO)
 |capn(x:AO)
 |usd(x:AO)
 |ust(t:Nat)(x n:AO)
 |die
 deriving Inhabited
structure AU where
 d:Option Nat
 g:Option(Nat×Bool)
 o:HT
 deriving Inhabited
inductive AC where
 |skip
 |reg(ops:List AU)
 |regq(ops:List AU)
 |regd(ops:List AU)(w:List(Option(Nat×Nat)))
 |seq(x y:AC)
 |cond(c:AO)(x y:AC)
 |blk(id:Nat)(x:AC)
 |loop(Ba:List Nat)(x:AC)
 |exit(id:Nat)
 |ret
 |keep(Ba:List Nat)(x:AC)
 |scope(x:AC)
 |stop
 deriving Inhabited
inductive Ex where
 |normal
 |exit(id:Nat)
 |ret
 deriving DecidableEq,Inhabited
inductive KX where
 |tmp(t:Nat)
 |cell(agg:Bool)(n:Nat)(t:Nat)
 deriving Inhabited
structure CM where
 warm:Bool
 np:Nat
 nt:Nat
 res:List KX
 body:AC
 deriving Inhabited
structure CZ where
 fns:Nat→Option CM
 gl:Nat→Option(List AV)
 prim:Nat→Option(List AV→Av→Option(AV×Option Av))
mutual
def B9:AV→Nat
 | .ptr id _=>id+1
 | .pe id _ _ _=>id+1
 | .orow id _ _ _=>id+1
 | .ocel _ id _ _=>id+1
 | .mp id=>id+1
 | .ip cs _=>Bh cs
 | .sl _ els=>CN els
 | .fn _ a b=>max(Bh a)(Bh b)
 | .ifc _ v=>B9 v
 | .agg cs=>Bh cs
 | .tup cs=>Bh cs
 |_=>0
def Bh:List AV→Nat
 |[]=>0
 |v::r=>max(B9 v)(Bh r)
def CN:List(List AV)→Nat
 |[]=>0
 |l::r=>max(Bh l)(CN r)
end
def En:BH→Nat
 | .cells _ cs=>Bh cs
 | .row _ _ _ els=>CN els
 | .map es=>max(Bh(es.map(·.1)))(Bh(es.map(·.2)))
 | .iter _ _=>0
def CE:Av→Nat
 |[]=>0
 |o::r=>max(En o)(CE r)
def cellsOf:AV→List AV
 | .agg cs=>cs
 | .tup _=>[]
 | .junk=>[]
 |v=>[v]
def sub(cs:List AV)(off n:Nat):List AV:=(cs.drop off).take n
def By(cs:List AV)(off:Nat)(new:List AV):List AV:=cs.take off++new++cs.drop(off+new.length)
def Hu(agg:Bool)(cs:List AV):Option AV:=
 match agg,cs with
 |true,cs=>some(.agg cs)
 |false,[v]=>some v
 |false,_=>none
def BZ(h:Av)(id:Nat):Option(List AV):=
 match h[id]? with
 |some(.cells _ cs)=>some cs
 |_=>none
def rowAt(h:Av)(id:Nat):Option(Bool×Nat×List(List AV)):=
 match h[id]? with
 |some(.row _ fz sz els)=>some(fz,sz,els)
 |_=>none
def Eo(h:Av)(id:Nat):Option Nat:=
 match h[id]? with
 |some(.cells t _)=>t
 |some(.row t _ _ _)=>t
 |_=>none
def UM(l:Option Nat)(t:Nat):Option Nat:=if l=some t then some t else none
def Mj(h:Av)(id:Nat):Option(List(AV×AV)):=
 match h[id]? with
 |some(.map es)=>some es
 |_=>none
def Xx(h:Av)(id:Nat):Option(List UInt8×Nat):=
 match h[id]? with
 |some(.iter l p)=>some(l,p)
 |_=>none
def place(h:Av):AV→Option(List AV×Nat)
 | .ptr id off=>(BZ h id).map fun cs=>(cs,off)
 | .pe id n i off=>(rowAt h id).bind fun r=>if n=r.2.2.length then some((r.2.2.drop i).flatten,off)else none
 | .ip cs off=>some(cs,off)
 |_=>none
def load(h:Av)(agg:Bool)(n:Nat)(a:AV):Option AV:=
 (place h a).bind fun p=>if p.2+n≤p.1.length then Hu agg(sub p.1 p.2 n)else none
def store(h:Av)(n:Nat)(a x:AV):Option Av:=
 match a with
 | .ptr id off=>(BZ h id).bind fun cs=>
  if(cellsOf x).length=n∧off+n≤cs.length then some(h.set id(BH.cells(Eo h id)(By cs off(cellsOf x))))else none
 | .pe id n' i off=>(rowAt h id).bind fun r=>
  if r.1=false∧n'=r.2.2.length∧(cellsOf x).length=n then
   (r.2.2[i]?).bind fun cs=>if off+n≤cs.length then some(h.set id(BH.row(Eo h id)false r.2.1(r.2.2.set i(By cs off(cellsOf x)))))else none
  else none
 |_=>none
def shift(off:Nat):AV→Option AV
 | .ptr id o=>some(.ptr id(o+off))
 | .pe id n i o=>some(.pe id n i(o+off))
 | .ip cs o=>some(.ip cs(o+off))
 |_=>none
def BR(sz:Nat):Nat→List AV→List(List AV)
 |0,_=>[]
 |n+1,cs=>cs.take sz::BR sz n(cs.drop sz)
def Ez(h:Av)(sz:Nat):AV→Option(List(List AV))
 | .nils=>some []
 | .sl sz' els=>if sz'=sz then some els else none
 | .orow id n lo len=>(rowAt h id).bind fun r=>if n=r.2.2.length∧r.2.1=sz∧lo+len≤n then some((r.2.2.drop lo).take len)else none
 | .ocel sz' id off len=>(BZ h id).bind fun cs=>if sz'=sz∧off+len*sz≤cs.length then some(BR sz len(cs.drop off))else none
 |_=>none
def PG:AV→Option Nat
 | .nils=>some 0
 | .sl _ els=>some els.length
 | .orow _ _ _ len=>some len
 | .ocel _ _ _ len=>some len
 |_=>none
def Bw(l:List UInt8):List(List AV):=l.map fun c=>[.i .u8 c.toNat]
def E0:List(List AV)→Option(List UInt8)
 |[]=>some []
 |[.i .u8 n]::r=>(E0 r).map(UInt8.ofNat n.toNat:: ·)
 |_=>none
def uF:CK→AV→AV→Option Bool
 | .b, .b x, .b y=>some(x==y)
 | .i k, .i k1 x, .i k2 y=>if k1=k∧k2=k then some(x==y)else none
 | .s, .s x, .s y=>some(x==y)
 |_,_,_=>none
def LA:List CK→List AV→List AV→Option Bool
 |[],[],[]=>some true
 |c::l,x::r,y::q=>(uF c x y).bind fun a=>(LA l r q).map fun b=>a&&b
 |_,_,_=>none
def XL:EK→AV→AV→Option Bool
 | .one c,x,y=>uF c x y
 | .agg l, .agg x, .agg y=>LA l x y
 | .p, .nilp, .nilp=>some true
 | .p, .nilp, .ptr _ _=>some false
 | .p, .nilp, .pe _ _ _ _=>some false
 | .p, .nilp, .ip _ _=>some false
 | .p, .ptr _ _, .nilp=>some false
 | .p, .pe _ _ _ _, .nilp=>some false
 | .p, .ip _ _, .nilp=>some false
 | .m, .nilm, .nilm=>some true
 | .m, .nilm, .mp _=>some false
 | .m, .mp _, .nilm=>some false
 | .f, .nilf, .nilf=>some true
 | .f, .nilf, .fn _ _ _=>some false
 | .f, .fn _ _ _, .nilf=>some false
 | .n, .nili, .ifc _ _=>some false
 | .n, .ifc _ _, .nili=>some false
 | .sl, .nils, .nils=>some true
 | .sl, .sl _ _, .nils=>some false
 | .sl, .orow _ _ _ _, .nils=>some false
 | .sl, .ocel _ _ _ _, .nils=>some false
 | .sl, .nils, .sl _ _=>some false
 | .sl, .nils, .orow _ _ _ _=>some false
 | .sl, .nils, .ocel _ _ _ _=>some false
 |_,_,_=>none
def rE(op:BinOp)(k:IntKind)(x y:Int):Int:=
 match op with
 | .and=>k.wrap(BitVec.ofInt k.bits x&&&BitVec.ofInt k.bits y).toNat
 | .or=>k.wrap(BitVec.ofInt k.bits x|||BitVec.ofInt k.bits y).toNat
 | .xor=>k.wrap(BitVec.ofInt k.bits x^^^BitVec.ofInt k.bits y).toNat
 |_=>k.wrap(BitVec.ofInt k.bits x&&& ~~~(BitVec.ofInt k.bits y)).toNat
def Bf:Nat:=1099511627776
def bin(op:BinOp):AV→AV→Option AV
 | .i k a, .i k' b=>
  match op with
  | .shl=>if b<0 then none else some(.i k(k.wrap(a*2^(min b.toNat k.bits))))
  | .shr=>if b<0 then none else some(.i k(a.fdiv(2^(min b.toNat k.bits))))
  |op=>
   if k=k' then
    match op with
    | .add=>some(.i k(k.wrap(a+b)))
    | .sub=>some(.i k(k.wrap(a-b)))
    | .mul=>some(.i k(k.wrap(a*b)))
    | .quo=>if b=0 then none else some(.i k(k.wrap(a.tdiv b)))
    | .rem=>if b=0 then none else some(.i k(a.tmod b))
    | .eql=>some(.b(a==b))
    | .neq=>some(.b(a != b))
    | .lss=>some(.b(decide(a<b)))
    | .leq=>some(.b(decide(a≤b)))
    | .gtr=>some(.b(decide(a>b)))
    | .geq=>some(.b(decide(a≥b)))
    |op=>some(.i k(rE op k a b))
   else none
 | .s a, .s b=>
  match op with
  | .add=>if a.length+b.length≤2*Bf then some(.s(a++b))else none
  | .eql=>some(.b(a==b))
  | .neq=>some(.b(!(a==b)))
  | .lss=>some(.b(Op.bytesLess a b))
  | .leq=>some(.b(Op.bytesLess a b||a==b))
  | .gtr=>some(.b(!(Op.bytesLess a b||a==b)))
  | .geq=>some(.b(!(Op.bytesLess a b)))
  |_=>none
 |_,_=>none
def un(op:UnOp):AV→Option AV
 | .i k a=>match op with
  | .neg=>some(.i k(k.wrap(0-a)))
  | .xor=>some(.i k(rE .xor k(if k.signed then-1 else k.max)a))
  |_=>none
 | .b x=>match op with
  | .not=>some(.b(!x))
  |_=>none
 |_=>none
def HW:AV→Option Int
 | .i _ n=>some n
 |_=>none
def JY(x:AV)(to:Nat):Option Nat:=
 (HW x).bind fun n=>if 0≤n∧n≤to then some n.toNat else none
def Ht(f:AO→AV)(len:Nat)(lo hi:Option AO):Option(Nat×Nat):=
 (match hi with
  |none=>some len
  |some x=>JY(f x)len).bind fun h=>
 (match lo with
  |none=>some 0
  |some x=>JY(f x)h).bind fun l=>some(l,h)
def Mn(cells:List AV)(rho:AO→AV):List(Nat×Nat×AO)→Option(List AV)
 |[]=>some cells
 |(off,n,x)::r=>
  if(cellsOf(rho x)).length=n∧off+n≤cells.length then Mn(By cells off(cellsOf(rho x)))rho r else none
def Mo(els:List(List AV))(sz:Nat)(rho:AO→AV):List(Nat×AO)→Option(List(List AV))
 |[]=>some els
 |(i,x)::r=>
  if(cellsOf(rho x)).length=sz∧i<els.length then Mo(els.set i(cellsOf(rho x)))sz rho r else none
def find(ek:EK)(k:AV):List(AV×AV)→Nat→Option(Option(Nat×AV))
 |[],_=>some none
 |(x,v)::r,i=>(XL ek k x).bind fun e=>if e then some(some(i,v))else find ek k r(i+1)
def Mk:EK→AV→Bool
 | .one _,_=>true
 | .agg l, .agg cs=>Nat.beq cs.length l.length
 |_,_=>false
def Lm(h:Av):AV→Option(List(AV×AV))
 | .nilm=>some []
 | .mp id=>Mj h id
 |_=>none
def UO(h:Av)(sz:Nat)(v:AV)(n:Nat):Option AV:=
 (Ez h sz v).bind fun els=>
  if n<els.length then
   match v with
   | .orow id k lo _=>some(.pe id k(lo+n)0)
   | .ocel _ id off _=>some(.ptr id(off+n*sz))
   |_=>(els[n]?).map fun cs=> .ip cs 0
  else none
def resl(h:Av)(sz:Nat)(v:AV)(a b:Nat):Option AV:=
 match v with
 | .nils=>some .nils
 | .sl sz' els=>if sz'=sz then some(.sl sz((els.take b).drop a))else none
 | .orow id n l len=>(rowAt h id).bind fun r=>if n=r.2.2.length∧r.2.1=sz∧l+len≤n then some(.orow id n(l+a)(b-a))else none
 | .ocel sz' id off _=>if sz'=sz then some(.ocel sz id(off+a*sz)(b-a))else none
 |_=>none
def rG(h:Av)(n sz:Nat)(v:AV)(a b:Nat):Option AV:=
 match v with
 | .ptr id off=>(BZ h id).bind fun cs=>if off+n*sz≤cs.length then some(.ocel sz id(off+a*sz)(b-a))else none
 | .ip cs off=>if off+n*sz≤cs.length then some(.sl sz(((BR sz n(cs.drop off)).take b).drop a))else none
 |_=>none
def rH(n sz:Nat)(v:AV):Option AV:=
 match v with
 | .ocel sz' id off len=>if sz'=sz∧n≤len then some(.ptr id off)else none
 | .sl sz' els=>if sz'=sz∧n≤els.length then some(.ip(els.take n).flatten 0)else none
 | .orow id k lo len=>if n≤len∧0<n then some(.pe id k lo 0)else none
 |_=>none
def iB(h:Av)(sz:Nat)(v:AV):Option(List(List AV)):=
 match v with
 | .s l=>if sz=1 then some(Bw l)else none
 |v=>Ez h sz v
def U1(h:Av)(t sz bytes:Nat)(v:AV)(new:List(List AV)):Option(AV×Option Av):=
 match v with
 | .nils=>
  if new.length=0 then some(.nils,none)
  else if new.length*bytes≤Bf then some(.orow h.length new.length 0 new.length,some(h++[BH.row(some t)false sz new]))else none
 | .orow id n lo len=>(rowAt h id).bind fun r=>
  if lo=0∧n=r.2.2.length∧len=n∧r.2.1=sz∧(n+new.length)*bytes≤Bf∧r.1=false then
   if new.length=0 then some(.orow id n 0 n,none)
   else some(.orow id(n+new.length)0(n+new.length),some(h.set id(BH.row(UM(Eo h id)t)r.1 sz(r.2.2++new))))
  else none
 |_=>none
def eQ(h:Av)(sz:Nat)(v:AV)(src:List(List AV)):Option(AV×Option Av):=
 match v with
 | .nils=>some(.i .i64 0,none)
 | .orow id n lo len=>(rowAt h id).bind fun r=>
  if r.1=false∧n=r.2.2.length∧r.2.1=sz∧lo+len≤n then
   some(.i .i64(min src.length len:Nat),some(h.set id(BH.row(Eo h id)false sz(r.2.2.take lo++src.take(min src.length len)++r.2.2.drop(lo+min src.length len)))))
  else none
 | .ocel sz' id off len=>(BZ h id).bind fun cs=>
  if sz'=sz∧off+len*sz≤cs.length then
   some(.i .i64(min src.length len:Nat),some(h.set id(BH.cells(Eo h id)(cs.take off++(src.take(min src.length len)).flatten++cs.drop(off+min src.length len*sz)))))
  else none
 |_=>none
abbrev KH:=Option(AV×Option Av)
def val(v:Option AV):KH:=v.map fun v=>(v,none)
def B3(tb:CZ)(cl:Nat→List AV→Av→KH)(h:Av)(f:Nat)(args:List AV):KH:=
 match tb.prim f with
 |some p=>p args h
 |none=>cl f args h
def Bq(tb:CZ)(cl:Nat→List AV→Av→KH)(rho:AO→AV)(h:Av):HT→KH
 | .mv x=>some(rho x,none)
 | .pick c a b=>match rho c with
  | .b t=>some(if t then rho a else rho b,none)
  |_=>none
 | .alloc t zero=>some(.ptr h.length 0,some(h++[BH.cells(some t)zero]))
 | .box t n x=>if(cellsOf(rho x)).length=n then some(.ptr h.length 0,some(h++[BH.cells(some t)(cellsOf(rho x))]))else none
 | .bld zero parts=>val((Mn zero rho parts).map .agg)
 | .bls t sz zero parts=>(Mo zero sz rho parts).map fun els=>(.orow h.length els.length 0 els.length,some(h++[BH.row(some t)false sz els]))
 | .bll sz zero parts=>val((Mo zero sz rho parts).map(.sl sz))
 | .ld agg n a=>val(load h agg n(rho a))
 | .st n a x=>(store h n(rho a)(rho x)).map fun h=>(.junk,some h)
 | .nilc x=>match rho x with
  | .ptr a b=>some(.ptr a b,none)
  | .pe a b c d=>some(.pe a b c d,none)
  | .ip a b=>some(.ip a b,none)
  | .fn(.func f)a b=>some(.fn(.func f)a b,none)
  |_=>none
 | .bin op x y=>val(bin op(rho x)(rho y))
 | .eq neg ek x y=>val((XL ek(rho x)(rho y)).map fun e=> .b(if neg then !e else e))
 | .un op x=>val(un op(rho x))
 | .cvi k x=>match rho x with
  | .i _ n=>some(.i k(k.wrap n),none)
  |_=>none
 | .cvid x=>match rho x with
  | .s l=>some(.s l,none)
  |_=>none
 | .cvb t x=>match rho x with
  | .s l=>some(.orow h.length l.length 0 l.length,some(h++[BH.row(some t)false 1(Bw l)]))
  |_=>none
 | .cvr x=>match rho x with
  | .orow id n lo len=>(rowAt h id).bind fun r=>if r.1=false∧n=r.2.2.length∧lo+len≤n then some(.orow id n lo len,none)else none
  |_=>none
 | .cvs x=>val(((Ez h 1(rho x)).bind E0).map .s)
 | .cvc x=>match rho x with
  | .i _ n=>some(.s(Utf8.encode n).data.toList,none)
  |_=>none
 | .mkf fn a b=>some(.fn fn(a.map rho)(b.map rho),none)
 | .mkm=>some(.mp h.length,some(h++[BH.map []]))
 | .mks t sz bytes zero len cap=>
  (HW(rho len)).bind fun l=>(HW(rho cap)).bind fun c=>
   if 0≤l∧l≤c∧c*bytes≤Bf then
    some(.orow h.length l.toNat 0 l.toNat,some(h++[BH.row(some t)false sz(List.replicate l.toNat zero)]))
   else none
 | .sls x lo hi=>match rho x with
  | .s l=>(Ht rho l.length lo hi).map fun p=>(.s((l.take p.2).drop p.1),none)
  |_=>none
 | .sll sz x lo hi=>(PG(rho x)).bind fun len=>(Ht rho len lo hi).bind fun p=>val(resl h sz(rho x)p.1 p.2)
 | .sla n sz x lo hi=>(Ht rho n lo hi).bind fun p=>val(rG h n sz(rho x)p.1 p.2)
 | .fa off x=>val(shift off(rho x))
 | .fld agg off n x=>match rho x with
  | .agg cs=>if off+n≤cs.length then val(Hu agg(sub cs off n))else none
  |_=>none
 | .ias sz x i=>(HW(rho i)).bind fun n=>if 0≤n then val(UO h sz(rho x)n.toNat)else none
 | .iaa len sz x i=>
  (HW(rho i)).bind fun n=>if 0≤n∧n<len then val(shift(n.toNat*sz)(rho x))else none
 | .ixa len sz agg x i=>
  (HW(rho i)).bind fun n=>match rho x with
   | .agg cs=>if 0≤n∧n<len∧len*sz≤cs.length then val(Hu agg(sub cs(n.toNat*sz)sz))else none
   |_=>none
 | .ixs x i=>
  (HW(rho i)).bind fun n=>match rho x with
   | .s l=>if 0≤n then(l[n.toNat]?).map fun c=>(.i .u8 c.toNat,none)else none
   |_=>none
 | .lkp ek zero ok m k=>
  if Mk ek(rho k)then(Lm h(rho m)).bind fun es=>(find ek(rho k)es 0).map fun r=>match r with
    |some(_,v)=>(if ok then .tup [v, .b true]else v,none)
    |none=>(if ok then .tup [zero, .b false]else zero,none)
  else none
 | .mup ek m k v=>match rho m with
  | .mp id=>if Mk ek(rho k)then(Mj h id).bind fun es=>(find ek(rho k)es 0).map fun r=>match r with
    |some(i,_)=>(.junk,some(h.set id(BH.map(es.set i(rho k,rho v)))))
    |none=>(.junk,some(h.set id(BH.map(es++[(rho k,rho v)]))))
   else none
  |_=>none
 | .rng x=>match rho x with
  | .s l=>some(.ptr h.length 0,some(h++[BH.iter l 0]))
  |_=>none
 | .nxt x=>match rho x with
  | .ptr id off=>(Xx h id).bind fun it=>
   if off=0 then
    if it.2<it.1.length then
     some(.tup [.b true, .i .i64 it.2, .i .i32(Utf8.decode⟨it.1.toArray⟩it.2).1],some(h.set id(BH.iter it.1(it.2+(Utf8.decode⟨it.1.toArray⟩it.2).2))))
    else some(.tup [.b false],none)
   else none
  |_=>none
 | .ext x i=>match rho x with
  | .tup vs=>val(vs[i]?)
  |_=>none
 | .s2a n sz x=>val(rH n sz(rho x))
 | .mkif _ _=>some(.ifc 0 .junk,none)
 | .call f xs=>B3 tb cl h f(xs.map rho)
 | .callv x xs=>match rho x with
  | .fn(.func f)first captured=>B3 tb cl h f(first++xs.map rho++captured)
  |_=>none
 | .len x=>(PG(rho x)).map fun(n:Nat)=>(.i .i64(n:Int),none)
 | .lens x=>match rho x with
  | .s l=>some(.i .i64(l.length:Nat),none)
  |_=>none
 | .app t sz bytes s x=>(iB h sz(rho x)).bind fun new=>U1 h t sz bytes(rho s)new
 | .cpy sz d s=>(iB h sz(rho s)).bind fun src=>eQ h sz(rho d)src
 | .mnx max x y=>match rho x,rho y with
  | .i k a, .i k' b=>if k=k' then some(.i k(if max then(if b>a then b else a)else(if b<a then b else a)),none)else none
  |_,_=>none
 | .clr zero x=>match rho x with
  | .nils=>some(.tup [],none)
  | .orow id n lo len=>(rowAt h id).bind fun r=>
   if r.1=false∧n=r.2.2.length∧lo+len≤n∧zero.length=r.2.1 then
    some(.tup [],some(h.set id(BH.row(Eo h id)false r.2.1(r.2.2.take lo++List.replicate len zero++r.2.2.drop(lo+len)))))
   else none
  | .mp id=>(Mj h id).map fun _=>(.tup [],some(h.set id(BH.map [])))
  |_=>none
 | .del ek m k=>match rho m with
  | .nilm=>if Mk ek(rho k)then some(.tup [],none)else none
  | .mp id=>if Mk ek(rho k)then(Mj h id).bind fun es=>(find ek(rho k)es 0).map fun r=>match r with
    |some(i,_)=>(.tup [],some(h.set id(BH.map(es.eraseIdx i))))
    |none=>(.tup [],none)
   else none
  |_=>none
 | .lenm m=>(Lm h(rho m)).map fun es=>(.i .i64 es.length,none)
 | .cvp x=>match rho x with
  | .nilp=>some(.nilp,none)
  | .ptr id off=>(BZ h id).bind fun cs=>if off<cs.length then some(.ptr id off,none)else none
  |_=>none
 | .cvu t n x=>match rho x with
  | .nilp=>some(.nilp,none)
  | .ptr id off=>(BZ h id).bind fun cs=>if off=0∧cs.length=n∧Eo h id=some t then some(.ptr id 0,none)else none
  |_=>none
 | .capn x=>match rho x with
  | .nils=>some(.i .i64 0,none)
  |_=>none
 | .isni neg x=>match rho x with
  | .nili=>some(.b(!neg),none)
  | .ifc _ _=>some(.b neg,none)
  |_=>none
 | .eqp neg x y=>match rho x,rho y with
  | .ptr a o, .ptr b o'=>if a=b∧o=o' then some(.b(!neg),none)else none
  |_,_=>none
 | .usd x=>match rho x with
  | .nils=>some(.nilp,none)
  | .orow id n lo len=>(rowAt h id).bind fun r=>if n=r.2.2.length∧lo+len≤n∧0<len then some(.pe id n lo 0,none)else none
  |_=>none
 | .ust t x n=>(HW(rho n)).bind fun k=>match rho x with
  | .nilp=>if k=0 then some(.s [],none)else none
  | .pe id n i off=>(rowAt h id).bind fun r=>
   if off=0∧0<k∧n=r.2.2.length∧i+k.toNat≤n∧r.2.1=1∧Eo h id=some t∧k≤Bf then
    (E0((r.2.2.drop i).take k.toNat)).map fun l=>(.s l,some(h.set id(BH.row(Eo h id)true 1 r.2.2)))
   else none
  |_=>none
 | .die=>none
def eval(tb:CZ)(f:Fr):AO→AV
 | .t n=>get f n
 | .k v=>v
 | .f n=> .fn(.func n) [] []
 | .g n=>match tb.gl n with
  |some cs=> .ip cs 0
  |none=> .junk
def wanted(f:Fr)(g:Option(Nat×Bool)):Option Bool:=
 match g with
 |none=>some true
 |some(t,w)=>match get f t with
  | .b x=>some(x==w)
  | .tup []=>some false
  |_=>none
def ops(tb:CZ)(cl:Nat→List AV→Av→KH):List AU→Fr→Av→Option(Fr×Av)
 |[],f,h=>some(f,h)
 |o::r,f,h=>
  (wanted f o.g).bind fun w=>
   if w then(Bq tb cl(eval tb f)h o.o).bind fun p=>ops tb cl r(put f o.d p.1)(p.2.getD h)
   else ops tb cl r(put f o.d(.tup []))h
def HV(tb:CZ)(cl:Nat→List AV→Av→KH):List AU→List(Option(Nat×Nat))→Fr→Av→Option(List Av)
 |[],_,_,h=>some [h]
 |o::r,w,f,h=>
  (wanted f o.g).bind fun t=>
   if t then(Bq tb cl(eval tb f)h o.o).bind fun p=>
    (HV tb cl r w.tail(put f o.d p.1)(p.2.getD h)).map fun l=>
     match w.head? with
     |some none=>h::l
     |_=>l
   else(HV tb cl r w.tail(put f o.d(.tup []))h).map fun l=>
    match w.head? with
    |some none=>h::l
    |_=>l
open Classical in
noncomputable def Ih(tb:CZ)(cl:Nat→List AV→Av→KH)(h:Av):List AU→Fr→Option Fr
 |[],f=>some f
 |o::r,f=>
  (wanted f o.g).bind fun w=>
   if w then(Bq tb cl(eval tb f)h o.o).bind fun p=>if p.2.getD h=h then Ih tb cl h r(put f o.d p.1)else none
   else Ih tb cl h r(put f o.d(.tup []))
open Classical in
noncomputable def JA(tb:CZ)(cl:Nat→List AV→Av→KH)(hs:List Av):List AU→List(Option(Nat×Nat))→Nat→Fr→Option Fr
 |[],_,k,f=>if k+1=hs.length then some f else none
 |o::r,w,k,f=>
  (wanted f o.g).bind fun t=>
   if t then(hs[k]?).bind fun h=>(Bq tb cl(eval tb f)h o.o).bind fun p=>
    match w with
    |none::w=>if some(p.2.getD h)=hs[k+1]? then JA tb cl hs r w(k+1)(put f o.d p.1)else none
    |some(lo,hi)::w=>
     if(List.range' lo(hi+1-lo)).all(fun j=>decide(∃u,(hs[j]?).bind(fun h=>Bq tb cl(eval tb f)h o.o)=some(p.1,u)∧some(u.getD(hs[j]?.getD []))=hs[j]?))then
      JA tb cl hs r w k(put f o.d p.1)
     else none
    |[]=>none
   else match w with
    |none::w=>if hs[k]? =hs[k+1]? then JA tb cl hs r w(k+1)(put f o.d(.tup []))else none
    |some _::w=>JA tb cl hs r w k(put f o.d(.tup []))
    |[]=>none
def keepL(Ba:List Nat)(f:Fr):Fr:=Ba.map fun t=>(t,get f t)
def Vz(F:Fr→Av→Option(Ex×Fr×Av)):Nat→Fr→Av→Option(Ex×Fr×Av)
 |0,_,_=>none
 |n+1,f,h=>match F f h with
  |some(.normal,f',h')=>Vz F n f' h'
  |r=>r
open Classical in
noncomputable def lp(F:Fr→Av→Option(Ex×Fr×Av))(f:Fr)(h:Av):Option(Ex×Fr×Av):=
 if x: ∃n,(Vz F n f h).isSome=true then Vz F(Classical.choose x)f h else none
def KY(Ba:List Nat)(F:Fr→Av→Option(Ex×Fr×Av))(f:Fr)(h:Av):Option(Ex×Fr×Av):=
 (F(keepL Ba f)h).map fun
  |(.normal,f',h')=>(.normal,keepL Ba f',h')
  |r=>r
noncomputable def AX(tb:CZ)(cl:Nat→List AV→Av→KH):AC→Fr→Av→Option(Ex×Fr×Av)
 | .skip,f,h=>some(.normal,f,h)
 | .reg l,f,h=>(ops tb cl l f h).map fun p=>(.normal,p.1,p.2)
 | .regq l,f,h=>(Ih tb cl h l f).map fun f=>(.normal,f,h)
 | .regd l w,f,h=>(HV tb cl l w f h).bind fun hs=>(JA tb cl(h::hs.tail)l w 0 f).bind fun f=>((h::hs.tail).getLast?).map fun h=>(.normal,f,h)
 | .seq x y,f,h=>(AX tb cl x f h).bind fun
  |(.normal,f,h)=>AX tb cl y f h
  |r=>some r
 | .cond c x y,f,h=>match eval tb f c with
  | .b t=>if t then AX tb cl x f h else AX tb cl y f h
  |_=>none
 | .blk id x,f,h=>(AX tb cl x f h).map fun
  |(.exit id',f,h)=>if id'=id then(.normal,f,h)else(.exit id',f,h)
  |r=>r
 | .loop Ba x,f,h=>lp(KY Ba(AX tb cl x))f h
 | .exit id,f,h=>some(.exit id,f,h)
 | .ret,f,h=>some(.ret,f,h)
 | .keep Ba x,f,h=>(AX tb cl x f h).map fun
  |(.normal,f,h)=>(.normal,keepL Ba f,h)
  |r=>r
 | .scope x,f,h=>AX tb cl x f h
 | .stop,_,_=>none
def results(f:Fr)(h:Av):List KX→Option(List AV)
 |[]=>some []
 | .tmp t::r=>(results f h r).map(get f t:: ·)
 | .cell agg n t::r=>(load h agg n(get f t)).bind fun v=>(results f h r).map(v:: ·)
def Gv:List AV→AV
 |[v]=>v
 |vs=> .tup vs
def D7{α:Type}(F:α→Option α):List α→Option(List α)
 |[]=>some []
 |x::r=>(F x).bind fun x=>(D7 F r).map(x:: ·)
def frz(h:Av)(n:Nat):Nat→AV→Option AV
 |0,v=>if B9 v≤n then some v else none
 |d+1,v=>if B9 v≤n then some v else match v with
  | .orow id k lo len=>(rowAt h id).bind fun r=>
   if k=r.2.2.length∧lo+len≤k then(D7(D7(frz h n d))((r.2.2.drop lo).take len)).map(.sl r.2.1)else none
  | .ocel sz id off len=>(BZ h id).bind fun cs=>
   if off+len*sz≤cs.length then(D7(D7(frz h n d))(BR sz len(cs.drop off))).map(.sl sz)else none
  | .sl sz els=>(D7(D7(frz h n d))els).map(.sl sz)
  | .agg cs=>(D7(frz h n d)cs).map .agg
  | .tup cs=>(D7(frz h n d)cs).map .tup
  |_=>none
def dW(h:Av)(n:Nat)(l:List AV):Option(List AV):=D7(frz h n 12)l
def Xk(n:Nat)(h:Av)(vs:List AV):AV×Option Av:=
 match dW h n vs with
 |some vs'=>if CE(h.take n)≤n then(Gv vs',some(h.take n))else(Gv vs,some h)
 |none=>(Gv vs,some h)
def WY(warm:Bool)(n:Nat)(h:Av)(vs:List AV):AV×Option Av:=
 match warm with
 |true=>(Gv vs,some h)
 |false=>Xk n h vs
noncomputable def body(tb:CZ)(cl:Nat→List AV→Av→KH)(fn:CM)(args:List AV)(h:Av):KH:=
 if args.length=fn.np then
  (AX tb cl fn.body(args.zipIdx.map fun p=>(p.2,p.1))h).bind fun
   |(.exit _,_,_)=>none
   |(_,f,h')=>(results f h' fn.res).map fun vs=>WY fn.warm h.length h' vs
 else none
noncomputable def run(tb:CZ):Nat→Nat→List AV→Av→KH
 |0,_,_,_=>none
 |n+1,f,args,h=>(tb.fns f).bind fun fn=>body tb(run tb n)fn args h
open Classical in
noncomputable def Ck(tb:CZ)(f:Nat)(args:List AV)(h:Av):KH:=
 if x: ∃n,(run tb n f args h).isSome=true then run tb(Classical.choose x)f args h else none
end Go.Proofs.YtobejhpigbllpaaGreatDoor.Am
namespace Go.Proofs.YtobejhpigbllpaaGreatDoor.Am
theorem iF(F:Fr→Av→Option(Ex×Fr×Av)): ∀(n:Nat)(f:Fr)(h:Av)(r:Ex×Fr×Av),Vz F n f h=some r→ ∀m,n≤m→Vz F m f h=some r:=by
 intro n
 induction n with
 |zero=>intro f h r e;simp[Vz]at e
 |succ n ih=>
  intro f h r e m hm
  obtain⟨m,rfl⟩: ∃k,m=k+1:=⟨m-1,by omega⟩
  simp only[Vz]at e ⊢
  split at e
  ·exact ih _ _ _ e m(by omega)
  ·exact e
theorem yK(F:Fr→Av→Option(Ex×Fr×Av)){n:Nat}{f:Fr}{h:Av}{r:Ex×Fr×Av}(e:Vz F n f h=some r):lp F f h=some r:=by
 unfold lp
 have x: ∃n,(Vz F n f h).isSome=true:=⟨n,by rw[e];rfl⟩
 rw[dif_pos x]
 have hc:=Classical.choose_spec x
 cases hr:Vz F(Classical.choose x)f h with
 |none=>rw[hr]at hc;simp at hc
 |some r'=>
  have h1:=iF F _ _ _ _ e(max n(Classical.choose x))(by omega)
  have h2:=iF F _ _ _ _ hr(max n(Classical.choose x))(by omega)
  rw[h1]at h2
  exact h2.symm
theorem lp_ex{F:Fr→Av→Option(Ex×Fr×Av)}{f:Fr}{h:Av}{r:Ex×Fr×Av}(e:lp F f h=some r): ∃n,Vz F n f h=some r:=by
 unfold lp at e
 split at e
 ·exact⟨_,e⟩
 ·simp at e
def Below(c d:Nat→List AV→Av→KH):Prop:= ∀f a h r,c f a h=some r→d f a h=some r
theorem Ti{tb:CZ}{c d:Nat→List AV→Av→KH}(b:Below c d){h:Av}{f:Nat}{a:List AV}{r:AV×Option Av}
  (e:B3 tb c h f a=some r):B3 tb d h f a=some r:=by
 unfold B3 at*
 split
 ·rename_i p hp;rw[hp]at e;exact e
 ·rename_i hp;rw[hp]at e;exact b _ _ _ _ e
theorem Gd{tb:CZ}{c d:Nat→List AV→Av→KH}(b:Below c d){rho:AO→AV}{h:Av}{o:HT}{r:AV×Option Av}
  (e:Bq tb c rho h o=some r):Bq tb d rho h o=some r:=by
 cases o<;>first
  |exact e
  |(simp only[Bq]at e ⊢;exact Ti b e)
  |skip
 case callv x xs=>
  simp only[Bq]at e ⊢
  split at e
  ·exact Ti b e
  ·simp at e
theorem hX{tb:CZ}{c d:Nat→List AV→Av→KH}(b:Below c d): ∀(l:List AU)(f:Fr)(h:Av)(r:Fr×Av),ops tb c l f h=some r→ops tb d l f h=some r:=by
 intro l
 induction l with
 |nil=>intro f h r e;exact e
 |cons o l ih=>
  intro f h r e
  simp only[ops]at e ⊢
  cases hw:wanted f o.g with
  |none=>rw[hw]at e;simp at e
  |some t=>
   rw[hw]at e
   simp only[Option.bind_some]at e ⊢
   cases t with
   |false=>exact ih _ _ _ e
   |true=>
    simp only[if_true]at e ⊢
    cases ha:Bq tb c(eval tb f)h o.o with
    |none=>rw[ha]at e;simp at e
    |some p=>
     rw[ha]at e
     rw[Gd b ha]
     exact ih _ _ _ e
theorem ZI{tb:CZ}{c d:Nat→List AV→Av→KH}(b:Below c d)(h:Av): ∀(l:List AU)(f:Fr)(r:Fr),Ih tb c h l f=some r→Ih tb d h l f=some r:=by
 intro l
 induction l with
 |nil=>intro f r e;exact e
 |cons o l ih=>
  intro f r e
  simp only[Ih]at e ⊢
  cases hw:wanted f o.g with
  |none=>rw[hw]at e;simp at e
  |some t=>
   rw[hw]at e
   simp only[Option.bind_some]at e ⊢
   cases t with
   |false=>exact ih _ _ e
   |true=>
    simp only[if_true]at e ⊢
    cases ha:Bq tb c(eval tb f)h o.o with
    |none=>rw[ha]at e;simp at e
    |some p=>
     rw[ha]at e
     rw[Gd b ha]
     simp only[Option.bind_some]at e ⊢
     split at e
     ·rename_i hq;rw[if_pos hq];exact ih _ _ e
     ·simp at e
theorem RG{tb:CZ}{c d:Nat→List AV→Av→KH}(b:Below c d): ∀(l:List AU)(w:List(Option(Nat×Nat)))(f:Fr)(h:Av)(r:List Av),
  HV tb c l w f h=some r→HV tb d l w f h=some r:=by
 intro l
 induction l with
 |nil=>intro w f h r e;exact e
 |cons o l ih=>
  intro w f h r e
  simp only[HV]at e ⊢
  cases hw:wanted f o.g with
  |none=>rw[hw]at e;simp at e
  |some t=>
   rw[hw]at e
   simp only[Option.bind_some]at e ⊢
   cases t with
   |false=>
    simp only[Bool.false_eq_true,if_false]at e ⊢
    cases hh:HV tb c l w.tail(put f o.d(.tup []))h with
    |none=>rw[hh]at e;simp at e
    |some r'=>rw[hh]at e;rw[ih _ _ _ _ hh];exact e
   |true=>
    simp only[if_true]at e ⊢
    cases ha:Bq tb c(eval tb f)h o.o with
    |none=>rw[ha]at e;simp at e
    |some p=>
     rw[ha]at e
     rw[Gd b ha]
     simp only[Option.bind_some]at e ⊢
     cases hh:HV tb c l w.tail(put f o.d p.1)(p.2.getD h)with
     |none=>rw[hh]at e;simp at e
     |some r'=>rw[hh]at e;rw[ih _ _ _ _ hh];exact e
theorem Qp{tb:CZ}{c d:Nat→List AV→Av→KH}(b:Below c d)(hs:List Av): ∀(l:List AU)(w:List(Option(Nat×Nat)))(k:Nat)(f:Fr)(r:Fr),
  JA tb c hs l w k f=some r→JA tb d hs l w k f=some r:=by
 intro l
 induction l with
 |nil=>intro w k f r e;exact e
 |cons o l ih=>
  intro w k f r e
  simp only[JA]at e ⊢
  cases hw:wanted f o.g with
  |none=>rw[hw]at e;simp at e
  |some t=>
   rw[hw]at e
   simp only[Option.bind_some]at e ⊢
   cases t with
   |false=>
    simp only[Bool.false_eq_true,if_false]at e ⊢
    cases w with
    |nil=>simp at e
    |cons x w=>
     cases x with
     |none=>
      simp only at e ⊢
      split at e
      ·rename_i hq;rw[if_pos hq];exact ih _ _ _ _ e
      ·simp at e
     |some y=>exact ih _ _ _ _ e
   |true=>
    simp only[if_true]at e ⊢
    cases hk:hs[k]? with
    |none=>rw[hk]at e;simp at e
    |some h=>
     rw[hk]at e
     simp only[Option.bind_some]at e ⊢
     cases ha:Bq tb c(eval tb f)h o.o with
     |none=>rw[ha]at e;simp at e
     |some p=>
      rw[ha]at e
      rw[Gd b ha]
      simp only[Option.bind_some]at e ⊢
      cases w with
      |nil=>simp at e
      |cons x w=>
       cases x with
       |none=>
        simp only at e ⊢
        split at e
        ·rename_i hq;rw[if_pos hq];exact ih _ _ _ _ e
        ·simp at e
       |some y=>
        obtain⟨lo,hi⟩:=y
        simp only at e ⊢
        split at e
        ·rename_i hq
         rw[if_pos]
         ·exact ih _ _ _ _ e
         ·simp only[List.all_eq_true,decide_eq_true_eq]at hq ⊢
          intro j hj
          obtain⟨u,hu,hu'⟩:=hq j hj
          refine⟨u,?_,hu'⟩
          cases hj':hs[j]? with
          |none=>rw[hj']at hu;simp at hu
          |some h'=>rw[hj']at hu;exact Gd b hu
        ·simp at e
theorem yL{F G:Fr→Av→Option(Ex×Fr×Av)}(b: ∀f h r,F f h=some r→G f h=some r): ∀(n:Nat)(f:Fr)(h:Av)(r:Ex×Fr×Av),Vz F n f h=some r→Vz G n f h=some r:=by
 intro n
 induction n with
 |zero=>intro f h r e;simp[Vz]at e
 |succ n ih=>
  intro f h r e
  simp only[Vz]at e ⊢
  cases hF:F f h with
  |none=>rw[hF]at e;simp at e
  |some r'=>
   rw[hF]at e
   rw[b _ _ _ hF]
   obtain⟨x,f',h'⟩:=r'
   cases x with
   |normal=>exact ih _ _ _ e
   |exit id=>exact e
   |ret=>exact e
theorem Qu{tb:CZ}{c d:Nat→List AV→Av→KH}(b:Below c d): ∀(x:AC)(f:Fr)(h:Av)(r:Ex×Fr×Av),AX tb c x f h=some r→AX tb d x f h=some r:=by
 intro x
 induction x with
 |skip=>intro f h r e;exact e
 |reg l=>
  intro f h r e
  simp only[AX]at e ⊢
  cases ho:ops tb c l f h with
  |none=>rw[ho]at e;simp at e
  |some p=>rw[ho]at e;rw[hX b _ _ _ _ ho];exact e
 |regq l=>
  intro f h r e
  simp only[AX]at e ⊢
  cases ho:Ih tb c h l f with
  |none=>rw[ho]at e;simp at e
  |some p=>rw[ho]at e;rw[ZI b h _ _ _ ho];exact e
 |regd l w=>
  intro f h r e
  simp only[AX]at e ⊢
  cases ho:HV tb c l w f h with
  |none=>rw[ho]at e;simp at e
  |some hs=>
   rw[ho]at e
   rw[RG b _ _ _ _ _ ho]
   simp only[Option.bind_some]at e ⊢
   cases hd:JA tb c(h::hs.tail)l w 0 f with
   |none=>rw[hd]at e;simp at e
   |some f'=>rw[hd]at e;rw[Qp b _ _ _ _ _ _ hd];exact e
 |seq x y ihx ihy=>
  intro f h r e
  simp only[AX]at e ⊢
  cases hx:AX tb c x f h with
  |none=>rw[hx]at e;simp at e
  |some p=>
   rw[hx]at e
   rw[ihx _ _ _ hx]
   obtain⟨q,f',h'⟩:=p
   cases q with
   |normal=>exact ihy _ _ _ e
   |exit id=>exact e
   |ret=>exact e
 |cond o x y ihx ihy=>
  intro f h r e
  simp only[AX]at e ⊢
  split at e
  ·rename_i t ht
   split at e
   ·rename_i hh;simp only[hh,if_true];exact ihx _ _ _ e
   ·rename_i hh;simp only[hh];exact ihy _ _ _ e
  ·simp at e
 |blk id x ih=>
  intro f h r e
  simp only[AX]at e ⊢
  cases hx:AX tb c x f h with
  |none=>rw[hx]at e;simp at e
  |some p=>rw[hx]at e;rw[ih _ _ _ hx];exact e
 |loop Ba x ih=>
  intro f h r e
  simp only[AX]at e ⊢
  obtain⟨n,hn⟩:=lp_ex e
  refine yK _(n:=n)(yL ?_ n f h r hn)
  intro f h r e
  simp only[KY]at e ⊢
  cases hx:AX tb c x(keepL Ba f)h with
  |none=>rw[hx]at e;simp at e
  |some p=>rw[hx]at e;rw[ih _ _ _ hx];exact e
 |exit id=>intro f h r e;exact e
 |ret=>intro f h r e;exact e
 |scope x ih=>intro f h r e;exact ih f h r e
 |stop=>intro f h r e;simp[AX]at e
 |keep Ba x ih=>
  intro f h r e
  simp only[AX]at e ⊢
  cases hx:AX tb c x f h with
  |none=>rw[hx]at e;simp at e
  |some p=>rw[hx]at e;rw[ih _ _ _ hx];exact e
theorem aK{tb:CZ}{c d:Nat→List AV→Av→KH}(b:Below c d){fn:CM}{a:List AV}{h:Av}{r:AV×Option Av}
  (e:body tb c fn a h=some r):body tb d fn a h=some r:=by
 simp only[body]at e ⊢
 split at e
 ·rename_i hn
  rw[if_pos hn]
  cases hx:AX tb c fn.body(a.zipIdx.map fun p=>(p.2,p.1))h with
  |none=>rw[hx]at e;simp at e
  |some p=>rw[hx]at e;rw[Qu b _ _ _ _ hx];exact e
 ·simp at e
theorem vV(tb:CZ): ∀n,Below(run tb n)(run tb(n+1)):=by
 intro n
 induction n with
 |zero=>intro f a h r e;simp[run]at e
 |succ n ih=>
  intro f a h r e
  rw[run]at e ⊢
  cases hf:tb.fns f with
  |none=>rw[hf]at e;simp at e
  |some fn=>rw[hf]at e;exact aK ih e
theorem Dx(tb:CZ){n m:Nat}(h:n≤m):Below(run tb n)(run tb m):=by
 induction m with
 |zero=>obtain rfl:n=0:=(by omega);exact fun _ _ _ _ e=>e
 |succ m ih=>
  by_cases hn:n=m+1
  ·subst hn;exact fun _ _ _ _ e=>e
  ·exact fun f a x r e=>vV tb m _ _ _ _(ih(by omega)f a x r e)
theorem Aa2{tb:CZ}{n f:Nat}{a:List AV}{h:Av}{r:AV×Option Av}(e:run tb n f a h=some r):Ck tb f a h=some r:=by
 unfold Ck
 have x: ∃n,(run tb n f a h).isSome=true:=⟨n,by rw[e];rfl⟩
 rw[dif_pos x]
 have hc:=Classical.choose_spec x
 cases hr:run tb(Classical.choose x)f a h with
 |none=>rw[hr]at hc;simp at hc
 |some r'=>
  have h1:=Dx tb(Nat.le_max_left n(Classical.choose x))_ _ _ _ e
  have h2:=Dx tb(Nat.le_max_right n(Classical.choose x))_ _ _ _ hr
  rw[h1]at h2
  exact h2.symm
theorem oQ{tb:CZ}{f:Nat}{a:List AV}{h:Av}{r:AV×Option Av}(e:Ck tb f a h=some r): ∃n,run tb n f a h=some r:=by
 unfold Ck at e
 split at e
 ·exact⟨_,e⟩
 ·simp at e
theorem sA(tb:CZ)(n:Nat):Below(run tb n)(Ck tb):=fun _ _ _ _ e=>Aa2 e
theorem Tt{tb:CZ}{rho:AO→AV}{h:Av}{o:HT}{r:AV×Option Av}(e:Bq tb(Ck tb)rho h o=some r): ∃n,Bq tb(run tb n)rho h o=some r:=by
 have hc: ∀f a,B3 tb(Ck tb)h f a=some r→ ∃n,B3 tb(run tb n)h f a=some r:=by
  intro f a e
  unfold B3 at*
  cases hp:tb.prim f with
  |some p=>rw[hp]at e;exact⟨0,e⟩
  |none=>rw[hp]at e;exact oQ e
 cases o<;>first
  |exact⟨0,e⟩
  |(simp only[Bq]at e ⊢;exact hc _ _ e)
  |skip
 case callv x xs=>
  simp only[Bq]at e ⊢
  split at e
  ·exact hc _ _ e
  ·simp at e
theorem ops_den{tb:CZ}: ∀(l:List AU)(f:Fr)(h:Av)(r:Fr×Av),ops tb(Ck tb)l f h=some r→ ∃n,ops tb(run tb n)l f h=some r:=by
 intro l
 induction l with
 |nil=>intro f h r e;exact⟨0,e⟩
 |cons o l ih=>
  intro f h r e
  simp only[ops]at e ⊢
  cases hw:wanted f o.g with
  |none=>rw[hw]at e;simp at e
  |some t=>
   rw[hw]at e
   simp only[Option.bind_some]at e ⊢
   cases t with
   |false=>exact ih _ _ _ e
   |true=>
    simp only[if_true]at e ⊢
    cases ha:Bq tb(Ck tb)(eval tb f)h o.o with
    |none=>rw[ha]at e;simp at e
    |some p=>
     rw[ha]at e
     obtain⟨n,hn⟩:=Tt ha
     obtain⟨m,hm⟩:=ih _ _ _ e
     refine⟨max n m,?_⟩
     rw[Gd(Dx tb(Nat.le_max_left n m))hn]
     exact hX(Dx tb(Nat.le_max_right n m))_ _ _ _ hm
theorem wR{tb:CZ}(h:Av): ∀(l:List AU)(f:Fr)(r:Fr),Ih tb(Ck tb)h l f=some r→ ∃n,Ih tb(run tb n)h l f=some r:=by
 intro l
 induction l with
 |nil=>intro f r e;exact⟨0,e⟩
 |cons o l ih=>
  intro f r e
  simp only[Ih]at e ⊢
  cases hw:wanted f o.g with
  |none=>rw[hw]at e;simp at e
  |some t=>
   rw[hw]at e
   simp only[Option.bind_some]at e ⊢
   cases t with
   |false=>exact ih _ _ e
   |true=>
    simp only[if_true]at e ⊢
    cases ha:Bq tb(Ck tb)(eval tb f)h o.o with
    |none=>rw[ha]at e;simp at e
    |some p=>
     rw[ha]at e
     obtain⟨n,hn⟩:=Tt ha
     simp only[Option.bind_some]at e
     split at e
     ·rename_i hq
      obtain⟨m,hm⟩:=ih _ _ e
      refine⟨max n m,?_⟩
      rw[Gd(Dx tb(Nat.le_max_left n m))hn]
      simp only[Option.bind_some]
      rw[if_pos hq]
      exact ZI(Dx tb(Nat.le_max_right n m))h _ _ _ hm
     ·simp at e
theorem tT{tb:CZ}: ∀(l:List AU)(w:List(Option(Nat×Nat)))(f:Fr)(h:Av)(r:List Av),HV tb(Ck tb)l w f h=some r→ ∃n,HV tb(run tb n)l w f h=some r:=by
 intro l
 induction l with
 |nil=>intro w f h r e;exact⟨0,e⟩
 |cons o l ih=>
  intro w f h r e
  simp only[HV]at e ⊢
  cases hw:wanted f o.g with
  |none=>rw[hw]at e;simp at e
  |some t=>
   rw[hw]at e
   simp only[Option.bind_some]at e ⊢
   cases t with
   |false=>
    simp only[Bool.false_eq_true,if_false]at e ⊢
    cases hh:HV tb(Ck tb)l w.tail(put f o.d(.tup []))h with
    |none=>rw[hh]at e;simp at e
    |some r'=>
     rw[hh]at e
     obtain⟨n,hn⟩:=ih _ _ _ _ hh
     exact⟨n,by rw[hn];exact e⟩
   |true=>
    simp only[if_true]at e ⊢
    cases ha:Bq tb(Ck tb)(eval tb f)h o.o with
    |none=>rw[ha]at e;simp at e
    |some p=>
     rw[ha]at e
     obtain⟨n,hn⟩:=Tt ha
     simp only[Option.bind_some]at e
     cases hh:HV tb(Ck tb)l w.tail(put f o.d p.1)(p.2.getD h)with
     |none=>rw[hh]at e;simp at e
     |some r'=>
      rw[hh]at e
      obtain⟨m,hm⟩:=ih _ _ _ _ hh
      refine⟨max n m,?_⟩
      rw[Gd(Dx tb(Nat.le_max_left n m))hn]
      simp only[Option.bind_some]
      rw[RG(Dx tb(Nat.le_max_right n m))_ _ _ _ _ hm]
      exact e
theorem all_den{tb:CZ}{f:Fr}{o:HT}{v:AV}(hs:List Av): ∀(l:List Nat),
  (∀j∈l,∃u,(hs[j]?).bind(fun h=>Bq tb(Ck tb)(eval tb f)h o)=some(v,u)∧some(u.getD(hs[j]?.getD []))=hs[j]?)→
  ∃n,∀j∈l,∃u,(hs[j]?).bind(fun h=>Bq tb(run tb n)(eval tb f)h o)=some(v,u)∧some(u.getD(hs[j]?.getD []))=hs[j]? :=by
 intro l
 induction l with
 |nil=>intro _;exact⟨0,fun j hj=>by cases hj⟩
 |cons j l ih=>
  intro H
  obtain⟨n,hn⟩:=ih fun j hj=>H j(List.mem_cons_of_mem _ hj)
  obtain⟨u,hu,hu'⟩:=H j List.mem_cons_self
  cases hj:hs[j]? with
  |none=>rw[hj]at hu;simp at hu
  |some h=>
   rw[hj]at hu
   obtain⟨m,hm⟩:=Tt hu
   refine⟨max n m,?_⟩
   intro i hi
   rcases List.mem_cons.1 hi with e|hi
   ·subst e
    refine⟨u,?_,hu'⟩
    rw[hj]
    exact Gd(Dx tb(Nat.le_max_right n m))hm
   ·obtain⟨u',h1,h2⟩:=hn i hi
    refine⟨u',?_,h2⟩
    cases hi':hs[i]? with
    |none=>rw[hi']at h1;simp at h1
    |some h'=>rw[hi']at h1;exact Gd(Dx tb(Nat.le_max_left n m))h1
theorem wS{tb:CZ}(hs:List Av): ∀(l:List AU)(w:List(Option(Nat×Nat)))(k:Nat)(f:Fr)(r:Fr),JA tb(Ck tb)hs l w k f=some r→ ∃n,JA tb(run tb n)hs l w k f=some r:=by
 intro l
 induction l with
 |nil=>intro w k f r e;exact⟨0,e⟩
 |cons o l ih=>
  intro w k f r e
  simp only[JA]at e ⊢
  cases hw:wanted f o.g with
  |none=>rw[hw]at e;simp at e
  |some t=>
   rw[hw]at e
   simp only[Option.bind_some]at e ⊢
   cases t with
   |false=>
    simp only[Bool.false_eq_true,if_false]at e ⊢
    cases w with
    |nil=>simp at e
    |cons x w=>
     cases x with
     |none=>
      simp only at e ⊢
      split at e
      ·rename_i hq;simp only[if_pos hq];exact ih _ _ _ _ e
      ·simp at e
     |some y=>exact ih _ _ _ _ e
   |true=>
    simp only[if_true]at e ⊢
    cases hk:hs[k]? with
    |none=>rw[hk]at e;simp at e
    |some h=>
     rw[hk]at e
     simp only[Option.bind_some]at e ⊢
     cases ha:Bq tb(Ck tb)(eval tb f)h o.o with
     |none=>rw[ha]at e;simp at e
     |some p=>
      rw[ha]at e
      obtain⟨n,hn⟩:=Tt ha
      simp only[Option.bind_some]at e ⊢
      cases w with
      |nil=>simp at e
      |cons x w=>
       cases x with
       |none=>
        simp only at e ⊢
        split at e
        ·rename_i hq
         obtain⟨m,hm⟩:=ih _ _ _ _ e
         refine⟨max n m,?_⟩
         rw[Gd(Dx tb(Nat.le_max_left n m))hn]
         simp only[Option.bind_some]
         rw[if_pos hq]
         exact Qp(Dx tb(Nat.le_max_right n m))hs _ _ _ _ _ hm
        ·simp at e
       |some y=>
        obtain⟨lo,hi⟩:=y
        simp only at e ⊢
        split at e
        ·rename_i hq
         obtain⟨m,hm⟩:=ih _ _ _ _ e
         simp only[List.all_eq_true,decide_eq_true_eq]at hq
         obtain⟨q,hq⟩:=all_den hs _ hq
         refine⟨max n(max m q),?_⟩
         rw[Gd(Dx tb(Nat.le_max_left n(max m q)))hn]
         simp only[Option.bind_some]
         rw[if_pos]
         ·exact Qp(Dx tb(Nat.le_trans(Nat.le_max_left m q)(Nat.le_max_right n _)))hs _ _ _ _ _ hm
         ·simp only[List.all_eq_true,decide_eq_true_eq]
          intro j hj
          obtain⟨u,hu,hu'⟩:=hq j hj
          refine⟨u,?_,hu'⟩
          cases hj':hs[j]? with
          |none=>rw[hj']at hu;simp at hu
          |some h'=>rw[hj']at hu;exact Gd(Dx tb(Nat.le_trans(Nat.le_max_right m q)(Nat.le_max_right n _)))hu
        ·simp at e
theorem lpN_den{F:Nat→Fr→Av→Option(Ex×Fr×Av)}{G:Fr→Av→Option(Ex×Fr×Av)}(hm: ∀n m,n≤m→ ∀f h r,F n f h=some r→F m f h=some r)
  (hG: ∀f h r,G f h=some r→ ∃n,F n f h=some r): ∀(k:Nat)(f:Fr)(h:Av)(r:Ex×Fr×Av),Vz G k f h=some r→ ∃n,Vz(F n)k f h=some r:=by
 intro k
 induction k with
 |zero=>intro f h r e;simp[Vz]at e
 |succ k ih=>
  intro f h r e
  simp only[Vz]at e ⊢
  cases hx:G f h with
  |none=>rw[hx]at e;simp at e
  |some p=>
   rw[hx]at e
   obtain⟨n,hn⟩:=hG _ _ _ hx
   obtain⟨q,f',h'⟩:=p
   cases q with
   |normal=>
    obtain⟨m,hm'⟩:=ih _ _ _ e
    refine⟨max n m,?_⟩
    rw[hm n _(Nat.le_max_left n m)_ _ _ hn]
    exact yL(hm m _(Nat.le_max_right n m))_ _ _ _ hm'
   |exit id=>exact⟨n,by rw[hn];exact e⟩
   |ret=>exact⟨n,by rw[hn];exact e⟩
theorem zT{tb:CZ}: ∀(x:AC)(f:Fr)(h:Av)(r:Ex×Fr×Av),AX tb(Ck tb)x f h=some r→ ∃n,AX tb(run tb n)x f h=some r:=by
 intro x
 induction x with
 |skip=>intro f h r e;exact⟨0,e⟩
 |reg l=>
  intro f h r e
  simp only[AX]at e ⊢
  cases ho:ops tb(Ck tb)l f h with
  |none=>rw[ho]at e;simp at e
  |some p=>
   rw[ho]at e
   obtain⟨n,hn⟩:=ops_den _ _ _ _ ho
   exact⟨n,by rw[hn];exact e⟩
 |regq l=>
  intro f h r e
  simp only[AX]at e ⊢
  cases ho:Ih tb(Ck tb)h l f with
  |none=>rw[ho]at e;simp at e
  |some p=>
   rw[ho]at e
   obtain⟨n,hn⟩:=wR h _ _ _ ho
   exact⟨n,by rw[hn];exact e⟩
 |regd l w=>
  intro f h r e
  simp only[AX]at e ⊢
  cases ho:HV tb(Ck tb)l w f h with
  |none=>rw[ho]at e;simp at e
  |some hs=>
   rw[ho]at e
   simp only[Option.bind_some]at e
   obtain⟨n,hn⟩:=tT _ _ _ _ _ ho
   cases hd:JA tb(Ck tb)(h::hs.tail)l w 0 f with
   |none=>rw[hd]at e;simp at e
   |some f'=>
    rw[hd]at e
    obtain⟨m,hm⟩:=wS _ _ _ _ _ _ hd
    refine⟨max n m,?_⟩
    rw[RG(Dx tb(Nat.le_max_left n m))_ _ _ _ _ hn]
    simp only[Option.bind_some]
    rw[Qp(Dx tb(Nat.le_max_right n m))_ _ _ _ _ _ hm]
    exact e
 |seq x y ihx ihy=>
  intro f h r e
  simp only[AX]at e ⊢
  cases hx:AX tb(Ck tb)x f h with
  |none=>rw[hx]at e;simp at e
  |some p=>
   rw[hx]at e
   obtain⟨n,hn⟩:=ihx _ _ _ hx
   obtain⟨q,f',h'⟩:=p
   cases q with
   |normal=>
    obtain⟨m,hm⟩:=ihy _ _ _ e
    refine⟨max n m,?_⟩
    rw[Qu(Dx tb(Nat.le_max_left n m))_ _ _ _ hn]
    exact Qu(Dx tb(Nat.le_max_right n m))_ _ _ _ hm
   |exit id=>exact⟨n,by rw[hn];exact e⟩
   |ret=>exact⟨n,by rw[hn];exact e⟩
 |cond o x y ihx ihy=>
  intro f h r e
  simp only[AX]at e ⊢
  split at e
  ·rename_i t ht
   split at e
   ·rename_i hh;simp only[hh,if_true];exact ihx _ _ _ e
   ·rename_i hh;simp only[hh];exact ihy _ _ _ e
  ·simp at e
 |blk id x ih=>
  intro f h r e
  simp only[AX]at e ⊢
  cases hx:AX tb(Ck tb)x f h with
  |none=>rw[hx]at e;simp at e
  |some p=>
   rw[hx]at e
   obtain⟨n,hn⟩:=ih _ _ _ hx
   exact⟨n,by rw[hn];exact e⟩
 |loop Ba x ih=>
  intro f h r e
  simp only[AX]at e ⊢
  obtain⟨k,hk⟩:=lp_ex e
  have hm: ∀n m,n≤m→ ∀f h r,KY Ba(AX tb(run tb n)x)f h=some r→KY Ba(AX tb(run tb m)x)f h=some r:=by
   intro n m hnm f h r e
   simp only[KY]at e ⊢
   cases hx:AX tb(run tb n)x(keepL Ba f)h with
   |none=>rw[hx]at e;simp at e
   |some p=>rw[hx]at e;rw[Qu(Dx tb hnm)_ _ _ _ hx];exact e
  have hg: ∀f h r,KY Ba(AX tb(Ck tb)x)f h=some r→ ∃n,KY Ba(AX tb(run tb n)x)f h=some r:=by
   intro f h r e
   simp only[KY]at e ⊢
   cases hx:AX tb(Ck tb)x(keepL Ba f)h with
   |none=>rw[hx]at e;simp at e
   |some p=>
    rw[hx]at e
    obtain⟨n,hn⟩:=ih _ _ _ hx
    exact⟨n,by rw[hn];exact e⟩
  obtain⟨n,hn⟩:=lpN_den(F:=fun n=>KY Ba(AX tb(run tb n)x))hm hg _ _ _ _ hk
  exact⟨n,yK _ hn⟩
 |exit id=>intro f h r e;exact⟨0,e⟩
 |ret=>intro f h r e;exact⟨0,e⟩
 |scope x ih=>intro f h r e;exact ih f h r e
 |stop=>intro f h r e;simp[AX]at e
 |keep Ba x ih=>
  intro f h r e
  simp only[AX]at e ⊢
  cases hx:AX tb(Ck tb)x f h with
  |none=>rw[hx]at e;simp at e
  |some p=>
   rw[hx]at e
   obtain⟨n,hn⟩:=ih _ _ _ hx
   exact⟨n,by rw[hn];exact e⟩
theorem PS(tb:CZ)(f:Nat)(a:List AV)(h:Av):Ck tb f a h=(tb.fns f).bind fun fn=>body tb(Ck tb)fn a h:=by
 cases hf:tb.fns f with
 |none=>
  cases hd:Ck tb f a h with
  |none=>rfl
  |some r=>
   obtain⟨n,hn⟩:=oQ hd
   cases n with
   |zero=>simp[run]at hn
   |succ n=>rw[run,hf]at hn;simp at hn
 |some fn=>
  simp only[Option.bind_some]
  cases hb:body tb(Ck tb)fn a h with
  |some r=>
   have: ∃n,body tb(run tb n)fn a h=some r:=by
    simp only[body]at hb ⊢
    split at hb
    ·rename_i hn
     simp only[if_pos hn]
     cases hx:AX tb(Ck tb)fn.body(a.zipIdx.map fun p=>(p.2,p.1))h with
     |none=>rw[hx]at hb;simp at hb
     |some p=>
      rw[hx]at hb
      obtain⟨n,hn⟩:=zT _ _ _ _ hx
      exact⟨n,by rw[hn];exact hb⟩
    ·simp at hb
   obtain⟨n,hn⟩:=this
   exact Aa2(n:=n+1)(by rw[run,hf];exact hn)
  |none=>
   cases hd:Ck tb f a h with
   |none=>rfl
   |some r=>
    obtain⟨n,hn⟩:=oQ hd
    cases n with
    |zero=>simp[run]at hn
    |succ n=>
     rw[run,hf]at hn
     have:=aK(sA tb n)hn
     rw[hb]at this
     simp at this
end Go.Proofs.YtobejhpigbllpaaGreatDoor.Am
namespace Go.Proofs.YtobejhpigbllpaaGreatDoor.Am
structure La where
 blk:Nat
 base:Nat
 size:Nat
structure Dw where
 φ:Nat→La
 H:Av
 w:World
def Dw.own(C:Dw)(b:Nat):Prop:= ∃id,id<C.H.length∧(C.φ id).blk=b
def DK(w:World)(b base:Nat)(vs:List Value):Prop:= ∀(j:Nat)(v:Value),vs[j]? =some v→w.cell?⟨b,base+j,none⟩=some v
def scal:AV→Bool
 | .agg _=>false
 | .tup _=>false
 | .junk=>false
 |_=>true
def RK:BH→Bool
 | .row _ _ _ _=>false
 |_=>true
mutual
def FN(C:Dw):AV→Value→Prop
 | .b x,v=>v= .bool x
 | .i k n,v=>v= .int k n
 | .s l,v=>v= .string⟨l.toArray⟩
 | .agg cs,v=> ∃vs:List Value,v= .agg vs.toArray∧cs.all scal=true∧AY C cs vs
 | .tup cs,v=> ∃vs:List Value,v= .tuple vs.toArray∧AY C cs vs
 | .nilp,v=>v= .pointer none
 | .ptr id off,v=>(∃o,C.H[id]? =some o∧RK o=true)∧v= .pointer(some⟨(C.φ id).blk,off,none⟩)
 | .pe id n i off,v=>(∃p,v= .pointer(some p))∧ ∃fz sz els,rowAt C.H id=some(fz,sz,els)∧n≤els.length∧
   (n=els.length→v= .pointer(some⟨(C.φ id).blk,(C.φ id).base+i*sz+off,none⟩))
 | .ip cs off,v=> ∃b base vs,v= .pointer(some⟨b,base+off,none⟩)∧b<C.w.heap.size∧ ¬C.own b∧DK C.w b base vs∧cs.all scal=true∧AY C cs vs
 | .nils,v=>v= .slice none 0 0
 | .sl sz els,v=>(∃b base cap vss,v= .slice(some⟨b,base,none⟩)els.length cap∧els.length≤cap∧b<C.w.heap.size∧ ¬C.own b∧
   DK C.w b base vss.flatten∧(∀e∈els,e.length=sz∧e.all scal=true)∧AP C els vss)∨(els=[]∧ ∃p cap,v= .slice(some p)0 cap)
 | .orow id n lo len,v=>(∃p c,v= .slice(some p)len c)∧ ∃fz sz els,rowAt C.H id=some(fz,sz,els)∧n≤els.length∧
   (n=els.length→lo+len≤n∧ ∃off cap,v= .slice(some⟨(C.φ id).blk,off,none⟩)len cap∧len≤cap∧(0<len→off=(C.φ id).base+lo*sz)∧off+cap*sz≤(C.φ id).size∧(C.φ id).base≤off)
 | .ocel sz id off len,v=>(∃o,C.H[id]? =some o∧RK o=true)∧ ∃o cap,v= .slice(some⟨(C.φ id).blk,o,none⟩)len cap∧len≤cap∧(0<len→o=off)∧0<sz
 | .nilm,v=>v= .map none
 | .mp id,v=>(∃o,C.H[id]? =some o∧RK o=true)∧v= .map(some(C.φ id).blk)
 | .nilf,v=>v= .nilFunc
 | .fn f a b,v=> ∃x y:List Value,v= .func f x.toArray y.toArray∧AY C a x∧AY C b y
 | .nili,v=>v= .nilIface
 | .ifc _ a,v=> ∃u x,v= .iface u x∧FN C a x
 | .junk,_=>True
def AY(C:Dw):List AV→List Value→Prop
 |[],vs=>vs=[]
 |a::r,vs=> ∃v q,vs=v::q∧FN C a v∧AY C r q
def AP(C:Dw):List(List AV)→List(List Value)→Prop
 |[],vss=>vss=[]
 |a::r,vss=> ∃v q,vss=v::q∧AY C a v∧AP C r q
end
def Obj(C:Dw)(p:La):BH→Prop
 | .cells l cs=> ∃(vs:List Value)(arr:Array Value)(e:TypeId)(fr:Nat×Nat),(C.w.heap[p.blk]? =some(.cells arr e fr)∧ ∀k,l=some k→e=k)∧arr.size=cs.length∧cs.all scal=true∧AY C cs vs∧
   DK C.w p.blk 0 vs∧(∀o,o<cs.length→C.w.frozen?⟨p.blk,o,none⟩=false)
 | .row l fz sz els=> ∃(vss:List(List Value))(arr:Array Value)(e:TypeId)(fr:Nat×Nat),(C.w.heap[p.blk]? =some(.cells arr e fr)∧fr.1≤fr.2∧ ∀k,l=some k→e=k)∧arr.size=p.size∧0<sz∧
   (∀x∈els,x.length=sz∧x.all scal=true)∧AP C els vss∧p.base+els.length*sz≤p.size∧DK C.w p.blk p.base vss.flatten∧
   (fz=false→ ∀o,o<p.size→C.w.frozen?⟨p.blk,o,none⟩=false)∧(fz=false→ ∀o,p.base+els.length*sz≤o→o<p.size→C.w.frozen?⟨p.blk,o,none⟩=false)
 | .map es=> ∃(ms:List MapEntry)(clock:Nat),C.w.heap[p.blk]? =some(.map ms.toArray clock)∧AY C(es.map(·.1))(ms.map(·.key))∧AY C(es.map(·.2))(ms.map(·.val))
 | .iter l pos=>C.w.heap[p.blk]? =some(.stringIter⟨l.toArray⟩pos)
structure DQ(tb:CZ)(C:Dw):Prop where
 obj: ∀id o,C.H[id]? =some o→Obj C(C.φ id)o
 inj: ∀i j,i<C.H.length→j<C.H.length→(C.φ i).blk=(C.φ j).blk→i=j
 lt: ∀i,i<C.H.length→(C.φ i).blk<C.w.heap.size
 gl: ∀g cs,tb.gl g=some cs→g<C.w.heap.size∧ ¬C.own g∧cs.all scal=true∧ ∃vs,DK C.w g 0 vs∧AY C cs vs
def U6(w w':World):Prop:=w'.os=w.os∧w'.tape=w.tape∧w'.output=w.output
structure Lb(C D:Dw):Prop where
 rest:U6 C.w D.w
 size:C.w.heap.size≤D.w.heap.size
 len:C.H.length≤D.H.length
 same: ∀b,b<C.w.heap.size→ ¬C.own b→D.w.heap[b]? =C.w.heap[b]? ∧ ¬D.own b
 fixed: ∀id o,C.H[id]? =some o→RK o=true→(∃o',D.H[id]? =some o'∧RK o'=true)∧D.φ id=C.φ id
 row: ∀id fz sz els,rowAt C.H id=some(fz,sz,els)→ ∃fz' els',rowAt D.H id=some(fz',sz,els')∧els.length≤els'.length∧(els.length=els'.length→D.φ id=C.φ id)
theorem J7(C:Dw):Lb C C:=
 ⟨⟨rfl,rfl,rfl⟩,Nat.le_refl _,Nat.le_refl _,fun _ _ h=>⟨rfl,h⟩,fun _ o h f=>⟨⟨o,h,f⟩,rfl⟩,fun _ fz _ els h=>⟨fz,els,h,Nat.le_refl _,fun _=>rfl⟩⟩
theorem Lb.trans{C D E:Dw}(a:Lb C D)(b:Lb D E):Lb C E:=by
 refine⟨⟨b.rest.1.trans a.rest.1,b.rest.2.1.trans a.rest.2.1,b.rest.2.2.trans a.rest.2.2⟩,Nat.le_trans a.size b.size,Nat.le_trans a.len b.len,?_,?_,?_⟩
 ·intro x hx ho
  obtain⟨h1,h2⟩:=a.same x hx ho
  obtain⟨h3,h4⟩:=b.same x(Nat.lt_of_lt_of_le hx a.size)h2
  exact⟨h3.trans h1,h4⟩
 ·intro id o h f
  obtain⟨⟨o',h',f'⟩,e⟩:=a.fixed id o h f
  obtain⟨h2,e'⟩:=b.fixed id o' h' f'
  exact⟨h2,e'.trans e⟩
 ·intro id fz sz els h
  obtain⟨fz',els',h',l,e⟩:=a.row id fz sz els h
  obtain⟨fz'',els'',h'',l',e'⟩:=b.row id fz' sz els' h'
  exact⟨fz'',els'',h'',Nat.le_trans l l',fun q=>(e'(by omega)).trans(e(by omega))⟩
theorem RO{w w':World}{b o:Nat}(h:w'.heap[b]? =w.heap[b]?):w'.cell?⟨b,o,none⟩=w.cell?⟨b,o,none⟩:=by
 simp only[World.cell?,h]
theorem DK.same{w w':World}{b base:Nat}{vs:List Value}(h:w'.heap[b]? =w.heap[b]?)(x:DK w b base vs):DK w' b base vs:=
 fun j v e=>by rw[RO h];exact x j v e
mutual
theorem FN.ext{C D:Dw}(X:Lb C D): ∀{a:AV}{v:Value},FN C a v→FN D a v
 | .b _,_,h=>h
 | .i _ _,_,h=>h
 | .s _,_,h=>h
 | .agg _,_,⟨vs,e,s,h⟩=>⟨vs,e,s,AY.ext X h⟩
 | .tup _,_,⟨vs,e,h⟩=>⟨vs,e,AY.ext X h⟩
 | .nilp,_,h=>h
 | .ptr _ _,_,⟨⟨o,h,f⟩,e⟩=>by
  obtain⟨h',e'⟩:=X.fixed _ o h f
  exact⟨h',by rw[e'];exact e⟩
 | .pe _ _ _ _,_,⟨q0,fz,sz,els,h,l,e⟩=>by
  obtain⟨fz',els',h',l',e'⟩:=X.row _ fz sz els h
  exact⟨q0,fz',sz,els',h',by omega,fun q=>by rw[e'(by omega)];exact e(by omega)⟩
 | .ip _ _,_,⟨b,base,vs,e,lt,ho,hh,s,r⟩=>by
  obtain⟨h1,h2⟩:=X.same b lt ho
  exact⟨b,base,vs,e,Nat.lt_of_lt_of_le lt X.size,h2,hh.same h1,s,AY.ext X r⟩
 | .nils,_,h=>h
 | .sl _ _,_, .inr h=> .inr h
 | .sl _ _,_, .inl⟨b,base,cap,vss,e,l,lt,ho,hh,s,r⟩=>by
  obtain⟨h1,h2⟩:=X.same b lt ho
  exact .inl⟨b,base,cap,vss,e,l,Nat.lt_of_lt_of_le lt X.size,h2,hh.same h1,s,AP.ext X r⟩
 | .orow _ _ _ _,_,⟨q0,fz,sz,els,h,l,e⟩=>by
  obtain⟨fz',els',h',l',e'⟩:=X.row _ fz sz els h
  exact⟨q0,fz',sz,els',h',by omega,fun q=>by rw[e'(by omega)];exact e(by omega)⟩
 | .ocel _ _ _ _,_,⟨⟨o,h,f⟩,e⟩=>by
  obtain⟨h',e'⟩:=X.fixed _ o h f
  exact⟨h',by rw[e'];exact e⟩
 | .nilm,_,h=>h
 | .mp _,_,⟨⟨o,h,f⟩,e⟩=>by
  obtain⟨h',e'⟩:=X.fixed _ o h f
  exact⟨h',by rw[e'];exact e⟩
 | .nilf,_,h=>h
 | .fn _ _ _,_,⟨x,y,e,h1,h2⟩=>⟨x,y,e,AY.ext X h1,AY.ext X h2⟩
 | .nili,_,h=>h
 | .ifc _ _,_,⟨u,x,e,h⟩=>⟨u,x,e,FN.ext X h⟩
 | .junk,_,_=>trivial
theorem AY.ext{C D:Dw}(X:Lb C D): ∀{l:List AV}{vs:List Value},AY C l vs→AY D l vs
 |[],_,h=>h
 |_::_,_,⟨v,q,e,h,r⟩=>⟨v,q,e,FN.ext X h,AY.ext X r⟩
theorem AP.ext{C D:Dw}(X:Lb C D): ∀{l:List(List AV)}{vs:List(List Value)},AP C l vs→AP D l vs
 |[],_,h=>h
 |_::_,_,⟨v,q,e,h,r⟩=>⟨v,q,e,AY.ext X h,AP.ext X r⟩
end
def Dw.cut(C:Dw)(n:Nat):Dw:=⟨C.φ,C.H.take n,C.w⟩
theorem Qw{C:Dw}{n id:Nat}(h:id<n):(C.cut n).H[id]? =C.H[id]? :=by
 simp only[Dw.cut];rw[List.getElem?_take];simp[h]
theorem eP{C:Dw}{n id:Nat}(h:id<n):rowAt(C.cut n).H id=rowAt C.H id:=by
 simp only[rowAt,Qw h]
theorem Ip{H:Av}{id:Nat}{fz:Bool}{sz:Nat}{els:List(List AV)}(h:rowAt H id=some(fz,sz,els)): ∃t,H[id]? =some(.row t fz sz els)∧Eo H id=t:=by
 simp only[rowAt]at h
 split at h
 ·rename_i t fz' sz' els' e
  cases h
  exact⟨t,e,by simp only[Eo,e]⟩
 ·cases h
theorem NA{H:Av}{id:Nat}{cs:List AV}(h:BZ H id=some cs): ∃t,H[id]? =some(.cells t cs)∧Eo H id=t:=by
 simp only[BZ]at h
 split at h
 ·rename_i t cs' e
  cases h
  exact⟨t,e,by simp only[Eo,e]⟩
 ·cases h
theorem vZ{H G:Av}{id:Nat}(h:G[id]? =H[id]?):rowAt G id=rowAt H id:=by simp only[rowAt,h]
theorem mD{H:Av}{id:Nat}{t:Option Nat}{fz:Bool}{sz:Nat}{els:List(List AV)}(h:H[id]? =some(.row t fz sz els)):rowAt H id=some(fz,sz,els):=by
 simp only[rowAt,h]
theorem Te{C:Dw}{n b:Nat}(h: ¬C.own b): ¬(C.cut n).own b:=by
 rintro⟨id,hl,e⟩
 exact h⟨id,by simp only[Dw.cut,List.length_take]at hl;omega,e⟩
mutual
theorem FN.cut{C:Dw}{n:Nat}: ∀{a:AV}{v:Value},B9 a≤n→FN C a v→FN(C.cut n)a v
 | .b _,_,_,h=>h
 | .i _ _,_,_,h=>h
 | .s _,_,_,h=>h
 | .agg _,_,m,⟨vs,e,s,h⟩=>⟨vs,e,s,AY.cut(by simpa [B9]using m)h⟩
 | .tup _,_,m,⟨vs,e,h⟩=>⟨vs,e,AY.cut(by simpa [B9]using m)h⟩
 | .nilp,_,_,h=>h
 | .ptr _ _,_,m,⟨⟨o,h,f⟩,e⟩=>⟨⟨o,by rw[Qw(by simp only[B9]at m;omega)];exact h,f⟩,e⟩
 | .pe _ _ _ _,_,m,⟨q0,fz,sz,els,h,l,e⟩=>⟨q0,fz,sz,els,by rw[eP(by simp only[B9]at m;omega)];exact h,l,e⟩
 | .ip _ _,_,m,⟨b,base,vs,e,lt,ho,hh,s,r⟩=>⟨b,base,vs,e,lt,Te ho,hh,s,AY.cut(by simpa [B9]using m)r⟩
 | .nils,_,_,h=>h
 | .sl _ _,_,_, .inr h=> .inr h
 | .sl _ _,_,m, .inl⟨b,base,cap,vss,e,l,lt,ho,hh,s,r⟩=> .inl⟨b,base,cap,vss,e,l,lt,Te ho,hh,s,AP.cut(by simpa [B9]using m)r⟩
 | .orow _ _ _ _,_,m,⟨q0,fz,sz,els,h,l,e⟩=>⟨q0,fz,sz,els,by rw[eP(by simp only[B9]at m;omega)];exact h,l,e⟩
 | .ocel _ _ _ _,_,m,⟨⟨o,h,f⟩,e⟩=>⟨⟨o,by rw[Qw(by simp only[B9]at m;omega)];exact h,f⟩,e⟩
 | .nilm,_,_,h=>h
 | .mp _,_,m,⟨⟨o,h,f⟩,e⟩=>⟨⟨o,by rw[Qw(by simp only[B9]at m;omega)];exact h,f⟩,e⟩
 | .nilf,_,_,h=>h
 | .fn _ _ _,_,m,⟨x,y,e,h1,h2⟩=>⟨x,y,e,AY.cut(by simp only[B9]at m;omega)h1,AY.cut(by simp only[B9]at m;omega)h2⟩
 | .nili,_,_,h=>h
 | .ifc _ _,_,m,⟨u,x,e,h⟩=>⟨u,x,e,FN.cut(by simpa [B9]using m)h⟩
 | .junk,_,_,_=>trivial
theorem AY.cut{C:Dw}{n:Nat}: ∀{l:List AV}{vs:List Value},Bh l≤n→AY C l vs→AY(C.cut n)l vs
 |[],_,_,h=>h
 |_::_,_,m,⟨v,q,e,h,r⟩=>⟨v,q,e,FN.cut(by simp only[Bh]at m;omega)h,AY.cut(by simp only[Bh]at m;omega)r⟩
theorem AP.cut{C:Dw}{n:Nat}: ∀{l:List(List AV)}{vs:List(List Value)},CN l≤n→AP C l vs→AP(C.cut n)l vs
 |[],_,_,h=>h
 |_::_,_,m,⟨v,q,e,h,r⟩=>⟨v,q,e,AY.cut(by simp only[CN]at m;omega)h,AP.cut(by simp only[CN]at m;omega)r⟩
end
theorem AY.length{C:Dw}: ∀{l:List AV}{vs:List Value},AY C l vs→vs.length=l.length
 |[],_,h=>by rw[show _=[]from h];rfl
 |_::_,_,⟨v,q,e,_,r⟩=>by rw[e];simp[AY.length r]
theorem AP.length{C:Dw}: ∀{l:List(List AV)}{vs:List(List Value)},AP C l vs→vs.length=l.length
 |[],_,h=>by rw[show _=[]from h];rfl
 |_::_,_,⟨v,q,e,_,r⟩=>by rw[e];simp[AP.length r]
theorem AY.get{C:Dw}: ∀{l:List AV}{vs:List Value}{i:Nat}{a:AV},AY C l vs→l[i]? =some a→ ∃v,vs[i]? =some v∧FN C a v
 |[],_,_,_,_,h=>by simp at h
 |x::l,_,0,a,⟨v,q,e,h,r⟩,g=>by
  simp at g;subst g;exact⟨v,by rw[e];rfl,h⟩
 |x::l,_,i+1,a,⟨v,q,e,h,r⟩,g=>by
  obtain⟨u,h1,h2⟩:=AY.get r(i:=i)(a:=a)(by simpa using g)
  exact⟨u,by rw[e];simpa using h1,h2⟩
theorem AP.get{C:Dw}: ∀{l:List(List AV)}{vs:List(List Value)}{i:Nat}{a:List AV},AP C l vs→l[i]? =some a→ ∃v,vs[i]? =some v∧AY C a v
 |[],_,_,_,_,h=>by simp at h
 |x::l,_,0,a,⟨v,q,e,h,r⟩,g=>by
  simp at g;subst g;exact⟨v,by rw[e];rfl,h⟩
 |x::l,_,i+1,a,⟨v,q,e,h,r⟩,g=>by
  obtain⟨u,h1,h2⟩:=AP.get r(i:=i)(a:=a)(by simpa using g)
  exact⟨u,by rw[e];simpa using h1,h2⟩
theorem AY.app{C:Dw}: ∀{l m:List AV}{vs us:List Value},AY C l vs→AY C m us→AY C(l++m)(vs++us)
 |[],_,_,_,h,g=>by rw[show _=[]from h];exact g
 |_::_,_,_,_,⟨v,q,e,h,r⟩,g=>⟨v,q++_,by rw[e];rfl,h,AY.app r g⟩
theorem AP.app{C:Dw}: ∀{l m:List(List AV)}{vs us:List(List Value)},AP C l vs→AP C m us→AP C(l++m)(vs++us)
 |[],_,_,_,h,g=>by rw[show _=[]from h];exact g
 |_::_,_,_,_,⟨v,q,e,h,r⟩,g=>⟨v,q++_,by rw[e];rfl,h,AP.app r g⟩
theorem AY.drop{C:Dw}: ∀{n:Nat}{l:List AV}{vs:List Value},AY C l vs→AY C(l.drop n)(vs.drop n)
 |0,_,_,h=>h
 |n+1,[],_,h=>by rw[show _=[]from h];simp[AY]
 |n+1,_::_,_,⟨v,q,e,h,r⟩=>by rw[e];simpa using AY.drop(n:=n)r
theorem AY.take{C:Dw}: ∀{n:Nat}{l:List AV}{vs:List Value},AY C l vs→AY C(l.take n)(vs.take n)
 |0,_,_,_=>by simp[AY]
 |n+1,[],_,h=>by rw[show _=[]from h];simp[AY]
 |n+1,_::_,_,⟨v,q,e,h,r⟩=>by rw[e];exact⟨v,q.take n,rfl,h,AY.take r⟩
theorem AP.drop{C:Dw}: ∀{n:Nat}{l:List(List AV)}{vs:List(List Value)},AP C l vs→AP C(l.drop n)(vs.drop n)
 |0,_,_,h=>h
 |n+1,[],_,h=>by rw[show _=[]from h];simp[AP]
 |n+1,_::_,_,⟨v,q,e,h,r⟩=>by rw[e];simpa using AP.drop(n:=n)r
theorem AP.take{C:Dw}: ∀{n:Nat}{l:List(List AV)}{vs:List(List Value)},AP C l vs→AP C(l.take n)(vs.take n)
 |0,_,_,_=>by simp[AP]
 |n+1,[],_,h=>by rw[show _=[]from h];simp[AP]
 |n+1,_::_,_,⟨v,q,e,h,r⟩=>by rw[e];exact⟨v,q.take n,rfl,h,AP.take r⟩
theorem AP.flat{C:Dw}: ∀{l:List(List AV)}{vs:List(List Value)},AP C l vs→AY C l.flatten vs.flatten
 |[],_,h=>by rw[show _=[]from h];simp[AY]
 |_::_,_,⟨v,q,e,h,r⟩=>by rw[e];exact AY.app h(AP.flat r)
theorem AP.set{C:Dw}{a:List AV}{v:List Value}(ha:AY C a v): ∀{l:List(List AV)}{vs:List(List Value)}{i:Nat},AP C l vs→AP C(l.set i a)(vs.set i v)
 |[],_,_,h=>by rw[show _=[]from h];simp[AP]
 |_::_,_,0,⟨_,q,e,_,r⟩=>by rw[e];exact⟨v,q,rfl,ha,r⟩
 |_::_,_,i+1,⟨u,q,e,h,r⟩=>by rw[e];exact⟨u,q.set i v,rfl,h,AP.set ha r⟩
theorem AY.set{C:Dw}{a:AV}{v:Value}(ha:FN C a v): ∀{l:List AV}{vs:List Value}{i:Nat},AY C l vs→AY C(l.set i a)(vs.set i v)
 |[],_,_,h=>by rw[show _=[]from h];simp[AY]
 |_::_,_,0,⟨_,q,e,_,r⟩=>by rw[e];exact⟨v,q,rfl,ha,r⟩
 |_::_,_,i+1,⟨u,q,e,h,r⟩=>by rw[e];exact⟨u,q.set i v,rfl,h,AY.set ha r⟩
theorem AP.lens{C:Dw}{sz:Nat}: ∀{l:List(List AV)}{vs:List(List Value)},(∀x∈l,x.length=sz)→AP C l vs→ ∀v∈vs,v.length=sz
 |[],_,_,h,v,hv=>by rw[show _=[]from h]at hv;cases hv
 |x::_,_,g,⟨u,q,e,h,r⟩,v,hv=>by
  rw[e]at hv
  rcases List.mem_cons.1 hv with e'|hv
  ·rw[e',h.length];exact g x List.mem_cons_self
  ·exact AP.lens(fun y hy=>g y(List.mem_cons_of_mem _ hy))r v hv
theorem DQ.cut{tb:CZ}{C:Dw}{n:Nat}(I:DQ tb C)(m:CE(C.H.take n)≤n)(hg: ∀g cs,tb.gl g=some cs→Bh cs=0):DQ tb(C.cut n):=by
 have memH: ∀(l:Av)(o:BH),o∈l→En o≤CE l:=by
  intro l
  induction l with
  |nil=>intro o h;cases h
  |cons x l ih=>
   intro o h
   simp only[CE]
   rcases List.mem_cons.1 h with e|h
   ·subst e;omega
   ·have:=ih o h;omega
 have hl: ∀i,i<(C.cut n).H.length→i<C.H.length:=fun i h=>by simp only[Dw.cut,List.length_take]at h;omega
 refine⟨?_,fun i j hi hj e=>I.inj i j(hl i hi)(hl j hj)e,fun i hi=>I.lt i(hl i hi),?_⟩
 ·intro id o h
  have hm:En o≤n:=Nat.le_trans(memH _ o(List.mem_of_getElem? h))m
  have hid:id<n:=by
   rcases Nat.lt_or_ge id n with h'|h'
   ·exact h'
   ·simp only[Dw.cut]at h;rw[List.getElem?_take]at h;simp[Nat.not_lt.2 h']at h
  rw[Qw hid]at h
  have x:=I.obj id o h
  cases o with
  |cells t cs=>
   obtain⟨vs,arr,e,fr,h1,h2,h3,h4,h5⟩:=x
   exact⟨vs,arr,e,fr,h1,h2,h3,AY.cut hm h4,h5⟩
  |row t fz sz els=>
   obtain⟨vss,arr,e,fr,h1,h2,h3,h4,h5,h6⟩:=x
   exact⟨vss,arr,e,fr,h1,h2,h3,h4,AP.cut hm h5,h6⟩
  |map es=>
   obtain⟨ms,c,h1,h2,h3⟩:=x
   simp only[En]at hm
   exact⟨ms,c,h1,AY.cut(by omega)h2,AY.cut(by omega)h3⟩
  |iter l pos=>exact x
 ·intro g cs h
  obtain⟨h1,h2,h3,vs,h4,h5⟩:=I.gl g cs h
  exact⟨h1,Te h2,h3,vs,h4,AY.cut(by rw[hg g cs h];omega)h5⟩
theorem Lb.cut{C D:Dw}{n:Nat}(X:Lb C D)(h:C.H.length≤n):Lb C(D.cut n):=by
 have lt: ∀{id:Nat}{o:BH},C.H[id]? =some o→id<n:=fun{id o}e=>by
  have:=(List.getElem?_eq_some_iff.1 e).1;omega
 refine⟨X.rest,X.size,by simp only[Dw.cut,List.length_take];have:=X.len;omega,fun b hb ho=>⟨(X.same b hb ho).1,Te(X.same b hb ho).2⟩,?_,?_⟩
 ·intro id o e f
  obtain⟨⟨o',h',f'⟩,e'⟩:=X.fixed id o e f
  exact⟨⟨o',by rw[Qw(lt e)];exact h',f'⟩,e'⟩
 ·intro id fz sz els e
  obtain⟨fz',els',h',r⟩:=X.row id fz sz els e
  obtain⟨t,e',_⟩:=Ip e
  exact⟨fz',els',by rw[eP(lt e')];exact h',r⟩
theorem Oo{w w':World}{b o:Nat}(h:w'.heap[b]? =w.heap[b]?):w'.frozen?⟨b,o,none⟩=w.frozen?⟨b,o,none⟩:=by
 simp only[World.frozen?,h]
theorem Obj.ext{C D:Dw}(X:Lb C D){p:La}{o:BH}(h:D.w.heap[p.blk]? =C.w.heap[p.blk]?)(x:Obj C p o):Obj D p o:=by
 cases o with
 |cells t cs=>
  obtain⟨vs,arr,e,fr,h1,h2,h3,h4,h5,h6⟩:=x
  exact⟨vs,arr,e,fr,⟨h.trans h1.1,h1.2⟩,h2,h3,AY.ext X h4,h5.same h,fun o ho=>by rw[Oo h];exact h6 o ho⟩
 |row t fz sz els=>
  obtain⟨vss,arr,e,fr,h1,h2,h3,h4,h5,h6,h7,h8,h9⟩:=x
  exact⟨vss,arr,e,fr,⟨h.trans h1.1,h1.2⟩,h2,h3,h4,AP.ext X h5,h6,h7.same h,fun f o ho=>by rw[Oo h];exact h8 f o ho,fun f o ho hs=>by rw[Oo h];exact h9 f o ho hs⟩
 |map es=>
  obtain⟨ms,c,h1,h2,h3⟩:=x
  exact⟨ms,c,h.trans h1,AY.ext X h2,AY.ext X h3⟩
 |iter l pos=>exact h.trans x
theorem AT{α:Type}{l:List α}{i:Nat}{x:α}(h:l[i]? =some x):i<l.length:=(List.getElem?_eq_some_iff.1 h).1
theorem uY{tb:CZ}{C D:Dw}(I:DQ tb C)(hrest:U6 C.w D.w){id:Nat}{o o':BH}(ho:C.H[id]? =some o)(hH:D.H=C.H.set id o')(hφ: ∀j,j≠id→D.φ j=C.φ j)
  (hs:C.w.heap.size≤D.w.heap.size)(hw: ∀b,b<C.w.heap.size→b≠(C.φ id).blk→D.w.heap[b]? =C.w.heap[b]?)
  (hb:(D.φ id).blk=(C.φ id).blk∨(C.w.heap.size≤(D.φ id).blk∧(D.φ id).blk<D.w.heap.size))
  (hf:RK o=true→RK o'=true∧D.φ id=C.φ id)
  (hr: ∀t fz sz els,o= .row t fz sz els→ ∃t' fz' els',o'= .row t' fz' sz els'∧els.length≤els'.length∧(els.length=els'.length→D.φ id=C.φ id)):
  Lb C D∧(Obj D(D.φ id)o'→DQ tb D):=by
 have hid:=AT ho
 have hlen:D.H.length=C.H.length:=by rw[hH];simp
 have get: ∀j,j≠id→D.H[j]? =C.H[j]? :=fun j hj=>by rw[hH,List.getElem?_set_ne(Ne.symm hj)]
 have geti:D.H[id]? =some o':=by rw[hH,List.getElem?_set_self hid]
 have hown: ∀b,b<C.w.heap.size→ ¬C.own b→ ¬D.own b:=by
  rintro b hlt hn⟨j,hj,e⟩
  by_cases hji:j=id
  ·subst hji
   rcases hb with h|h
   ·exact hn⟨j,hid,by rw[←h];exact e⟩
   ·omega
  ·exact hn⟨j,by omega,by rw[←hφ j hji];exact e⟩
 have X:Lb C D:=by
  refine⟨hrest,hs,by omega,fun b hlt hn=>⟨hw b hlt fun e=>hn⟨id,hid,e.symm⟩,hown b hlt hn⟩,?_,?_⟩
  ·intro j x hj hx
   by_cases hji:j=id
   ·subst hji
    rw[ho]at hj
    obtain rfl:=Option.some.inj hj
    exact⟨⟨o',geti,(hf hx).1⟩,(hf hx).2⟩
   ·exact⟨⟨x,by rw[get j hji];exact hj,hx⟩,hφ j hji⟩
  ·intro j fz sz els hj
   by_cases hji:j=id
   ·subst hji
    obtain⟨t,hj,_⟩:=Ip hj
    rw[ho]at hj
    obtain⟨t',fz',els',h1,h2,h3⟩:=hr t fz sz els(Option.some.inj hj)
    exact⟨fz',els',mD(t:=t')(by rw[geti,h1]),h2,h3⟩
   ·exact⟨fz,els,by rw[vZ(get j hji)];exact hj,Nat.le_refl _,fun _=>hφ j hji⟩
 refine⟨X,fun ob=>⟨?_,?_,?_,?_⟩⟩
 ·intro j x hj
  by_cases hji:j=id
  ·subst hji
   rw[geti]at hj
   obtain rfl:=Option.some.inj hj
   exact ob
  ·rw[get j hji]at hj
   rw[hφ j hji]
   have hjl:=AT hj
   exact Obj.ext X(hw _(I.lt j hjl)fun e=>hji(I.inj j id hjl hid e))(I.obj j x hj)
 ·intro i j hi hj e
  rw[hlen]at hi hj
  by_cases hii:i=id<;>by_cases hji:j=id
  ·rw[hii,hji]
  ·subst hii
   rw[hφ j hji]at e
   rcases hb with h|h
   ·exact I.inj i j hi hj(h.symm.trans e)
   ·have:=I.lt j hj;omega
  ·subst hji
   rw[hφ i hii]at e
   rcases hb with h|h
   ·exact I.inj i j hi hj(e.trans h)
   ·have:=I.lt i hi;omega
  ·rw[hφ i hii,hφ j hji]at e
   exact I.inj i j hi hj e
 ·intro i hi
  rw[hlen]at hi
  by_cases hii:i=id
  ·subst hii
   rcases hb with h|h
   ·rw[h];exact Nat.lt_of_lt_of_le(I.lt i hi)hs
   ·exact h.2
  ·rw[hφ i hii];exact Nat.lt_of_lt_of_le(I.lt i hi)hs
 ·intro g cs hg
  obtain⟨h1,h2,h3,vs,h4,h5⟩:=I.gl g cs hg
  obtain⟨h6,h7⟩:=X.same g h1 h2
  exact⟨Nat.lt_of_lt_of_le h1 hs,h7,h3,vs,h4.same h6,AY.ext X h5⟩
def Dw.more(C:Dw)(p:La)(o:BH)(w:World):Dw:=⟨fun j=>if j=C.H.length then p else C.φ j,C.H++[o],w⟩
theorem more{tb:CZ}{C:Dw}(I:DQ tb C){p:La}{o:BH}{w:World}(hrest:U6 C.w w)(hs:C.w.heap.size<w.heap.size)(hp:p.blk=C.w.heap.size)
  (hw: ∀b,b<C.w.heap.size→w.heap[b]? =C.w.heap[b]?):Lb C(C.more p o w)∧(Obj(C.more p o w)p o→DQ tb(C.more p o w))∧(C.more p o w).φ C.H.length=p:=by
 have hφ: ∀j,j<C.H.length→(C.more p o w).φ j=C.φ j:=fun j hj=>if_neg(by omega)
 have hφn:(C.more p o w).φ C.H.length=p:=if_pos rfl
 have hlen:(C.more p o w).H.length=C.H.length+1:=by simp[Dw.more]
 have get: ∀j,j<C.H.length→(C.more p o w).H[j]? =C.H[j]? :=fun j hj=>List.getElem?_append_left hj
 have getn:(C.more p o w).H[C.H.length]? =some o:=by simp[Dw.more]
 have X:Lb C(C.more p o w):=by
  refine⟨hrest,Nat.le_of_lt hs,by omega,fun b hlt hn=>⟨hw b hlt,?_⟩,?_,?_⟩
  ·rintro⟨j,hj,e⟩
   rw[hlen]at hj
   by_cases hji:j=C.H.length
   ·subst hji;rw[hφn,hp]at e;omega
   ·rw[hφ j(by omega)]at e;exact hn⟨j,by omega,e⟩
  ·intro j x hj hx
   have:=AT hj
   exact⟨⟨x,by rw[get j this];exact hj,hx⟩,hφ j this⟩
  ·intro j fz sz els hj
   obtain⟨t,hj',_⟩:=Ip hj
   have:=AT hj'
   exact⟨fz,els,by rw[vZ(get j this)];exact hj,Nat.le_refl _,fun _=>hφ j this⟩
 refine⟨X,fun ob=>⟨?_,?_,?_,?_⟩,hφn⟩
 ·intro j x hj
  have:=AT hj
  rw[hlen]at this
  by_cases hji:j=C.H.length
  ·subst hji
   rw[getn]at hj
   obtain rfl:=Option.some.inj hj
   rw[hφn]
   exact ob
  ·have hl:j<C.H.length:=by omega
   rw[get j hl]at hj
   rw[hφ j hl]
   exact Obj.ext X(hw _(I.lt j hl))(I.obj j x hj)
 ·intro i j hi hj e
  rw[hlen]at hi hj
  by_cases hii:i=C.H.length<;>by_cases hji:j=C.H.length
  ·rw[hii,hji]
  ·subst hii
   have hl:j<C.H.length:=by omega
   rw[hφ j hl,hφn,hp]at e
   have:=I.lt j hl;omega
  ·subst hji
   have hl:i<C.H.length:=by omega
   rw[hφ i hl,hφn,hp]at e
   have:=I.lt i hl;omega
  ·rw[hφ i(by omega),hφ j(by omega)]at e
   exact I.inj i j(by omega)(by omega)e
 ·intro i hi
  rw[hlen]at hi
  by_cases hii:i=C.H.length
  ·subst hii;rw[hφn,hp];exact hs
  ·rw[hφ i(by omega)];exact Nat.lt_trans(I.lt i(by omega))hs
 ·intro g cs hg
  obtain⟨h1,h2,h3,vs,h4,h5⟩:=I.gl g cs hg
  obtain⟨h6,h7⟩:=X.same g h1 h2
  exact⟨Nat.lt_trans h1 hs,h7,h3,vs,h4.same h6,AY.ext X h5⟩
theorem drawn{tb:CZ}{C:Dw}(I:DQ tb C){w:World}(hrest:U6 C.w w)(hw:w.heap=C.w.heap):Lb C⟨C.φ,C.H,w⟩∧DQ tb⟨C.φ,C.H,w⟩:=by
 have X:Lb C⟨C.φ,C.H,w⟩:=⟨hrest,by simp only[hw];omega,Nat.le_refl _,fun b _ hn=>⟨by simp only[hw],hn⟩,fun _ o h f=>⟨⟨o,h,f⟩,rfl⟩,fun _ fz _ els h=>⟨fz,els,h,Nat.le_refl _,fun _=>rfl⟩⟩
 refine⟨X,fun j x hj=>Obj.ext X(by simp only[hw])(I.obj j x hj),I.inj,fun i hi=>by simp only[hw];exact I.lt i hi,?_⟩
 intro g cs hg
 obtain⟨h1,h2,h3,vs,h4,h5⟩:=I.gl g cs hg
 exact⟨by simp only[hw];exact h1,h2,h3,vs,h4.same(by simp only[hw]),AY.ext X h5⟩
theorem grown{tb:CZ}{C:Dw}(I:DQ tb C){w:World}(hrest:U6 C.w w)(hs:C.w.heap.size≤w.heap.size)(hw: ∀b,b<C.w.heap.size→w.heap[b]? =C.w.heap[b]?):Lb C⟨C.φ,C.H,w⟩∧DQ tb⟨C.φ,C.H,w⟩:=by
 have X:Lb C⟨C.φ,C.H,w⟩:=⟨hrest,hs,Nat.le_refl _,fun b hb hn=>⟨hw b hb,hn⟩,fun _ o h f=>⟨⟨o,h,f⟩,rfl⟩,fun _ fz _ els h=>⟨fz,els,h,Nat.le_refl _,fun _=>rfl⟩⟩
 refine⟨X,fun j x hj=>Obj.ext X(hw _(I.lt j(AT hj)))(I.obj j x hj),I.inj,fun i hi=>Nat.lt_of_lt_of_le(I.lt i hi)hs,?_⟩
 intro g cs hg
 obtain⟨h1,h2,h3,vs,h4,h5⟩:=I.gl g cs hg
 exact⟨Nat.lt_of_lt_of_le h1 hs,h2,h3,vs,h4.same(hw _ h1),AY.ext X h5⟩
end Go.Proofs.YtobejhpigbllpaaGreatDoor.Am
namespace Go.Proofs.YtobejhpigbllpaaGreatDoor.Am
theorem X3{h:Av}{n d:Nat}{v:AV}(hm:B9 v≤n):frz h n d v=some v:=by
 cases d<;>simp[frz,hm]
theorem Od{h:Av}{n d:Nat}: ∀{l:List AV},Bh l≤n→D7(frz h n d)l=some l
 |[],_=>rfl
 |v::l,hm=>by
  simp only[Bh]at hm
  simp only[D7,X3(show B9 v≤n by omega),Option.bind_some,Od(show Bh l≤n by omega),Option.map_some]
theorem Gy: ∀(a b:List AV),Bh(a++b)=max(Bh a)(Bh b)
 |[],b=>by simp[Bh]
 |x::a,b=>by simp only[List.cons_append,Bh,Gy a b];omega
theorem Oe{α:Type}{F:α→Option α}: ∀{a b a' b':List α},D7 F a=some a'→D7 F b=some b'→D7 F(a++b)=some(a'++b')
 |[],b,a',b',h,g=>by simp only[D7,Option.some.injEq]at h;subst h;exact g
 |x::a,b,a',b',h,g=>by
  simp only[D7]at h
  obtain⟨y,hy,h⟩:=Option.bind_eq_some_iff.1 h
  obtain⟨l,hl,rfl⟩:=Option.map_eq_some_iff.1 h
  simp only[List.cons_append,D7,hy,Option.bind_some,Oe hl g,Option.map_some]
structure T where
 α:Type
 sz:Nat
 agg:Bool
 dep:Nat
 R:(Nat→Prop)→Av→List AV→α→Prop
 zc:List AV
 z:α
 hz: ∀(P:Nat→Prop)(H:Av),R P H zc z
 one:agg=false→sz=1
 len: ∀{P:Nat→Prop}{H:Av}{cs:List AV}{x:α},R P H cs x→cs.length=sz
 sca: ∀{P:Nat→Prop}{H:Av}{cs:List AV}{x:α},R P H cs x→cs.all scal=true
 men: ∀{P:Nat→Prop}{H:Av}{cs:List AV}{x:α}{m:Nat},R P H cs x→(∀i,P i→i<m)→Bh cs≤m
 mono: ∀{P Q:Nat→Prop}{H G:Av}{cs:List AV}{x:α},(∀i,P i→Q i∧G[i]? =H[i]?)→R P H cs x→R Q G cs x
 cut: ∀{P Q:Nat→Prop}{H:Av}{cs:List AV}{x:α}{n:Nat},R P H cs x→Bh cs≤n→CE(H.take n)≤n→(∀i,P i→i<n→Q i)→R Q(H.take n)cs x
 frz: ∀{P Q:Nat→Prop}{H:Av}{cs:List AV}{x:α}{n d:Nat},R P H cs x→dep≤d→d≤20→CE(H.take n)≤n→(∀i,P i→i<n→Q i)→ ∃cs',D7(frz H n d)cs=some cs'∧R Q(H.take n)cs' x
def T.V(t:T)(P:Nat→Prop)(H:Av)(v:AV)(x:t.α):Prop:=(t.agg=true∧ ∃cs,v= .agg cs∧t.R P H cs x)∨(t.agg=false∧t.R P H [v]x)
section
variable {t:T}{P Q:Nat→Prop}{H G:Av}
theorem Lq{v:AV}(h:scal v=true):cellsOf v=[v]:=by
 cases v<;>simp[scal]at h<;>rfl
theorem T.V.cells{v:AV}{x:t.α}(h:t.V P H v x):t.R P H(cellsOf v)x:=by
 rcases h with⟨_,cs,rfl,h⟩|⟨_,h⟩
 ·exact h
 ·have:=t.sca h
  simp only[List.all_cons,List.all_nil,Bool.and_true]at this
  rw[Lq this];exact h
theorem T.V.of{cs:List AV}{x:t.α}(h:t.R P H cs x): ∃v,Hu t.agg cs=some v∧t.V P H v x:=by
 cases ha:t.agg with
 |true=>exact⟨.agg cs,by simp[Hu], .inl⟨ha,cs,rfl,h⟩⟩
 |false=>
  have:=t.len h
  rw[t.one ha]at this
  match cs,this with
  |[v],_=>exact⟨v,rfl, .inr⟨ha,h⟩⟩
theorem T.V.mono{v:AV}{x:t.α}(m: ∀i,P i→Q i∧G[i]? =H[i]?)(h:t.V P H v x):t.V Q G v x:=by
 rcases h with⟨a,cs,rfl,h⟩|⟨a,h⟩
 ·exact .inl⟨a,cs,rfl,t.mono m h⟩
 ·exact .inr⟨a,t.mono m h⟩
theorem T.V.men{v:AV}{x:t.α}{m:Nat}(h:t.V P H v x)(hp: ∀i,P i→i<m):B9 v≤m:=by
 rcases h with⟨a,cs,rfl,h⟩|⟨a,h⟩
 ·simpa [B9]using t.men h hp
 ·simpa [Bh]using t.men h hp
theorem T.V.frz{v:AV}{x:t.α}{n d:Nat}(h:t.V P H v x)(hd:t.dep≤d)(h20:d+1≤20)(hw:CE(H.take n)≤n)(hp: ∀i,P i→i<n→Q i): ∃v',Am.frz H n(d+1)v=some v'∧t.V Q(H.take n)v' x:=by
 rcases h with⟨a,cs,rfl,h⟩|⟨a,h⟩
 ·by_cases hm:Bh cs≤n
  ·exact⟨.agg cs,X3(by simpa [B9]using hm), .inl⟨a,cs,rfl,t.cut h hm hw hp⟩⟩
  ·obtain⟨cs',e,r⟩:=t.frz h hd(by omega)hw hp
   exact⟨.agg cs',by simp[Am.frz,B9,hm,e], .inl⟨a,cs',rfl,r⟩⟩
 ·obtain⟨cs',e,r⟩:=t.frz h(show t.dep≤d+1 by omega)h20 hw hp
  simp only[D7]at e
  obtain⟨v',hv,e⟩:=Option.bind_eq_some_iff.1 e
  simp only[Option.map_some,Option.some.injEq]at e
  subst e
  exact⟨v',hv, .inr⟨a,r⟩⟩
end
def Tx(α:Type)(c:α→AV)(z:α)(hs: ∀x,scal(c x)=true)(hm: ∀x,B9(c x)=0):T where
 α:=α
 sz:=1
 agg:=false
 dep:=0
 R:=fun _ _ cs x=>cs=[c x]
 zc:=[c z]
 z:=z
 hz:=fun _ _=>rfl
 one:=fun _=>rfl
 len:=fun h=>by rw[h];rfl
 sca:=fun{_ _ _ x}h=>by rw[h];simp[hs x]
 men:=fun{_ _ _ x _}h _=>by rw[h];simp[Bh,hm x]
 mono:=fun _ h=>h
 cut:=fun h _ _ _=>h
 frz:=fun{_ _ _ _ x _ _}h _ _ _ _=>⟨_,by rw[h,Od(by simp[Bh,hm x])],rfl⟩
theorem PX{α:Type}{c:α→AV}{z:α}{hs: ∀x,scal(c x)=true}{hm: ∀x,B9(c x)=0}{P:Nat→Prop}{H:Av}{v:AV}{x:α}:(Tx α c z hs hm).V P H v x↔v=c x:=by
 constructor
 ·rintro(⟨a,_⟩|⟨_,h⟩)
  ·cases a
  ·exact(List.cons.inj h).1
 ·rintro rfl
  exact .inr⟨rfl,rfl⟩
def T.b:T:=Tx Bool .b false(fun _=>rfl)(fun _=>rfl)
def T.int(k:IntKind):T:=Tx Int(.i k)0(fun _=>rfl)(fun _=>rfl)
def T.u8:T:=Tx UInt8(fun x=> .i .u8 x.toNat)0(fun _=>rfl)(fun _=>rfl)
def T.u16:T:=Tx UInt16(fun x=> .i .u16 x.toNat)0(fun _=>rfl)(fun _=>rfl)
def T.u32:T:=Tx UInt32(fun x=> .i .u32 x.toNat)0(fun _=>rfl)(fun _=>rfl)
def T.u64:T:=Tx UInt64(fun x=> .i .u64 x.toNat)0(fun _=>rfl)(fun _=>rfl)
abbrev AN:=List UInt8
def Ax:T:=Tx AN .s [](fun _=>rfl)(fun _=>rfl)
def CH(a b:T):T where
 α:=a.α×b.α
 sz:=a.sz+b.sz
 agg:=true
 dep:=max a.dep b.dep
 R:=fun P H cs x=> ∃c d,cs=c++d∧a.R P H c x.1∧b.R P H d x.2
 zc:=a.zc++b.zc
 z:=(a.z,b.z)
 hz:=fun P H=>⟨_,_,rfl,a.hz P H,b.hz P H⟩
 one:=fun h=>by cases h
 len:=fun⟨c,d,e,h,g⟩=>by rw[e,List.length_append,a.len h,b.len g]
 sca:=fun⟨c,d,e,h,g⟩=>by rw[e,List.all_append,a.sca h,b.sca g];rfl
 men:=fun⟨c,d,e,h,g⟩hp=>by rw[e,Gy];have:=a.men h hp;have:=b.men g hp;omega
 mono:=fun m⟨c,d,e,h,g⟩=>⟨c,d,e,a.mono m h,b.mono m g⟩
 cut:=fun⟨c,d,e,h,g⟩hm hw hp=>by
  rw[e,Gy]at hm
  exact⟨c,d,e,a.cut h(by omega)hw hp,b.cut g(by omega)hw hp⟩
 frz:=fun⟨c,d,e,h,g⟩hd h20 hw hp=>by
  have hd':=Nat.max_le.1 hd
  obtain⟨c',h1,h2⟩:=a.frz h hd'.1 h20 hw hp
  obtain⟨d',g1,g2⟩:=b.frz g hd'.2 h20 hw hp
  exact⟨c'++d',by rw[e,Oe h1 g1],c',d',rfl,h2,g2⟩
def Pg(t:T)(β:Type)(f:β→t.α)(g:t.α→β)(hfg: ∀y,f(g y)=y):T where
 α:=β
 sz:=t.sz
 agg:=true
 dep:=t.dep
 R:=fun P H cs y=>t.R P H cs(f y)
 zc:=t.zc
 z:=g t.z
 hz:=fun P H=>by rw[hfg];exact t.hz P H
 one:=fun h=>by cases h
 len:=t.len
 sca:=t.sca
 men:=t.men
 mono:=t.mono
 cut:=t.cut
 frz:=t.frz
def CJ(t:T)(P:Nat→Prop)(H:Av):List(List AV)→List t.α→Prop
 |[],[]=>True
 |c::r,x::q=>t.R P H c x∧CJ t P H r q
 |_,_=>False
section
variable {t:T}{P Q:Nat→Prop}{H G:Av}
theorem CJ.length: ∀{l:List(List AV)}{xs:List t.α},CJ t P H l xs→l.length=xs.length
 |[],[],_=>rfl
 |_::_,_::_,h=>by simp[CJ.length h.2]
theorem CJ.lens: ∀{l:List(List AV)}{xs:List t.α},CJ t P H l xs→ ∀e∈l,e.length=t.sz
 |[],[],_,e,he=>by cases he
 |c::_,_::_,h,e,he=>by
  rcases List.mem_cons.1 he with rfl|he
  ·exact t.len h.1
  ·exact CJ.lens h.2 e he
theorem CJ.sca: ∀{l:List(List AV)}{xs:List t.α},CJ t P H l xs→l.flatten.all scal=true
 |[],[],_=>rfl
 |c::_,_::_,h=>by rw[List.flatten_cons,List.all_append,t.sca h.1,CJ.sca h.2];rfl
theorem Oa: ∀(l:List(List AV)),Bh l.flatten=CN l
 |[]=>rfl
 |c::l=>by rw[List.flatten_cons,Gy,Oa l,CN]
theorem CJ.men{m:Nat}(hp: ∀i,P i→i<m): ∀{l:List(List AV)}{xs:List t.α},CJ t P H l xs→CN l≤m
 |[],[],_=>by simp[CN]
 |c::_,_::_,h=>by simp only[CN];have:=t.men h.1 hp;have:=CJ.men hp h.2;omega
theorem CJ.mono(m: ∀i,P i→Q i∧G[i]? =H[i]?): ∀{l:List(List AV)}{xs:List t.α},CJ t P H l xs→CJ t Q G l xs
 |[],[],_=>trivial
 |_::_,_::_,h=>⟨t.mono m h.1,CJ.mono m h.2⟩
theorem CJ.cut{n:Nat}(hw:CE(H.take n)≤n)(hp: ∀i,P i→i<n→Q i): ∀{l:List(List AV)}{xs:List t.α},CJ t P H l xs→CN l≤n→CJ t Q(H.take n)l xs
 |[],[],_,_=>trivial
 |_::_,_::_,h,hm=>by
  simp only[CN]at hm
  exact⟨t.cut h.1(by omega)hw hp,CJ.cut hw hp h.2(by omega)⟩
theorem CJ.frz{n d:Nat}(hd:t.dep≤d)(h20:d≤20)(hw:CE(H.take n)≤n)(hp: ∀i,P i→i<n→Q i): ∀{l:List(List AV)}{xs:List t.α},CJ t P H l xs→ ∃l',D7(D7(Am.frz H n d))l=some l'∧CJ t Q(H.take n)l' xs
 |[],[],_=>⟨[],rfl,trivial⟩
 |_::_,_::_,h=>by
  obtain⟨c',e,r⟩:=t.frz h.1 hd h20 hw hp
  obtain⟨l',e',r'⟩:=CJ.frz hd h20 hw hp h.2
  exact⟨c'::l',by simp[D7,e,e'],r,r'⟩
theorem CJ.get: ∀{l:List(List AV)}{xs:List t.α}{i:Nat}{x:t.α},CJ t P H l xs→xs[i]? =some x→ ∃c,l[i]? =some c∧t.R P H c x
 |[],[],_,_,_,h=>by simp at h
 |c::_,y::_,0,x,h,e=>by
  simp only[List.getElem?_cons_zero,Option.some.injEq]at e
  subst e
  exact⟨c,rfl,h.1⟩
 |c::_,y::_,i+1,x,h,e=>by
  simp only[List.getElem?_cons_succ]at e
  obtain⟨c',e',r⟩:=CJ.get h.2 e
  exact⟨c',by simpa using e',r⟩
theorem CJ.drop: ∀{n:Nat}{l:List(List AV)}{xs:List t.α},CJ t P H l xs→CJ t P H(l.drop n)(xs.drop n)
 |0,_,_,h=>h
 |_+1,[],[],_=>trivial
 |n+1,_::_,_::_,h=>by simpa using CJ.drop(n:=n)h.2
theorem CJ.take: ∀{n:Nat}{l:List(List AV)}{xs:List t.α},CJ t P H l xs→CJ t P H(l.take n)(xs.take n)
 |0,_,_,_=>by simp[CJ]
 |_+1,[],[],_=>trivial
 |n+1,_::_,_::_,h=>by simp only[List.take_succ_cons];exact⟨h.1,CJ.take(n:=n)h.2⟩
theorem CJ.app: ∀{l m:List(List AV)}{xs ys:List t.α},CJ t P H l xs→CJ t P H m ys→CJ t P H(l++m)(xs++ys)
 |[],_,[],_,_,g=>g
 |_::_,_,_::_,_,h,g=>⟨h.1,CJ.app h.2 g⟩
theorem CJ.set{c:List AV}{y:t.α}(hc:t.R P H c y): ∀{l:List(List AV)}{xs:List t.α}{i:Nat},CJ t P H l xs→CJ t P H(l.set i c)(xs.set i y)
 |[],[],_,_=>trivial
 |_::_,_::_,0,h=>⟨hc,h.2⟩
 |_::_,_::_,i+1,h=>⟨h.1,CJ.set hc(i:=i)h.2⟩
theorem CJ.rep{c:List AV}{y:t.α}(hc:t.R P H c y): ∀n,CJ t P H(List.replicate n c)(List.replicate n y)
 |0=>trivial
 |n+1=>⟨hc,CJ.rep hc n⟩
end
structure Ar(α:Type)(n:Nat)where
 l:List α
 len:l.length=n
theorem Ar.ext{α:Type}{n:Nat}: ∀{a b:Ar α n},a.l=b.l→a=b
 |⟨_,_⟩,⟨_,_⟩,rfl=>rfl
instance{α:Type}{n:Nat} [DecidableEq α]:DecidableEq(Ar α n):=fun a b=>if h:a.l=b.l then isTrue(Ar.ext h)else isFalse fun e=>h(by rw[e])
theorem ZY{sz:Nat}: ∀{l:List(List AV)},(∀e∈l,e.length=sz)→l.flatten.length=l.length*sz
 |[],_=>by simp
 |c::l,h=>by
  rw[List.flatten_cons,List.length_append,h c List.mem_cons_self,ZY fun e he=>h e(List.mem_cons_of_mem _ he),List.length_cons,Nat.succ_mul];omega
theorem Xh{α:Type}{F:α→Option α}: ∀{l l':List(List α)},D7(D7 F)l=some l'→D7 F l.flatten=some l'.flatten
 |[],_,h=>by simp only[D7,Option.some.injEq]at h;subst h;rfl
 |c::l,_,h=>by
  simp only[D7]at h
  obtain⟨c',hc,h⟩:=Option.bind_eq_some_iff.1 h
  obtain⟨l',hl,rfl⟩:=Option.map_eq_some_iff.1 h
  exact Oe hc(Xh hl)
def Ay(n:Nat)(t:T):T where
 α:=Ar t.α n
 sz:=n*t.sz
 agg:=true
 dep:=t.dep
 R:=fun P H cs x=> ∃css,cs=css.flatten∧CJ t P H css x.l
 zc:=(List.replicate n t.zc).flatten
 z:=⟨List.replicate n t.z,by simp⟩
 hz:=fun P H=>⟨_,rfl,CJ.rep(t.hz P H)n⟩
 one:=fun h=>by cases h
 len:=fun{_ _ _ x}⟨css,e,h⟩=>by rw[e,ZY h.lens,h.length,x.len]
 sca:=fun⟨css,e,h⟩=>by rw[e];exact h.sca
 men:=fun⟨css,e,h⟩hp=>by rw[e,Oa];exact h.men hp
 mono:=fun m⟨css,e,h⟩=>⟨css,e,h.mono m⟩
 cut:=fun⟨css,e,h⟩hm hw hp=>⟨css,e,h.cut hw hp(by rwa [e,Oa]at hm)⟩
 frz:=fun⟨css,e,h⟩hd h20 hw hp=>by
  obtain⟨l',e',r⟩:=h.frz hd h20 hw hp
  exact⟨l'.flatten,by rw[e];exact Xh e',l',rfl,r⟩
inductive GS(α:Type)where
 |nil
 |mk(l:List α)
 deriving DecidableEq,Inhabited
def GS.l{α:Type}:GS α→List α
 | .nil=>[]
 | .mk l=>l
def MF(P:Nat→Prop):AV→Prop
 | .sl _ _=>True
 | .orow id _ _ _=>P id
 | .ocel _ id _ _=>P id
 |_=>False
def Ty(t:T)(P:Nat→Prop)(H:Av)(v:AV):GS t.α→Prop
 | .nil=>v= .nils
 | .mk l=>MF P v∧ ∃els,Ez H t.sz v=some els∧CJ t P H els l
theorem NS{H G:Av}{id:Nat}(h:G[id]? =H[id]?):rowAt G id=rowAt H id:=by simp only[rowAt,h]
theorem O0{H G:Av}{id:Nat}(h:G[id]? =H[id]?):BZ G id=BZ H id:=by simp only[BZ,h]
section
variable {t:T}{P Q:Nat→Prop}{H G:Av}{v:AV}
theorem uH{sz:Nat}(m: ∀i,P i→Q i∧G[i]? =H[i]?)(h:MF P v):Ez G sz v=Ez H sz v:=by
 cases v<;>simp only[MF]at h<;>simp only[Ez]
 ·rw[NS(m _ h).2]
 ·rw[O0(m _ h).2]
theorem oV(m: ∀i,P i→Q i)(h:MF P v):MF Q v:=by
 cases v<;>simp only[MF]at h ⊢
 ·exact m _ h
 ·exact m _ h
theorem Ty.mono(m: ∀i,P i→Q i∧G[i]? =H[i]?): ∀{g:GS t.α},Ty t P H v g→Ty t Q G v g
 | .nil,h=>h
 | .mk _,⟨b,els,e,h⟩=>⟨oV(fun i hi=>(m i hi).1)b,els,by rw[uH m b];exact e,h.mono m⟩
theorem Ty.sca: ∀{g:GS t.α},Ty t P H v g→scal v=true
 | .nil,h=>by rw[show v=_ from h];rfl
 | .mk _,⟨b,_,_,_⟩=>by cases v<;>simp only[MF]at b<;>rfl
theorem Ty.men{m:Nat}(hp: ∀i,P i→i<m): ∀{g:GS t.α},Ty t P H v g→B9 v≤m
 | .nil,h=>by rw[show v=_ from h];simp[B9]
 | .mk _,⟨b,els,e,h⟩=>by
  cases v<;>simp only[MF]at b
  ·simp only[Ez]at e
   split at e
   ·simp only[Option.some.injEq]at e
    subst e
    simpa [B9]using h.men hp
   ·cases e
  ·simp only[B9];exact hp _ b
  ·simp only[B9];exact hp _ b
theorem R4{n id:Nat}(h:id<n):rowAt(H.take n)id=rowAt H id:=by
 simp only[rowAt];rw[List.getElem?_take];simp[h]
theorem Oz{n id:Nat}(h:id<n):BZ(H.take n)id=BZ H id:=by
 simp only[BZ];rw[List.getElem?_take];simp[h]
theorem ZP: ∀{l:Av}{o:BH},o∈l→En o≤CE l:=by
 intro l
 induction l with
 |nil=>intro o h;cases h
 |cons x l ih=>
  intro o h
  simp only[CE]
  rcases List.mem_cons.1 h with e|h
  ·subst e;omega
  ·have:=ih h;omega
theorem UK: ∀(l:List(List AV))(i:Nat),CN(l.drop i)≤CN l
 |[],i=>by simp
 |x::l,0=>by simp
 |x::l,i+1=>by simp only[List.drop_succ_cons,CN];have:=UK l i;omega
theorem UJ: ∀(l:List(List AV))(i:Nat),CN(l.take i)≤CN l
 |[],i=>by simp
 |x::l,0=>by simp[CN]
 |x::l,i+1=>by simp only[List.take_succ_cons,CN];have:=UJ l i;omega
theorem IQ: ∀(l:List AV)(i:Nat),Bh(l.drop i)≤Bh l
 |[],i=>by simp
 |x::l,0=>by simp
 |x::l,i+1=>by simp only[List.drop_succ_cons,Bh];have:=IQ l i;omega
theorem K3: ∀(l:List AV)(i:Nat),Bh(l.take i)≤Bh l
 |[],i=>by simp
 |x::l,0=>by simp[Bh]
 |x::l,i+1=>by simp only[List.take_succ_cons,Bh];have:=K3 l i;omega
theorem PD(sz:Nat): ∀(n:Nat)(l:List AV),CN(BR sz n l)≤Bh l
 |0,_=>by simp[BR,CN]
 |n+1,l=>by
  simp only[BR,CN]
  have h1:=K3 l sz
  have h2:=PD sz n(l.drop sz)
  have h3:=IQ l sz
  omega
theorem WQ{n id:Nat}{r:Bool×Nat×List(List AV)}(hw:CE(H.take n)≤n)(h:id<n)(e:rowAt H id=some r):CN r.2.2≤n:=by
 rw[←R4 h]at e
 simp only[rowAt]at e
 split at e
 ·rename_i fz sz els he
  cases e
  exact Nat.le_trans(ZP(List.mem_of_getElem? he))hw
 ·cases e
theorem Tg{n id:Nat}{cs:List AV}(hw:CE(H.take n)≤n)(h:id<n)(e:BZ H id=some cs):Bh cs≤n:=by
 rw[←Oz h]at e
 simp only[BZ]at e
 split at e
 ·rename_i els he
  cases e
  exact Nat.le_trans(ZP(List.mem_of_getElem? he))hw
 ·cases e
theorem Ty.cut{n:Nat}(hw:CE(H.take n)≤n)(hp: ∀i,P i→i<n→Q i)(hm:B9 v≤n): ∀{g:GS t.α},Ty t P H v g→Ty t Q(H.take n)v g
 | .nil,h=>h
 | .mk _,⟨b,els,e,h⟩=>by
  cases v<;>simp only[MF]at b
  ·rename_i sz' els'
   refine⟨trivial,els,e,h.cut hw hp ?_⟩
   simp only[Ez]at e
   split at e
   ·simp only[Option.some.injEq]at e
    subst e
    simpa [B9]using hm
   ·cases e
  ·rename_i id k lo len
   simp only[B9]at hm
   refine⟨hp _ b(by omega),els,?_,h.cut hw hp ?_⟩
   ·simp only[Ez]at e ⊢
    rw[R4(by omega)];exact e
   ·simp only[Ez]at e
    obtain⟨r,hr,e⟩:=Option.bind_eq_some_iff.1 e
    split at e
    ·simp only[Option.some.injEq]at e
     subst e
     exact Nat.le_trans(UJ _ _)(Nat.le_trans(UK _ _)(WQ hw(by omega)hr))
    ·cases e
  ·rename_i sz' id off len
   simp only[B9]at hm
   refine⟨hp _ b(by omega),els,?_,h.cut hw hp ?_⟩
   ·simp only[Ez]at e ⊢
    rw[Oz(by omega)];exact e
   ·simp only[Ez]at e
    obtain⟨r,hr,e⟩:=Option.bind_eq_some_iff.1 e
    split at e
    ·simp only[Option.some.injEq]at e
     subst e
     exact Nat.le_trans(PD _ _ _)(Nat.le_trans(IQ _ _)(Tg hw(by omega)hr))
    ·cases e
theorem Ty.frz{n d:Nat}(hd:t.dep≤d)(h20:d≤20)(hw:CE(H.take n)≤n)(hp: ∀i,P i→i<n→Q i){g:GS t.α}(h:Ty t P H v g): ∃v',Am.frz H n(d+1)v=some v'∧Ty t Q(H.take n)v' g:=by
 by_cases hm:B9 v≤n
 ·exact⟨v,X3 hm,h.cut hw hp hm⟩
 ·cases g with
  |nil=>rw[show v=_ from h]at hm;simp[B9]at hm
  |mk l=>
   obtain⟨b,els,e,h⟩:=h
   obtain⟨els',e',r⟩:=h.frz hd h20 hw hp
   refine⟨.sl t.sz els',?_,trivial,els',by simp[Ez],r⟩
   cases v<;>simp only[MF]at b
   ·rename_i sz' els0
    simp only[Ez]at e
    split at e
    ·rename_i hsz
     simp only[Option.some.injEq]at e
     subst e
     subst hsz
     simp only[Am.frz,if_neg hm,e',Option.map_some]
    ·cases e
   ·rename_i id k lo len
    simp only[Ez]at e
    obtain⟨r0,hr,e⟩:=Option.bind_eq_some_iff.1 e
    split at e
    ·rename_i hc
     simp only[Option.some.injEq]at e
     subst e
     simp only[Am.frz,if_neg hm,hr,Option.bind_some,if_pos(show k=r0.2.2.length∧lo+len≤k from⟨hc.1,hc.2.2⟩),e',Option.map_some,hc.2.1]
    ·cases e
   ·rename_i sz' id off len
    simp only[Ez]at e
    obtain⟨r0,hr,e⟩:=Option.bind_eq_some_iff.1 e
    split at e
    ·rename_i hc
     have he:some(BR t.sz len(r0.drop off))=some els:=e
     simp only[Option.some.injEq]at he
     subst he
     obtain⟨rfl,hc⟩:=hc
     simp only[Am.frz,if_neg hm,hr,Option.bind_some,if_pos hc,e',Option.map_some]
    ·cases e
end
def T.sl(t:T):T where
 α:=GS t.α
 sz:=1
 agg:=false
 dep:=t.dep+1
 R:=fun P H cs g=> ∃v,cs=[v]∧Ty t P H v g
 zc:=[.nils]
 z:= .nil
 hz:=fun _ _=>⟨_,rfl,rfl⟩
 one:=fun _=>rfl
 len:=fun⟨v,e,_⟩=>by rw[e];rfl
 sca:=fun⟨v,e,h⟩=>by rw[e];simp[h.sca]
 men:=fun⟨v,e,h⟩hp=>by rw[e];simpa [Bh]using h.men hp
 mono:=fun m⟨v,e,h⟩=>⟨v,e,h.mono m⟩
 cut:=fun⟨v,e,h⟩hm hw hp=>⟨v,e,h.cut hw hp(by rw[e]at hm;simpa [Bh]using hm)⟩
 frz:=fun{_ _ _ _ _ _ d}⟨v,e,h⟩hd h20 hw hp=>by
  obtain⟨d,rfl⟩: ∃k,d=k+1:=⟨d-1,by omega⟩
  obtain⟨v',e',r⟩:=h.frz(d:=d)(by omega)(by omega)hw hp
  exact⟨[v'],by rw[e];simp[D7,e'],v',rfl,r⟩
theorem Ka{t:T}{P:Nat→Prop}{H:Av}{v:AV}{g:GS t.α}:(T.sl t).V P H v g↔Ty t P H v g:=by
 constructor
 ·rintro(⟨a,_⟩|⟨_,w,h,r⟩)
  ·cases a
  ·cases h;exact r
 ·intro h
  exact .inr⟨rfl,v,rfl,h⟩
end Go.Proofs.YtobejhpigbllpaaGreatDoor.Am
namespace Go.Proofs.YtobejhpigbllpaaGreatDoor.Am
inductive AL:Type 1 where
 |val(t:T)(x:t.α)
 |rp(t:T)(x:t.α)
 |cp(j off:Nat)
 |own(j:Nat)
 |ep(j i off:Nat)
 |tup(l:List(Σ t:T,t.α))
 |junk
 |con(v:AV)
 |kv(j:Nat)
 |fnv(f:Fn)(js ks:List Nat)
 |aggk(js:List Nat)
 |tupk(js:List Nat)
 |oc(j off sz len:Nat)
structure Dom where
 α:Type
 R:(Nat→Prop)→(Nat→Prop)→Av→AV→α→Prop
 lt: ∀{F P:Nat→Prop}{H:Av}{v:AV}{x:α},R F P H v x→ ∀i,F i→i<H.length
 men: ∀{F P:Nat→Prop}{H:Av}{v:AV}{x:α}{m:Nat},R F P H v x→(∀i,P i→i<m)→(∀i,F i→i<m)→B9 v≤m
 mono: ∀{F P Q:Nat→Prop}{H G:Av}{v:AV}{x:α},(∀i,P i→Q i∧G[i]? =H[i]?)→(∀i,F i→G[i]? =H[i]?)→R F P H v x→R F Q G v x
inductive Db:Type 1 where
 |gone
 |cells(ps:List(Nat×AL))
 |row(t:T)(g:GS t.α)
 |dom(D:Dom)(x:D.α)
 |keep(φ:AL)
 |ghost(φ:AL)
 |rowk(sz:Nat)(els:List(List Nat))
abbrev Ts:=List(Nat×AL)
abbrev Ss:=List(Nat×Db)
structure Cx:Type 1 where
 ts:Ts
 ss:Ss
def BD:Ts→Nat→Option AL
 |[],_=>none
 |(u,φ)::r,t=>if u=t then some φ else BD r t
def AG:Ss→Nat→Option Db
 |[],_=>none
 |(u,φ)::r,t=>if u=t then some φ else AG r t
def yN:Option Db→Prop
 |none=>False
 |some .gone=>False
 |some(.ghost _)=>False
 |some _=>True
def D8:Option Db→Bool
 |some(.keep _)=>true
 |_=>false
def Ba(ss:Ss)(j:Nat):Prop:=yN(AG ss j)
structure Pr where
 h:Av
 P0:Nat→Prop
 K:Nat→Prop
 lt: ∀i,P0 i→i<h.length
 pk: ∀i,P0 i→K i
 g:Nat→AV
abbrev Fp:=Nat→Nat→Prop
def cT:Nat:=1000000
def Pf(E:Pr)(ss:Ss)(fp:Fp)(H:Av)(i:Nat):Prop:=
 (i<E.h.length∧E.P0 i)∨(E.h.length≤i∧i<H.length∧ ∀j,Ba ss j→ ¬fp j i)
def Vy(P:Nat→Prop):AV→Prop
 | .ptr id _=>P id
 | .pe id _ _ _=>P id
 | .ip _ _=>True
 |_=>False
def Zu(t:T)(P:Nat→Prop)(H:Av)(v:AV)(x:t.α):Prop:=
 Vy P v∧ ∃cs off,place H v=some(cs,off)∧off+t.sz≤cs.length∧t.R P H(sub cs off t.sz)x∧(∀m,(∀i,P i→i<m)→B9 v≤m)
def VW(P:Nat→Prop)(H:Av):List AV→List(Σ t:T,t.α)→Prop
 |[],[]=>True
 |v::r,p::q=>p.1.V P H v p.2∧VW P H r q
 |_,_=>False
def Ny(ss:Ss)(l:List Nat):Prop:= ∀j∈l,D8(AG ss j)=true
def FR(rv:Nat→AV)(ss:Ss)(P:Nat→Prop)(H:Av):AL→AV→Prop
 | .val t x,v=>t.V P H v x
 | .rp t x,v=>Zu t P H v x
 | .cp j off,v=>Ba ss j∧ ∃id,rv j= .ptr id 0∧v= .ptr id off
 | .own j,v=>Ba ss j∧v=rv j
 | .ep j i off,v=>Ba ss j∧ ∃id n,rv j= .orow id n 0 n∧i<n∧v= .pe id n i off
 | .tup l,v=> ∃vs,v= .tup vs∧VW P H vs l
 | .junk,_=>True
 | .con c,v=>v=c∧B9 c=0∧scal c=true
 | .kv j,v=>Ny ss [j]∧v=rv j
 | .fnv f js ks,v=>Ny ss(js++ks)∧v= .fn f(js.map rv)(ks.map rv)
 | .aggk js,v=>Ny ss js∧v= .agg(js.flatMap fun j=>cellsOf(rv j))
 | .tupk js,v=>Ny ss js∧v= .tup(js.map rv)
 | .oc j off sz len,v=>Ba ss j∧ ∃id,rv j= .ptr id 0∧v= .ocel sz id off len
def FC(rv:Nat→AV)(ss:Ss)(P:Nat→Prop)(H:Av):AL→List AV→Prop
 | .val t x,c=>t.R P H c x
 | .tup _,_=>False
 | .junk,c=>Bh c≤H.length
 |φ,c=> ∃v,c=[v]∧FR rv ss P H φ v
def PR(rv:Nat→AV)(ss:Ss)(P:Nat→Prop)(H:Av):List(Nat×AL)→List AV→Prop
 |[],cs=>cs=[]
 |(n,φ)::r,cs=> ∃c d,cs=c++d∧c.length=n∧FC rv ss P H φ c∧PR rv ss P H r d
def SR(rv:Nat→AV)(fp:Fp)(ss:Ss)(P:Nat→Prop)(H:Av)(j:Nat):Db→Prop
 | .gone=>True
 | .cells ps=> ∃id cs,rv j= .ptr id 0∧(∀i,fp j i↔i=id)∧BZ H id=some cs∧PR rv ss P H ps cs
 | .row t .nil=>rv j= .nils∧ ∀i,¬fp j i
 | .row t(.mk l)=> ∃id els,rv j= .orow id els.length 0 els.length∧(∀i,fp j i↔i=id)∧rowAt H id=some(false,t.sz,els)∧CJ t P H els l
 | .dom D x=>D.R(fp j)P H(rv j)x
 | .keep φ=>FR rv ss P H φ(rv j)∧ ∀i,¬fp j i
 | .ghost _=>True
 | .rowk sz els=>Ny ss els.flatten∧ ∃id,rv j= .orow id els.length 0 els.length∧(∀i,fp j i↔i=id)∧rowAt H id=some(false,sz,els.map fun js=>js.flatMap fun j=>cellsOf(rv j))
structure Bp(E:Pr)(Γ:Cx)(rv:Nat→AV)(fp:Fp)(f:Fr)(H:Av):Prop where
 le:E.h.length≤H.length
 base: ∀i,i<E.h.length→E.K i→H[i]? =E.h[i]?
 wf:CE H≤H.length
 fplt: ∀j i,Ba Γ.ss j→fp j i→i<H.length∧(i<E.h.length→ ¬E.K i∧cT≤j)
 rvlt: ∀j,Ba Γ.ss j→B9(rv j)≤H.length
 scal: ∀j,Ba Γ.ss j→D8(AG Γ.ss j)=true∨scal(rv j)=true
 inj: ∀j k i,Ba Γ.ss j→Ba Γ.ss k→fp j i→fp k i→j=k
 slots: ∀j S,AG Γ.ss j=some S→SR rv fp Γ.ss(Pf E Γ.ss fp H)H j S
 temps: ∀t φ,BD Γ.ts t=some φ→FR rv Γ.ss(Pf E Γ.ss fp H)H φ(get f t)
 gh: ∀j φ,AG Γ.ss j=some(.ghost φ)→FR rv Γ.ss(Pf E Γ.ss fp H)H φ(E.g j)
def fC(E:Pr)(Γ:Cx)(f:Fr)(H:Av):Prop:= ∃rv fp,Bp E Γ rv fp f H
theorem Pf.lt{E:Pr}{ss:Ss}{fp:Fp}{H:Av}(le:E.h.length≤H.length){i:Nat}(h:Pf E ss fp H i):i<H.length:=by
 rcases h with h|h
 ·omega
 ·exact h.2.1
section
variable {rv rv':Nat→AV}{fp fp':Fp}{ss ss':Ss}{P Q:Nat→Prop}{H G:Av}
theorem VW.mono(m: ∀i,P i→Q i∧G[i]? =H[i]?): ∀{vs:List AV}{l:List(Σ t:T,t.α)},VW P H vs l→VW Q G vs l
 |[],[],_=>trivial
 |_::_,_::_,h=>⟨h.1.mono m,VW.mono m h.2⟩
theorem mL{v:AV}(m: ∀i,P i→Q i∧G[i]? =H[i]?)(h:Vy P v):place G v=place H v:=by
 cases v<;>simp only[Vy]at h<;>simp only[place]
 ·rw[O0(m _ h).2]
 ·rw[NS(m _ h).2]
theorem sL{v:AV}(m: ∀i,P i→Q i)(h:Vy P v):Vy Q v:=by
 cases v<;>simp only[Vy]at h ⊢
 ·exact m _ h
 ·exact m _ h
theorem Zu.mono{t:T}{v:AV}{x:t.α}(m: ∀i,P i→Q i∧G[i]? =H[i]?)(h:Zu t P H v x):Zu t Q G v x:=by
 obtain⟨hp,cs,off,e,l,r,hm⟩:=h
 exact⟨sL(fun i hi=>(m i hi).1)hp,cs,off,by rw[mL m hp];exact e,l,t.mono m r,fun k hk=>hm k fun i hi=>hk i(m i hi).1⟩
def E1(j:Nat):AL→Prop
 | .cp k _=>k≠j
 | .oc k _ _ _=>k≠j
 | .own k=>k≠j
 | .ep k _ _=>k≠j
 | .kv k=>k≠j
 | .fnv _ js ks=>j∉js++ks
 | .aggk js=>j∉js
 | .tupk js=>j∉js
 |_=>True
def U5(rv rv':Nat→AV)(ss ss':Ss)(φ:AL):Prop:= ∀j,¬E1 j φ→Ba ss j→(Ba ss' j∧(D8(AG ss j)=true→D8(AG ss' j)=true))∧rv' j=rv j
theorem L6{ss:Ss}{j:Nat}(h:D8(AG ss j)=true):Ba ss j:=by
 simp only[Ba]
 cases e:AG ss j with
 |none=>rw[e]at h;cases h
 |some S=>rw[e]at h;cases S<;>simp only[D8,Bool.false_eq_true]at h<;>trivial
theorem JS{ss ss':Ss}{l:List Nat}(h:Ny ss l)(s: ∀j∈l,Ba ss j→(Ba ss' j∧(D8(AG ss j)=true→D8(AG ss' j)=true))∧rv' j=rv j):Ny ss' l∧l.map rv'=l.map rv∧(l.flatMap fun j=>cellsOf(rv' j))=l.flatMap fun j=>cellsOf(rv j):=by
 induction l with
 |nil=>exact⟨fun j hj=>(by cases hj),rfl,rfl⟩
 |cons k l ih=>
  obtain⟨h1,h2,h3⟩:=ih(fun j hj=>h j(List.mem_cons_of_mem _ hj))(fun j hj=>s j(List.mem_cons_of_mem _ hj))
  have hk:=h k List.mem_cons_self
  obtain⟨⟨_,a⟩,b⟩:=s k List.mem_cons_self(L6 hk)
  refine⟨fun j hj=> ?_,by simp only[List.map_cons,b,h2],by simp only[List.flatMap_cons,b,h3]⟩
  rcases List.mem_cons.1 hj with rfl|hj
  ·exact a hk
  ·exact h1 j hj
theorem FR.mono{φ:AL}{v:AV}(m: ∀i,P i→Q i∧G[i]? =H[i]?)(s:U5 rv rv' ss ss' φ)(h:FR rv ss P H φ v):FR rv' ss' Q G φ v:=by
 cases φ with
 |val t x=>exact T.V.mono m h
 |rp t x=>exact Zu.mono m h
 |cp j off=>
  obtain⟨l,id,e,hv⟩:=h
  obtain⟨⟨l',_⟩,e'⟩:=s j(by simp[E1])l
  exact⟨l',id,e'.trans e,hv⟩
 |oc j off sz len=>
  obtain⟨l,id,e,hv⟩:=h
  obtain⟨⟨l',_⟩,e'⟩:=s j(by simp[E1])l
  exact⟨l',id,e'.trans e,hv⟩
 |own j=>
  obtain⟨l,h⟩:=h
  obtain⟨⟨l',_⟩,e'⟩:=s j(by simp[E1])l
  exact⟨l',h.trans e'.symm⟩
 |ep j i off=>
  obtain⟨l,id,n,e,hi,hv⟩:=h
  obtain⟨⟨l',_⟩,e'⟩:=s j(by simp[E1])l
  exact⟨l',id,n,e'.trans e,hi,hv⟩
 |tup l=>
  obtain⟨vs,e,h⟩:=h
  exact⟨vs,e,h.mono m⟩
 |junk=>trivial
 |con c=>exact h
 |kv j=>
  obtain⟨h1,h2⟩:=h
  obtain⟨a,b,c⟩:=JS(rv:=rv)(rv':=rv')(ss':=ss')h1 fun k hk=>by
   obtain rfl:=List.mem_singleton.1 hk
   exact s k(by simp[E1])
  exact⟨a,h2.trans(by simpa using b.symm)⟩
 |fnv f js ks=>
  obtain⟨h1,h2⟩:=h
  obtain⟨a,b,c⟩:=JS(rv:=rv)(rv':=rv')(ss':=ss')h1 fun k hk=>s k(fun hn=>hn hk)
  have hj:js.map rv'=js.map rv∧ks.map rv'=ks.map rv:=by
   rw[List.map_append,List.map_append]at b
   exact List.append_inj b(by simp)
  exact⟨a,by rw[h2,hj.1,hj.2]⟩
 |aggk js=>
  obtain⟨h1,h2⟩:=h
  obtain⟨a,b,c⟩:=JS(rv:=rv)(rv':=rv')(ss':=ss')h1 fun k hk=>s k(fun hn=>hn hk)
  exact⟨a,by rw[h2,c]⟩
 |tupk js=>
  obtain⟨h1,h2⟩:=h
  obtain⟨a,b,c⟩:=JS(rv:=rv)(rv':=rv')(ss':=ss')h1 fun k hk=>s k(fun hn=>hn hk)
  exact⟨a,by rw[h2,b]⟩
theorem FC.mono{φ:AL}{c:List AV}(m: ∀i,P i→Q i∧G[i]? =H[i]?)(hl:H.length≤G.length)(s:U5 rv rv' ss ss' φ)(h:FC rv ss P H φ c):FC rv' ss' Q G φ c:=by
 cases φ with
 |val t x=>exact t.mono m h
 |rp t x=>obtain⟨v,e,h⟩:=h;exact⟨v,e,FR.mono m s h⟩
 |cp j off=>obtain⟨v,e,h⟩:=h;exact⟨v,e,FR.mono m s h⟩
 |oc j off sz len=>obtain⟨v,e,h⟩:=h;exact⟨v,e,FR.mono m s h⟩
 |own j=>obtain⟨v,e,h⟩:=h;exact⟨v,e,FR.mono m s h⟩
 |ep j i off=>obtain⟨v,e,h⟩:=h;exact⟨v,e,FR.mono m s h⟩
 |tup l=>exact h
 |junk=>exact Nat.le_trans h hl
 |con c=>obtain⟨v,e,h⟩:=h;exact⟨v,e,FR.mono m s h⟩
 |kv j=>obtain⟨v,e,h⟩:=h;exact⟨v,e,FR.mono m s h⟩
 |fnv f js ks=>obtain⟨v,e,h⟩:=h;exact⟨v,e,FR.mono m s h⟩
 |aggk js=>obtain⟨v,e,h⟩:=h;exact⟨v,e,FR.mono m s h⟩
 |tupk js=>obtain⟨v,e,h⟩:=h;exact⟨v,e,FR.mono m s h⟩
theorem PR.mono(m: ∀i,P i→Q i∧G[i]? =H[i]?)(hl:H.length≤G.length): ∀{ps:List(Nat×AL)}{cs:List AV},(∀p∈ps,U5 rv rv' ss ss' p.2)→PR rv ss P H ps cs→PR rv' ss' Q G ps cs
 |[],_,_,h=>h
 |(n,φ)::r,cs,s,⟨c,d,e,l,h,g⟩=>⟨c,d,e,l,FC.mono m hl(s _ List.mem_cons_self)h,PR.mono m hl(fun p hp=>s p(List.mem_cons_of_mem _ hp))g⟩
theorem VW.men{n:Nat}(hp: ∀i,P i→i<n): ∀{vs:List AV}{l:List(Σ t:T,t.α)},VW P H vs l→Bh vs≤n
 |[],[],_=>by simp[Bh]
 |_::_,_::_,h=>by simp only[Bh];have:=h.1.men hp;have:=VW.men hp h.2;omega
theorem iC(v:AV):Bh(cellsOf v)≤B9 v:=by
 cases v<;>simp[cellsOf,Bh,B9]
theorem Nx{n:Nat}(hi: ∀j,Ba ss j→B9(rv j)≤n): ∀{l:List Nat},Ny ss l→Bh(l.map rv)≤n∧Bh(l.flatMap fun j=>cellsOf(rv j))≤n
 |[],_=>by simp[Bh]
 |k::l,h=>by
  obtain⟨h1,h2⟩:=Nx hi(l:=l)fun j hj=>h j(List.mem_cons_of_mem _ hj)
  have h3:=hi k(L6(h k List.mem_cons_self))
  have h4:=iC(rv k)
  simp only[List.map_cons,Bh,List.flatMap_cons,Gy]
  omega
theorem FR.men{φ:AL}{v:AV}{n:Nat}(hp: ∀i,P i→i<n)(hi: ∀j,Ba ss j→B9(rv j)≤n)(hj:φ≠ .junk)(h:FR rv ss P H φ v):B9 v≤n:=by
 cases φ with
 |val t x=>exact T.V.men h hp
 |rp t x=>exact h.2.choose_spec.choose_spec.2.2.2 n hp
 |cp j off=>obtain⟨l,id,e,rfl⟩:=h;have:=hi j l;rw[e]at this;simpa [B9]using this
 |oc j off sz len=>obtain⟨l,id,e,rfl⟩:=h;have:=hi j l;rw[e]at this;simpa [B9]using this
 |own j=>obtain⟨l,rfl⟩:=h;exact hi j l
 |ep j i off=>obtain⟨l,id,m,e,_,rfl⟩:=h;have:=hi j l;rw[e]at this;simpa [B9]using this
 |tup l=>obtain⟨vs,rfl,h⟩:=h;simpa [B9]using h.men hp
 |junk=>exact absurd rfl hj
 |con c=>obtain⟨rfl,h,_⟩:=h;omega
 |kv j=>obtain⟨h,rfl⟩:=h;exact hi j(L6(h j(by simp)))
 |fnv f js ks=>
  obtain⟨h,rfl⟩:=h
  have h1:=(Nx hi(l:=js)fun j hj=>h j(by simp[hj])).1
  have h2:=(Nx hi(l:=ks)fun j hj=>h j(by simp[hj])).1
  simp only[B9];omega
 |aggk js=>obtain⟨h,rfl⟩:=h;simpa [B9]using(Nx hi h).2
 |tupk js=>obtain⟨h,rfl⟩:=h;simpa [B9]using(Nx hi h).1
theorem FC.men{φ:AL}{c:List AV}(hp: ∀i,P i→i<H.length)(hi: ∀j,Ba ss j→B9(rv j)≤H.length)(h:FC rv ss P H φ c):Bh c≤H.length:=by
 have one: ∀{ψ:AL},ψ≠ .junk→(∃v,c=[v]∧FR rv ss P H ψ v)→Bh c≤H.length:=by
  rintro ψ hj⟨v,rfl,h'⟩
  simpa [Bh]using FR.men hp hi hj h'
 cases φ with
 |val t x=>exact t.men h hp
 |tup l=>exact h.elim
 |junk=>exact h
 |rp t x=>exact one(by simp)h
 |cp j off=>exact one(by simp)h
 |oc j off sz len=>exact one(by simp)h
 |own j=>exact one(by simp)h
 |ep j i off=>exact one(by simp)h
 |con c=>exact one(by simp)h
 |kv j=>exact one(by simp)h
 |fnv f js ks=>exact one(by simp)h
 |aggk js=>exact one(by simp)h
 |tupk js=>exact one(by simp)h
theorem PR.men(hp: ∀i,P i→i<H.length)(hi: ∀j,Ba ss j→B9(rv j)≤H.length): ∀{ps:List(Nat×AL)}{cs:List AV},PR rv ss P H ps cs→Bh cs≤H.length
 |[],_,h=>by rw[show _=[]from h];simp[Bh]
 |(n,φ)::r,cs,⟨c,d,e,l,h,g⟩=>by
  rw[e,Gy]
  have:=FC.men hp hi h
  have:=PR.men hp hi g
  omega
def UB:List(Nat×AL)→Nat
 |[]=>0
 |(n,_)::r=>n+UB r
theorem PR.length: ∀{ps:List(Nat×AL)}{cs:List AV},PR rv ss P H ps cs→cs.length=UB ps
 |[],_,h=>by rw[show _=[]from h];rfl
 |(n,φ)::r,cs,⟨c,d,e,l,h,g⟩=>by rw[e,List.length_append,l,PR.length g];rfl
theorem SR.keep{k:Nat}{S:Db}(h:SR rv fp ss P H k S)(hrv:rv' k=rv k)(hfp:fp' k=fp k)(m: ∀i,P i→Q i∧G[i]? =H[i]?)(hl:H.length≤G.length)
  (hg: ∀i,fp k i→G[i]? =H[i]?)(hs: ∀ps,S= .cells ps→ ∀p∈ps,U5 rv rv' ss ss' p.2)(hsk: ∀φ,S= .keep φ→U5 rv rv' ss ss' φ)(hse: ∀sz els,S= .rowk sz els→U5 rv rv' ss ss'(.aggk els.flatten)):SR rv' fp' ss' Q G k S:=by
 cases S with
 |rowk sz els=>
  obtain⟨h0,id,h1,h2,h3⟩:=h
  have hs:=hse sz els rfl
  have h4:=(JS(rv:=rv)(rv':=rv')(ss':=ss')h0 fun j hj=>hs j(fun hn=>hn hj)).1
  have h5:(els.map fun js=>js.flatMap fun j=>cellsOf(rv' j))=els.map fun js=>js.flatMap fun j=>cellsOf(rv j):=by
   apply List.map_congr_left
   intro js hjs
   exact(JS(rv:=rv)(rv':=rv')(ss':=ss')(fun j hj=>h0 j(List.mem_flatten.2⟨js,hjs,hj⟩))fun j hj=>hs j(fun hn=>hn(List.mem_flatten.2⟨js,hjs,hj⟩))).2.2
  exact⟨h4,id,hrv.trans h1,by rw[hfp];exact h2,by rw[h5,NS(hg id((h2 id).2 rfl))];exact h3⟩
 |gone=>trivial
 |ghost φ=>trivial
 |keep φ=>
  obtain⟨h1,h2⟩:=h
  exact⟨by rw[hrv];exact FR.mono m(hsk φ rfl)h1,by rw[hfp];exact h2⟩
 |cells ps=>
  obtain⟨id,cs,h1,h0,h2,h3⟩:=h
  exact⟨id,cs,hrv.trans h1,by rw[hfp];exact h0,by rw[O0(hg id((h0 id).2 rfl))];exact h2,h3.mono m hl(hs ps rfl)⟩
 |row t g=>
  cases g with
  |nil=>exact⟨hrv.trans h.1,by rw[hfp];exact h.2⟩
  |mk l=>
   obtain⟨id,els,h1,h0,h2,h3⟩:=h
   exact⟨id,els,hrv.trans h1,by rw[hfp];exact h0,by rw[NS(hg id((h0 id).2 rfl))];exact h2,h3.mono m⟩
 |dom D x=>
  show D.R _ _ _ _ _
  rw[hrv,hfp]
  exact D.mono m hg h
end
def Cx.push(Γ:Cx)(d:Nat)(φ:AL):Cx:=⟨(d,φ)::Γ.ts,Γ.ss⟩
def Cx.all(Γ:Cx)(p:AL→Prop):Prop:=(∀t φ,BD Γ.ts t=some φ→p φ)∧(∀k ps,AG Γ.ss k=some(.cells ps)→ ∀q∈ps,p q.2)∧(∀k φ,(AG Γ.ss k=some(.keep φ)∨AG Γ.ss k=some(.ghost φ))→p φ)∧ ∀k sz els,AG Γ.ss k=some(.rowk sz els)→p(.aggk els.flatten)
theorem Ua{ss:Ss}{j k:Nat}{S:Db}(hk:k≠j):Ba((j,S)::ss)k↔Ba ss k:=by simp only[Ba,AG,if_neg(Ne.symm hk)]
def Rf:Db→Bool
 | .gone=>true
 | .ghost _=>true
 |_=>false
theorem tD{ss:Ss}{j:Nat}{S:Db}(hS:Rf S=false):Ba((j,S)::ss)j:=by
 simp only[Ba,AG,if_true]
 cases S<;>first|(simp[Rf]at hS;done)|trivial
theorem Lh{ss:Ss}{j:Nat}{S:Db}(h:AG ss j=some S)(hS:Rf S=false):Ba ss j:=by
 simp only[Ba,h]
 cases S<;>first|(simp[Rf]at hS;done)|trivial
theorem H7{ss:Ss}{j:Nat}(h:AG ss j=none): ¬Ba ss j:=by simp only[Ba,h];exact fun l=>l
theorem Qq(a b:Av):CE(a++b)=max(CE a)(CE b):=by
 induction a with
 |nil=>simp[CE]
 |cons x a ih=>simp only[List.cons_append,CE,ih];omega
theorem H6{o:BH}{m:Nat}: ∀{l:Av}{i:Nat},CE l≤m→En o≤m→CE(l.set i o)≤m
 |[],i,h1,h2=>by simpa using h1
 |x::l,0,h1,h2=>by simp only[List.set_cons_zero,CE]at h1 ⊢;omega
 |x::l,i+1,h1,h2=>by
  simp only[List.set_cons_succ,CE]at h1 ⊢
  have:=H6(l:=l)(i:=i)(o:=o)(m:=m)(by omega)h2
  omega
section
variable {E:Pr}{Γ:Cx}{rv:Nat→AV}{fp:Fp}{f:Fr}{H:Av}
theorem Bp.ltP(I:Bp E Γ rv fp f H): ∀i,Pf E Γ.ss fp H i→i<H.length:=fun _ h=>h.lt I.le
theorem Bp.push(I:Bp E Γ rv fp f H){d:Nat}{φ:AL}{v:AV}(h:FR rv Γ.ss(Pf E Γ.ss fp H)H φ v):Bp E(Γ.push d φ)rv fp(put f(some d)v)H:=by
 refine⟨I.le,I.base,I.wf,I.fplt,I.rvlt,I.scal,I.inj,I.slots,?_,I.gh⟩
 intro t ψ e
 simp only[Cx.push,BD]at e
 simp only[put,get]
 split at e
 ·rename_i hd
  rw[if_pos hd]
  cases e
  exact h
 ·rename_i hd
  rw[if_neg hd]
  exact I.temps t ψ e
theorem Bp.fr(I:Bp E Γ rv fp f H){f':Fr}(h: ∀t φ,BD Γ.ts t=some φ→get f' t=get f t):Bp E Γ rv fp f' H:=
 ⟨I.le,I.base,I.wf,I.fplt,I.rvlt,I.scal,I.inj,I.slots,fun t φ e=>by rw[h t φ e];exact I.temps t φ e,I.gh⟩
theorem Bp.chg(I:Bp E Γ rv fp f H){j:Nat}{S:Db}{v:AV}{F:Nat→Prop}{G:Av}(hnk:D8(AG Γ.ss j)=false)(hS:Rf S=false)(hl:H.length≤G.length)(hG: ∀i,i<H.length→(Ba Γ.ss j→ ¬fp j i)→G[i]? =H[i]?)
  (hF: ∀i,F i→(Ba Γ.ss j∧fp j i)∨(H.length≤i∧i<G.length))(hk:Ba Γ.ss j→v=rv j∨Γ.all(E1 j))(hw:CE G≤G.length)(hv:B9 v≤G.length)(hsc:D8(some S)=true∨Am.scal v=true)
  (hs: ∀(rv':Nat→AV)(fp':Fp),rv' j=v→fp' j=F→(∀i,Pf E Γ.ss fp H i→Pf E((j,S)::Γ.ss)fp' G i∧G[i]? =H[i]?)→(∀φ,(Ba Γ.ss j→v=rv j∨E1 j φ)→U5 rv rv' Γ.ss((j,S)::Γ.ss)φ)→
   SR rv' fp'((j,S)::Γ.ss)(Pf E((j,S)::Γ.ss)fp' G)G j S):
  ∃rv' fp',rv' j=v∧Ba((j,S)::Γ.ss)j∧Bp E⟨Γ.ts,(j,S)::Γ.ss⟩rv' fp' f G:=by
 let rv':Nat→AV:=fun k=>if k=j then v else rv k
 let fp':Fp:=fun k=>if k=j then F else fp k
 have hrj:rv' j=v:=if_pos rfl
 have hfj:fp' j=F:=if_pos rfl
 have hr: ∀k,k≠j→rv' k=rv k:=fun k hk=>if_neg hk
 have hf: ∀k,k≠j→fp' k=fp k:=fun k hk=>if_neg hk
 have hlj:Ba((j,S)::Γ.ss)j:=tD hS
 have hlv: ∀k,k≠j→(Ba((j,S)::Γ.ss)k↔Ba Γ.ss k):=fun k hk=>Ua hk
 have hnot: ∀i,Pf E Γ.ss fp H i→Ba Γ.ss j→ ¬fp j i:=by
  rintro i(⟨h1,h2⟩|⟨_,_,h⟩)l e
  ·exact((I.fplt j i l e).2 h1).1(E.pk i h2)
  ·exact h j l e
 have hP: ∀i,Pf E Γ.ss fp H i→Pf E((j,S)::Γ.ss)fp' G i∧G[i]? =H[i]? :=by
  intro i h
  refine⟨?_,hG i(h.lt I.le)(hnot i h)⟩
  rcases h with h|⟨h1,h2,h3⟩
  ·exact .inl h
  ·refine .inr⟨h1,by omega,fun k l e=> ?_⟩
   by_cases hkj:k=j
   ·subst hkj
    rw[hfj]at e
    rcases hF i e with⟨l',e'⟩|⟨h4,_⟩
    ·exact h3 k l' e'
    ·omega
   ·rw[hf k hkj]at e
    exact h3 k((hlv k hkj).1 l)e
 have hsame: ∀φ,(Ba Γ.ss j→v=rv j∨E1 j φ)→U5 rv rv' Γ.ss((j,S)::Γ.ss)φ:=by
  intro φ hφ k hkr l
  by_cases hkj:k=j
  ·subst hkj
   rcases hφ l with h|h
   ·exact⟨⟨hlj,fun e=>by rw[hnk]at e;cases e⟩,hrj.trans h⟩
   ·exact absurd h hkr
  ·exact⟨⟨(hlv k hkj).2 l,fun e=>by simp only[AG,if_neg(Ne.symm hkj)];exact e⟩,hr k hkj⟩
 refine⟨rv',fp',hrj,hlj,?_,?_,hw,?_,?_,?_,?_,?_,?_,?_⟩
 ·have:=I.le;omega
 ·intro i hi hK
  have hnf:Ba Γ.ss j→ ¬fp j i:=fun l e=>((I.fplt j i l e).2 hi).1 hK
  rw[hG i(by have:=I.le;omega)hnf];exact I.base i hi hK
 ·intro k i l e
  by_cases hkj:k=j
  ·subst hkj
   rw[hfj]at e
   rcases hF i e with⟨l',e'⟩|⟨h1,h2⟩
   ·have:=I.fplt k i l' e'
    exact⟨by omega,this.2⟩
   ·exact⟨h2,fun h=>absurd h(by have:=I.le;omega)⟩
  ·rw[hf k hkj]at e
   have:=I.fplt k i((hlv k hkj).1 l)e
   exact⟨by omega,this.2⟩
 ·intro k l
  by_cases hkj:k=j
  ·subst hkj;rw[hrj];exact hv
  ·rw[hr k hkj];have:=I.rvlt k((hlv k hkj).1 l);omega
 ·intro k l
  by_cases hkj:k=j
  ·subst hkj;rw[hrj];exact hsc.imp(fun h=>by simp only[AG,if_true];exact h)id
  ·rw[hr k hkj];exact(I.scal k((hlv k hkj).1 l)).imp(fun h=>by simp only[AG,if_neg(Ne.symm hkj)];exact h)id
 ·intro k k' i l l' e e'
  by_cases hkj:k=j<;>by_cases hkj':k'=j
  ·rw[hkj,hkj']
  ·subst hkj
   rw[hfj]at e
   rw[hf k' hkj']at e'
   rcases hF i e with⟨l1,e1⟩|⟨h1,_⟩
   ·exact I.inj k k' i l1((hlv k' hkj').1 l')e1 e'
   ·have:=(I.fplt k' i((hlv k' hkj').1 l')e').1;omega
  ·subst hkj'
   rw[hfj]at e'
   rw[hf k hkj]at e
   rcases hF i e' with⟨l1,e1⟩|⟨h1,_⟩
   ·exact I.inj k k' i((hlv k hkj).1 l)l1 e e1
   ·have:=(I.fplt k i((hlv k hkj).1 l)e).1;omega
  ·rw[hf k hkj]at e
   rw[hf k' hkj']at e'
   exact I.inj k k' i((hlv k hkj).1 l)((hlv k' hkj').1 l')e e'
 ·intro k S' e
  rw[AG]at e
  split at e
  ·rename_i hkj
   cases e
   subst hkj
   exact hs rv' fp' hrj hfj hP hsame
  ·rename_i hkj
   by_cases hg:Rf S'=true
   ·cases S'<;>first|trivial|(simp[Rf]at hg;done)
   ·have hlk:=Lh e(by simpa using hg)
    refine(I.slots k S' e).keep(hr k(Ne.symm hkj))(hf k(Ne.symm hkj))hP hl(fun i hi=>hG i(I.fplt k i hlk hi).1 fun l e'=>hkj(I.inj j k i l hlk e' hi))(fun ps hps p hp=>hsame p.2 fun l=> ?_)(fun φ hφ=>hsame φ fun l=> ?_)fun sz els he=>hsame _ fun l=> ?_
    ·subst hps
     exact(hk l).imp(fun h=>h)fun h=>h.2.1 k ps e p hp
    ·subst hφ
     exact(hk l).imp(fun h=>h)fun h=>h.2.2.1 k φ(.inl e)
    ·subst he
     exact(hk l).imp(fun h=>h)fun h=>h.2.2.2 k sz els e
 ·intro t φ e
  exact(I.temps t φ e).mono hP(hsame φ fun l=>(hk l).imp(fun h=>h)fun h=>h.1 t φ e)
 ·intro k φ e
  rw[AG]at e
  split at e
  ·rename_i hkj
   cases e
   simp[Rf]at hS
  ·exact(I.gh k φ e).mono hP(hsame φ fun l=>(hk l).imp(fun h=>h)fun h=>h.2.2.1 k φ(.inr e))
theorem Bp.more(I:Bp E Γ rv fp f H){j:Nat}{S:Db}{v:AV}{o:BH}(hj: ¬Ba Γ.ss j)(hm:En o≤H.length+1)(hS:Rf S=false)(hv:B9 v≤H.length+1)(hsc:Am.scal v=true)
  (hr: ∀(rv':Nat→AV)(fp':Fp),rv' j=v→(∀i,fp' j i↔i=H.length)→(∀i,Pf E Γ.ss fp H i→Pf E((j,S)::Γ.ss)fp'(H++[o])i∧(H++[o])[i]? =H[i]?)→
   (∀φ,U5 rv rv' Γ.ss((j,S)::Γ.ss)φ)→SR rv' fp'((j,S)::Γ.ss)(Pf E((j,S)::Γ.ss)fp'(H++[o]))(H++[o])j S):
  ∃rv' fp',rv' j=v∧Ba((j,S)::Γ.ss)j∧Bp E⟨Γ.ts,(j,S)::Γ.ss⟩rv' fp' f(H++[o]):=
 I.chg(F:=fun i=>i=H.length)(by
   cases e:D8(AG Γ.ss j)with
   |false=>rfl
   |true=>exact absurd(L6 e)hj)hS(by simp)(fun i hi _=>List.getElem?_append_left hi)(fun i hi=> .inr⟨by omega,by simp;omega⟩)(fun l=>absurd l hj)
  (by rw[Qq];have:=I.wf;simp only[CE,List.length_append,List.length_cons,List.length_nil];omega)(by simpa using hv)(.inr hsc)
  fun rv' fp' h1 h2 hP hs=>hr rv' fp' h1(fun i=>by rw[h2])hP fun φ=>hs φ fun l=>absurd l hj
theorem Bp.set(I:Bp E Γ rv fp f H){j id:Nat}{S:Db}{v:AV}{o:BH}(hnk:D8(AG Γ.ss j)=false)(hl:Ba Γ.ss j)(hid: ∀i,fp j i↔i=id)(hm:En o≤H.length)(hS:Rf S=false)(hv:B9 v≤H.length)(hk:v=rv j∨Γ.all(E1 j))
  (hsc:D8(AG Γ.ss j)=true∨Am.scal v=true)
  (hs: ∀(rv':Nat→AV)(fp':Fp),rv' j=v→(∀i,fp' j i↔i=id)→(∀i,Pf E Γ.ss fp H i→Pf E((j,S)::Γ.ss)fp'(H.set id o)i∧(H.set id o)[i]? =H[i]?)→
   (∀φ,v=rv j∨E1 j φ→U5 rv rv' Γ.ss((j,S)::Γ.ss)φ)→SR rv' fp'((j,S)::Γ.ss)(Pf E((j,S)::Γ.ss)fp'(H.set id o))(H.set id o)j S):
  ∃rv' fp',rv' j=v∧Ba((j,S)::Γ.ss)j∧Bp E⟨Γ.ts,(j,S)::Γ.ss⟩rv' fp' f(H.set id o):=
 I.chg(F:=fp j)hnk hS(by simp)(fun i _ hn=>List.getElem?_set_ne fun e=>hn hl((hid i).2 e.symm))(fun i hi=> .inl⟨hl,hi⟩)(fun _=>hk)(by simpa using H6 I.wf hm)(by simpa using hv)(hsc.elim(fun h=>by rw[hnk]at h;cases h) .inr)
  fun rv' fp' h1 h2 hP hs'=>hs rv' fp' h1(fun i=>by rw[h2];exact hid i)hP fun φ h=>hs' φ fun _=>h
end
end Go.Proofs.YtobejhpigbllpaaGreatDoor.Am
namespace Go.Proofs.YtobejhpigbllpaaGreatDoor.Am
def SB(F:AL→AL):Db→Db
 | .cells ps=> .cells(ps.map fun p=>(p.1,F p.2))
 | .keep φ=> .keep(F φ)
 | .ghost φ=> .ghost(F φ)
 |s=>s
theorem Uc{F:AL→AL}(o:Option Db):D8(o.map(SB F))=D8 o:=by
 cases o with
 |none=>rfl
 |some S=>cases S<;>rfl
theorem Un{F:AL→AL}: ∀{ts:Ts}{t:Nat},BD(ts.map fun p=>(p.1,F p.2))t=(BD ts t).map F
 |[],_=>rfl
 |(u,φ)::r,t=>by
  simp only[List.map_cons,BD]
  split
  ·rfl
  ·exact Un
theorem GT{F:AL→AL}: ∀{ss:Ss}{j:Nat},AG(ss.map fun p=>(p.1,SB F p.2))j=(AG ss j).map(SB F)
 |[],_=>rfl
 |(u,φ)::r,t=>by
  simp only[List.map_cons,AG]
  split
  ·rfl
  ·exact GT
theorem SC{F:AL→AL}{ss:Ss}{j:Nat}:Ba(ss.map fun p=>(p.1,SB F p.2))j↔Ba ss j:=by
 simp only[Ba,GT]
 cases AG ss j with
 |none=>exact Iff.rfl
 |some S=>cases S<;>exact Iff.rfl
theorem PR.map{rv rv':Nat→AV}{ss ss':Ss}{P Q:Nat→Prop}{H:Av}{F:AL→AL}: ∀{ps:List(Nat×AL)}{cs:List AV},(∀p∈ps,∀c,FC rv ss P H p.2 c→FC rv' ss' Q H(F p.2)c)→PR rv ss P H ps cs→
  PR rv' ss' Q H(ps.map fun p=>(p.1,F p.2))cs
 |[],_,_,h=>h
 |(n,φ)::r,cs,s,⟨c,d,e,l,h,g⟩=>⟨c,d,e,l,s _ List.mem_cons_self c h,PR.map(fun p hp=>s p(List.mem_cons_of_mem _ hp))g⟩
section
variable {E:Pr}{Γ:Cx}{rv:Nat→AV}{fp:Fp}{f:Fr}{H:Av}
theorem Pf.same{ss ss':Ss}(h: ∀k,Ba ss' k→Ba ss k){i:Nat}:Pf E ss fp H i→Pf E ss' fp H i
 | .inl h=> .inl h
 | .inr⟨h1,h2,h3⟩=> .inr⟨h1,h2,fun j l=>h3 j(h j l)⟩
theorem Bp.map(I:Bp E Γ rv fp f H){F:AL→AL}{ss':Ss}(hf: ∀k S,AG ss' k=some S→S≠ .gone→ ∃S0,AG Γ.ss k=some S0∧S=SB F S0)(hag: ∀l,F(.aggk l)= .aggk l)
  (hFR:(∀i,Pf E Γ.ss fp H i→Pf E ss' fp H i)→ ∀φ v,FR rv Γ.ss(Pf E Γ.ss fp H)H φ v→FR rv ss'(Pf E ss' fp H)H(F φ)v)
  (hFC:(∀i,Pf E Γ.ss fp H i→Pf E ss' fp H i)→ ∀φ c,FC rv Γ.ss(Pf E Γ.ss fp H)H φ c→FC rv ss'(Pf E ss' fp H)H(F φ)c):Bp E⟨Γ.ts.map fun p=>(p.1,F p.2),ss'⟩rv fp f H:=by
 have hlv: ∀k,Ba ss' k→Ba Γ.ss k:=by
  intro k l
  simp only[Ba]at l
  cases h:AG ss' k with
  |none=>rw[h]at l;exact l.elim
  |some S=>
   rw[h]at l
   have hg:S≠ .gone:=by rintro rfl;exact l
   obtain⟨S0,h0,rfl⟩:=hf k S h hg
   exact Lh h0(by cases S0<;>first|rfl|exact l.elim)
 have hP: ∀i,Pf E Γ.ss fp H i→Pf E ss' fp H i:=fun i=>Pf.same hlv
 refine⟨I.le,I.base,I.wf,fun k i l e=>I.fplt k i(hlv k l)e,fun k l=>I.rvlt k(hlv k l),fun k l=>(I.scal k(hlv k l)).imp(fun h=> ?_)id,fun k k' i l l' e e'=>I.inj k k' i(hlv k l)(hlv k' l')e e',?_,?_,?_⟩
 ·simp only[Ba]at l
  cases e:AG ss' k with
  |none=>rw[e]at l;exact l.elim
  |some S=>
   rw[e]at l
   obtain⟨S0,h0,rfl⟩:=hf k S e(by rintro rfl;exact l)
   rw[h0]at h
   cases S0<;>first|rfl|exact h
 ·intro k S e
  by_cases hg:S= .gone
  ·subst hg;trivial
  ·obtain⟨S0,h0,rfl⟩:=hf k S e hg
   have h:=I.slots k S0 h0
   cases S0 with
   |gone=>trivial
   |cells ps=>
    obtain⟨id,cs,h1,h2,h3,h4⟩:=h
    exact⟨id,cs,h1,h2,h3,h4.map fun p _ c=>hFC hP p.2 c⟩
   |row t g=>
    cases g with
    |nil=>exact h
    |mk l=>
     obtain⟨id,els,h1,h2,h3,h4⟩:=h
     exact⟨id,els,h1,h2,h3,h4.mono fun i hi=>⟨hP i hi,rfl⟩⟩
   |dom D x=>exact D.mono(fun i hi=>⟨hP i hi,rfl⟩)(fun _ _=>rfl)h
   |keep φ=>
    obtain⟨h1,h2⟩:=h
    exact⟨hFR hP φ _ h1,h2⟩
   |ghost φ=>trivial
   |rowk sz els=>
    obtain⟨g0,id,g1,g2,g3⟩:=h
    have:=hFR hP(.aggk els.flatten)_⟨g0,rfl⟩
    rw[hag]at this
    exact⟨this.1,id,g1,g2,g3⟩
 ·intro t φ e
  simp only[Un]at e
  obtain⟨ψ,h,rfl⟩:=Option.map_eq_some_iff.1 e
  exact hFR hP ψ _(I.temps t ψ h)
 ·intro k φ e
  obtain⟨S0,h0,e'⟩:=hf k _ e(by simp)
  cases S0<;>simp only[SB,Db.ghost.injEq,reduceCtorEq]at e'
  subst e'
  exact hFR hP _ _(I.gh k _ h0)
theorem FR.weak{ss ss':Ss}{P Q:Nat→Prop}{φ:AL}{v:AV}(hP: ∀i,P i→Q i)(hl: ∀j,¬E1 j φ→Ba ss j→Ba ss' j∧(D8(AG ss j)=true→D8(AG ss' j)=true))(h:FR rv ss P H φ v):FR rv ss' Q H φ v:=
 h.mono(fun i hi=>⟨hP i hi,rfl⟩)fun j hj l=>⟨hl j hj l,rfl⟩
theorem FC.weak{ss ss':Ss}{P Q:Nat→Prop}{φ:AL}{c:List AV}(hP: ∀i,P i→Q i)(hl: ∀j,¬E1 j φ→Ba ss j→Ba ss' j∧(D8(AG ss j)=true→D8(AG ss' j)=true))(h:FC rv ss P H φ c):FC rv ss' Q H φ c:=
 h.mono(fun i hi=>⟨hP i hi,rfl⟩)(Nat.le_refl _)fun j hj l=>⟨hl j hj l,rfl⟩
def Pt(j:Nat)(F:AL→AL):AL→AL
 | .own k=>if k=j then F(.own k)else .own k
 | .ep k i o=>if k=j then F(.ep k i o)else .ep k i o
 | .cp k o=>if k=j then F(.cp k o)else .cp k o
 | .oc k o s n=>if k=j then F(.oc k o s n)else .oc k o s n
 |φ=>φ
def NY(j:Nat):AL→Prop
 | .kv k=>k≠j
 | .fnv _ js ks=>j∉js++ks
 | .aggk js=>j∉js
 | .tupk js=>j∉js
 |_=>True
theorem FR.noKeep{rv:Nat→AV}{ss:Ss}{P:Nat→Prop}{H:Av}{φ:AL}{v:AV}{j:Nat}(hj:D8(AG ss j)=false)(h:FR rv ss P H φ v):NY j φ:=by
 have no: ∀{l:List Nat},Ny ss l→j∉l:=fun h hm=>by have:=h j hm;rw[hj]at this;cases this
 cases φ<;>try exact trivial
 ·exact fun e=>no h.1(by simp[e])
 ·exact no h.1
 ·exact no h.1
 ·exact no h.1
theorem Ps{j:Nat}{F:AL→AL}{φ:AL}(h:E1 j φ):Pt j F φ=φ:=by
 cases φ<;>simp only[E1]at h<;>simp only[Pt]<;>first|rfl|(rw[if_neg h])
theorem Na{j:Nat}{F:AL→AL}{φ:AL}(hk:NY j φ)(h: ¬E1 j φ):Pt j F φ=F φ:=by
 cases φ<;>first
  |(simp only[E1,not_true_eq_false,ne_eq,Decidable.not_not]at h;simp only[Pt,if_pos h];done)
  |exact absurd hk h
  |exact absurd trivial h
def Cx.kill(Γ:Cx)(j:Nat):Cx:=⟨Γ.ts.map fun p=>(p.1,Pt j(fun _=> .junk)p.2),Γ.ss.map fun p=>(p.1,SB(Pt j fun _=> .junk)p.2)⟩
theorem NH(j:Nat)(φ:AL)(hk:NY j φ):E1 j(Pt j(fun _=> .junk)φ):=by
 by_cases h:E1 j φ
 ·rw[Ps h];exact h
 ·rw[Na hk h];trivial
theorem Bp.noKeepT(I:Bp E Γ rv fp f H){j:Nat}(hj:D8(AG Γ.ss j)=false):Γ.all(NY j):=by
 refine⟨fun t φ e=>FR.noKeep hj(I.temps t φ e),fun k ps e p hp=> ?_,fun k φ e=> ?_,fun k sz els e=> ?_⟩
 ·obtain⟨id,cs,_,_,_,h⟩:=I.slots k _ e
  have key: ∀{ps:List(Nat×AL)}{cs:List AV},PR rv Γ.ss(Pf E Γ.ss fp H)H ps cs→ ∀p∈ps,NY j p.2:=by
   intro ps
   induction ps with
   |nil=>intro cs _ p hp;cases hp
   |cons q ps ih=>
    rintro cs⟨c,d,_,_,h1,h2⟩p hp
    rcases List.mem_cons.1 hp with rfl|hp
    ·obtain⟨n,φ⟩:=p
     cases φ<;>first|trivial|exact h1.elim|(obtain⟨v,_,h1⟩:=h1;exact FR.noKeep hj h1)
    ·exact ih h2 p hp
  exact key h p hp
 ·rcases e with e|e
  ·exact FR.noKeep hj(I.slots k _ e).1
  ·exact FR.noKeep hj(I.gh k φ e)
 ·have h0:=(I.slots k _ e).1
  exact fun hm=>by have:=h0 j hm;rw[hj]at this;cases this
theorem lU(I:Bp E Γ rv fp f H){j:Nat}(hj:D8(AG Γ.ss j)=false):(Γ.kill j).all(E1 j):=by
 have hn:=I.noKeepT hj
 refine⟨fun t φ e=> ?_,fun k ps e p hp=> ?_,fun k φ e=> ?_,fun k sz els e=> ?_⟩
 ·simp only[Cx.kill,Un]at e
  obtain⟨ψ,h,rfl⟩:=Option.map_eq_some_iff.1 e
  exact NH j ψ(hn.1 t ψ h)
 ·simp only[Cx.kill,GT]at e
  obtain⟨S,h,e⟩:=Option.map_eq_some_iff.1 e
  cases S<;>simp only[SB,Db.cells.injEq,reduceCtorEq]at e
  subst e
  obtain⟨q,hq,rfl⟩:=List.mem_map.1 hp
  exact NH j q.2(hn.2.1 k _ h q hq)
 ·simp only[Cx.kill,GT]at e
  rcases e with e|e
  ·obtain⟨S,h,e⟩:=Option.map_eq_some_iff.1 e
   cases S<;>simp only[SB,Db.keep.injEq,reduceCtorEq]at e
   subst e
   exact NH j _(hn.2.2.1 k _(.inl h))
  ·obtain⟨S,h,e⟩:=Option.map_eq_some_iff.1 e
   cases S<;>simp only[SB,Db.ghost.injEq,reduceCtorEq]at e
   subst e
   exact NH j _(hn.2.2.1 k _(.inr h))
 ·simp only[Cx.kill,GT]at e
  obtain⟨S,h,e⟩:=Option.map_eq_some_iff.1 e
  cases S<;>simp only[SB,Db.rowk.injEq,reduceCtorEq]at e
  obtain⟨rfl,rfl⟩:=e
  exact hn.2.2.2 k _ _ h
theorem Bp.kill(I:Bp E Γ rv fp f H)(j:Nat)(hj:D8(AG Γ.ss j)=false):Bp E(Γ.kill j)rv fp f H:=by
 have hl: ∀k,Ba Γ.ss k→Ba(Γ.kill j).ss k∧(D8(AG Γ.ss k)=true→D8(AG(Γ.kill j).ss k)=true):=fun k h=>⟨SC.2 h,fun e=>by rw[Cx.kill];simp only[GT,Uc];exact e⟩
 refine I.map(F:=Pt j fun _=> .junk)(fun k S e _=> ?_)(fun l=> ?_)(fun hP φ v h=> ?_)(fun hP φ c h=> ?_)
 ·rw[GT]at e
  obtain⟨S0,h0,rfl⟩:=Option.map_eq_some_iff.1 e
  exact⟨S0,h0,rfl⟩
 ·rfl
 ·by_cases hk:E1 j φ
  ·rw[Ps hk];exact h.weak hP fun k _=>hl k
  ·rw[Na(FR.noKeep hj h)hk];trivial
 ·by_cases hk:E1 j φ
  ·rw[Ps hk];exact h.weak hP fun k _=>hl k
  ·have hk':NY j φ:=by
    cases φ<;>first|trivial|exact h.elim|(obtain⟨v,_,h⟩:=h;exact FR.noKeep hj h)
   rw[Na hk' hk]
   exact FC.men I.ltP I.rvlt h
def Cx.turn(Γ:Cx)(j:Nat)(F:AL→AL):Cx:=⟨Γ.ts.map fun p=>(p.1,Pt j F p.2),(j, .gone)::Γ.ss.map fun p=>(p.1,SB(Pt j F)p.2)⟩
theorem Pf.gone(I:Bp E Γ rv fp f H){j id:Nat}(hl:Ba Γ.ss j)(hid:fp j id){ss':Ss}(h: ∀k,Ba ss' k→k≠j∧Ba Γ.ss k)(hn:E.h.length≤id):Pf E ss' fp H id:=
 .inr⟨hn,(I.fplt j id hl hid).1,fun k l e=>(h k l).1(I.inj k j id(h k l).2 hl e hid)⟩
theorem Qt{F:AL→AL}{ss:Ss}{j:Nat}: ∀k,Ba((j, .gone)::ss.map fun p=>(p.1,SB F p.2))k↔k≠j∧Ba ss k:=by
 intro k
 by_cases hk:k=j
 ·subst hk
  simp only[Ba,AG,if_true,yN,false_iff]
  exact fun h=>h.1 rfl
 ·rw[Ua hk,SC]
  exact⟨fun h=>⟨hk,h⟩,fun h=>h.2⟩
theorem tW{F:AL→AL}{ss:Ss}{j k:Nat}(hk:k≠j)(h:D8(AG ss k)=true):D8(AG((j, .gone)::ss.map fun p=>(p.1,SB F p.2))k)=true:=by
 simp only[AG,if_neg(Ne.symm hk),GT,Uc];exact h
theorem Bp.turn(I:Bp E Γ rv fp f H){j:Nat}{F:AL→AL}(hj:D8(AG Γ.ss j)=false)
  (hF:(∀i,Pf E Γ.ss fp H i→Pf E(Γ.turn j F).ss fp H i)→ ∀φ v,¬E1 j φ→FR rv Γ.ss(Pf E Γ.ss fp H)H φ v→FR rv(Γ.turn j F).ss(Pf E(Γ.turn j F).ss fp H)H(F φ)v∧FC rv(Γ.turn j F).ss(Pf E(Γ.turn j F).ss fp H)H(F φ) [v]):
  Bp E(Γ.turn j F)rv fp f H:=by
 have hlv: ∀k,Ba(Γ.turn j F).ss k↔k≠j∧Ba Γ.ss k:=Qt
 have keep: ∀φ,E1 j φ→ ∀k,¬E1 k φ→Ba Γ.ss k→Ba(Γ.turn j F).ss k∧(D8(AG Γ.ss k)=true→D8(AG(Γ.turn j F).ss k)=true):=fun φ h k hk l=>
  have hkj:k≠j:=fun e=>hk(e▸h)
  ⟨(hlv k).2⟨hkj,l⟩,tW hkj⟩
 refine I.map(F:=Pt j F)(fun k S e hg=> ?_)(fun _=>rfl)(fun hP φ v h=> ?_)(fun hP φ c h=> ?_)
 ·simp only[Cx.turn,AG]at e
  split at e
  ·cases e;exact absurd rfl hg
  ·rw[GT]at e
   obtain⟨S0,h0,rfl⟩:=Option.map_eq_some_iff.1 e
   exact⟨S0,h0,rfl⟩
 ·by_cases hn:E1 j φ
  ·rw[Ps hn];exact h.weak hP(keep φ hn)
  ·rw[Na(FR.noKeep hj h)hn];exact(hF hP φ v hn h).1
 ·by_cases hn:E1 j φ
  ·rw[Ps hn];exact h.weak hP(keep φ hn)
  ·have: ∃v,c=[v]∧FR rv Γ.ss(Pf E Γ.ss fp H)H φ v:=by
    cases φ<;>first|exact h|exact h.elim|exact absurd trivial hn
   obtain⟨v,rfl,h'⟩:=this
   rw[Na(FR.noKeep hj h')hn]
   exact(hF hP φ v hn h').2
theorem FR.one{ss:Ss}{P:Nat→Prop}(hi: ∀j,Ba ss j→B9(rv j)≤H.length){φ:AL}{v:AV}{j:Nat}(hp: ∀i,P i→i<H.length)(hn: ¬E1 j φ)(h:FR rv ss P H φ v):Bh [v]≤H.length:=by
 simpa [Bh]using FR.men hp hi(by rintro rfl;exact hn trivial)h
def wA(t:T)(g:GS t.α):AL→AL
 | .own _=> .val(T.sl t)g
 |_=> .junk
theorem Bp.new(I:Bp E Γ rv fp f H){j:Nat}(hl:Ba Γ.ss j)(hn:Nat.blt j cT=true)(i:Nat)(h:fp j i):E.h.length≤i:=by
 rcases Nat.lt_or_ge i E.h.length with h'|h'
 ·have h1:=((I.fplt j i hl h).2 h').2
  have h2:j<cT:=by rw[Nat.blt,Nat.ble_eq]at hn;exact hn
  omega
 ·exact h'
theorem Bp.frzRow(I:Bp E Γ rv fp f H){j:Nat}{t:T}{g:GS t.α}(hj:AG Γ.ss j=some(.row t g))(hnb:Nat.blt j cT=true):Bp E(Γ.turn j(wA t g))rv fp f H:=by
 have hl:Ba Γ.ss j:=Lh hj rfl
 have hn:=I.new hl hnb
 have hs:=I.slots j _ hj
 have hlv: ∀k,Ba(Γ.turn j(wA t g)).ss k↔k≠j∧Ba Γ.ss k:=Qt
 refine I.turn(by rw[hj];rfl)fun hP φ v hr h=> ?_
 have hnk:NY j φ:=FR.noKeep(by rw[hj];rfl)h
 have hone:=FR.one I.rvlt I.ltP hr h
 cases φ with
 |own k=>
  simp only[E1,ne_eq,Decidable.not_not]at hr
  subst hr
  obtain⟨_,rfl⟩:=h
  have:Ty t(Pf E(Γ.turn k(wA t g)).ss fp H)H(rv k)g:=by
   cases g with
   |nil=>exact hs.1
   |mk l=>
    obtain⟨id,els,h1,h0,h2,h3⟩:=hs
    rw[h1]
    have hk:=(h0 id).2 rfl
    refine⟨Pf.gone I hl hk(fun k lk=>(hlv k).1 lk)(hn id hk),els,?_,h3.mono fun i hi=>⟨hP i hi,rfl⟩⟩
    simp[Ez,h2]
  exact⟨Ka.2 this,_,rfl,this⟩
 |ep k i o=>exact⟨trivial,hone⟩
 |cp k o=>exact⟨trivial,hone⟩
 |oc k o s n=>exact⟨trivial,hone⟩
 |val t x=>exact absurd trivial hr
 |rp t x=>exact absurd trivial hr
 |tup l=>exact absurd trivial hr
 |junk=>exact absurd trivial hr
 |con c=>exact absurd trivial hr
 |kv k=>exact absurd hnk hr
 |fnv g js ks=>exact absurd hnk hr
 |aggk js=>exact absurd hnk hr
 |tupk js=>exact absurd hnk hr
def eS(t:T)(x:t.α):AL→AL
 | .cp _ 0=> .rp t x
 |_=> .junk
theorem Bp.frzCell(I:Bp E Γ rv fp f H){j n:Nat}{t:T}{x:t.α}(hj:AG Γ.ss j=some(.cells [(n, .val t x)]))(hnb:Nat.blt j cT=true):Bp E(Γ.turn j(eS t x))rv fp f H:=by
 have hl:Ba Γ.ss j:=Lh hj rfl
 have hn:=I.new hl hnb
 have hs:=I.slots j _ hj
 have hlv: ∀k,Ba(Γ.turn j(eS t x)).ss k↔k≠j∧Ba Γ.ss k:=Qt
 refine I.turn(by rw[hj];rfl)fun hP φ v hr h=> ?_
 have hnk:NY j φ:=FR.noKeep(by rw[hj];rfl)h
 have hone:=FR.one I.rvlt I.ltP hr h
 cases φ with
 |cp k o=>
  simp only[E1,ne_eq,Decidable.not_not]at hr
  subst hr
  cases o with
  |succ o=>exact⟨trivial,hone⟩
  |zero=>
   obtain⟨_,id,e,rfl⟩:=h
   obtain⟨id',cs,h1,h0,h2,c,d,h3,h4,h5,h6⟩:=hs
   rw[e]at h1
   cases h1
   have h6':d=[]:=h6
   subst h6'
   simp only[List.append_nil]at h3
   subst h3
   have hk:=(h0 id).2 rfl
   have hp:=Pf.gone I hl hk(fun k lk=>(hlv k).1 lk)(hn id hk)
   have hlen:=t.len h5
   have:Zu t(Pf E(Γ.turn k(eS t x)).ss fp H)H(.ptr id 0)x:=by
    refine⟨hp,cs,0,by simp[place,h2],by omega,?_,fun m hm=>by simp only[B9];exact hm _ hp⟩
    have:sub cs 0 t.sz=cs:=by simp only[sub,List.drop_zero];exact List.take_of_length_le(by omega)
    rw[this]
    exact t.mono(fun i hi=>⟨hP i hi,rfl⟩)h5
   exact⟨this,_,rfl,this⟩
 |own k=>exact⟨trivial,hone⟩
 |oc k o s n=>exact⟨trivial,hone⟩
 |ep k i o=>exact⟨trivial,hone⟩
 |val t x=>exact absurd trivial hr
 |rp t x=>exact absurd trivial hr
 |tup l=>exact absurd trivial hr
 |junk=>exact absurd trivial hr
 |con c=>exact absurd trivial hr
 |kv k=>exact absurd hnk hr
 |fnv g js ks=>exact absurd hnk hr
 |aggk js=>exact absurd hnk hr
 |tupk js=>exact absurd hnk hr
def yV:Option Db→Prop
 |some(.keep _)=>True
 |_=>False
def PI(ss:Ss):List Nat→Prop
 |[]=>True
 |j::r=>yV(AG ss j)∧PI ss r
theorem nC{o:Option Db}(h:yV o):D8 o=true:=by
 unfold yV at h
 split at h
 ·rfl
 ·exact h.elim
theorem PH{ss:Ss}: ∀{l:List Nat},PI ss l→Ny ss l
 |[],_,j,hj=>by cases hj
 |k::l,h,j,hj=>by
  rcases List.mem_cons.1 hj with rfl|hj
  ·exact nC h.1
  ·exact PH h.2 j hj
def Mf(ss:Ss):AL→Prop
 | .own k=>Ba ss k
 | .ep k _ _=>Ba ss k
 | .cp k _=>Ba ss k
 | .oc k _ _ _=>Ba ss k
 | .kv k=>PI ss [k]
 | .fnv _ js ks=>PI ss(js++ks)
 | .aggk js=>PI ss js
 | .tupk js=>PI ss js
 |_=>True
def mH(ss:Ss):List(Nat×AL)→Prop
 |[]=>True
 |p::r=>Mf ss p.2∧mH ss r
def refS(ss:Ss):Db→Prop
 | .cells ps=>mH ss ps
 | .keep φ=>Mf ss φ
 | .ghost φ=>Mf ss φ
 | .rowk _ els=>PI ss els.flatten
 |_=>True
def subT(Γ:Cx)(ss:Ss):Ts→Prop
 |[]=>True
 |(t,φ)::r=>(BD Γ.ts t=some φ∧Mf ss φ)∧subT Γ ss r
def vH(Γ:Cx)(ss:Ss):Ss→Prop
 |[]=>True
 |(j,S)::r=>(AG Γ.ss j=some S∧refS ss S)∧vH Γ ss r
def uZ(Γ' Γ:Cx):Prop:=subT Γ Γ'.ss Γ'.ts∧vH Γ Γ'.ss Γ'.ss
theorem Z3{ss:Ss}: ∀{ts:Ts}{t:Nat}{φ:AL},subT Γ ss ts→BD ts t=some φ→BD Γ.ts t=some φ∧Mf ss φ
 |[],_,_,_,e=>by simp[BD]at e
 |(u,ψ)::r,t,φ,h,e=>by
  simp only[BD]at e
  split at e
  ·rename_i hu;cases e;subst hu;exact h.1
  ·exact Z3 h.2 e
theorem IL{ss:Ss}: ∀{l:Ss}{j:Nat}{S:Db},vH Γ ss l→AG l j=some S→AG Γ.ss j=some S∧refS ss S
 |[],_,_,_,e=>by simp[AG]at e
 |(u,ψ)::r,t,φ,h,e=>by
  simp only[AG]at e
  split at e
  ·rename_i hu;cases e;subst hu;exact h.1
  ·exact IL h.2 e
theorem WV{ss:Ss}{φ:AL}(h:Mf ss φ): ∀j,¬E1 j φ→Ba ss j∧(¬NY j φ→D8(AG ss j)=true):=by
 intro j hj
 have key: ∀{l:List Nat},PI ss l→j∈l→Ba ss j∧D8(AG ss j)=true:=fun h hm=>⟨L6(PH h j hm),PH h j hm⟩
 cases φ<;>first
  |exact absurd trivial hj
  |(simp only[E1,ne_eq,Decidable.not_not]at hj;subst hj;exact⟨h,fun hn=>absurd trivial hn⟩)
  |(simp only[E1,ne_eq,Decidable.not_not]at hj;exact⟨(key h(by simp[hj])).1,fun _=>(key h(by simp[hj])).2⟩)
  |exact⟨(key h(Decidable.not_not.1 hj)).1,fun _=>(key h(Decidable.not_not.1 hj)).2⟩
theorem WU{ss:Ss}: ∀{ps:List(Nat×AL)},mH ss ps→ ∀p∈ps,Mf ss p.2
 |[],_,p,hp=>by cases hp
 |q::r,h,p,hp=>by
  rcases List.mem_cons.1 hp with rfl|hp
  ·exact h.1
  ·exact WU h.2 p hp
theorem Bp.sub{Γ':Cx}(I:Bp E Γ rv fp f H)(h:uZ Γ' Γ):Bp E Γ' rv fp f H:=by
 have hlv: ∀k,Ba Γ'.ss k→Ba Γ.ss k:=by
  intro k l
  cases e:AG Γ'.ss k with
  |none=>simp only[Ba,e]at l;exact l.elim
  |some S=>
   have:=(IL h.2 e).1
   simp only[Ba,e]at l
   simp only[Ba,this];exact l
 have hP: ∀i,Pf E Γ.ss fp H i→Pf E Γ'.ss fp H i:=fun i=>Pf.same hlv
 have hsame: ∀φ,Mf Γ'.ss φ→U5 rv rv Γ.ss Γ'.ss φ:=fun φ r j hj l=>by
  have hl:=(WV r j hj).1
  refine⟨⟨hl,fun e=> ?_⟩,rfl⟩
  cases e':AG Γ'.ss j with
  |none=>simp only[Ba,e']at hl;exact hl.elim
  |some S=>rw[(IL h.2 e').1]at e;exact e
 refine⟨I.le,I.base,I.wf,fun k i l e=>I.fplt k i(hlv k l)e,fun k l=>I.rvlt k(hlv k l),fun k l=>(I.scal k(hlv k l)).imp(fun e=> ?_)id,fun k k' i l l' e e'=>I.inj k k' i(hlv k l)(hlv k' l')e e',?_,?_,?_⟩
 ·cases e':AG Γ'.ss k with
  |none=>simp only[Ba,e']at l;exact l.elim
  |some S=>rw[(IL h.2 e').1]at e;exact e
 ·intro k S e
  obtain⟨e',r⟩:=IL h.2 e
  refine(I.slots k S e').keep rfl rfl(fun i hi=>⟨hP i hi,rfl⟩)(Nat.le_refl _)(fun _ _=>rfl)(fun ps hps p hp=> ?_)(fun φ hφ=> ?_)fun sz els he=> ?_
  ·subst hps
   exact hsame p.2(WU r p hp)
  ·subst hφ
   exact hsame φ r
  ·subst he
   exact hsame(.aggk els.flatten)r
 ·intro t φ e
  obtain⟨e',r⟩:=Z3 h.1 e
  exact(I.temps t φ e').mono(fun i hi=>⟨hP i hi,rfl⟩)(hsame φ r)
 ·intro k φ e
  obtain⟨e',r⟩:=IL h.2 e
  exact(I.gh k φ e').mono(fun i hi=>⟨hP i hi,rfl⟩)(hsame φ r)
end
end Go.Proofs.YtobejhpigbllpaaGreatDoor.Am
namespace Go.Proofs.YtobejhpigbllpaaGreatDoor.Am
def HU{σ β:Type}(F:σ→Option(σ⊕β)):Nat→σ→Option β
 |0,_=>none
 |n+1,s=>(F s).bind fun
  | .inl s'=>HU F n s'
  | .inr b=>some b
open Classical in
noncomputable def iter{σ β:Type}(F:σ→Option(σ⊕β))(s:σ):Option β:=
 if h: ∃n,(HU F n s).isSome=true then HU F(Classical.choose h)s else none
section
variable {σ β:Type}{F:σ→Option(σ⊕β)}
theorem RE: ∀{n m:Nat}{s:σ}{b:β},n≤m→HU F n s=some b→HU F m s=some b
 |0,_,_,_,_,h=>by simp[HU]at h
 |n+1,0,_,_,hm,_=>by omega
 |n+1,m+1,s,b,hm,h=>by
  simp only[HU]at h ⊢
  obtain⟨r,hr,h⟩:=Option.bind_eq_some_iff.1 h
  rw[hr]
  cases r with
  |inl s'=>exact RE(by omega)h
  |inr b'=>exact h
theorem Ml{n:Nat}{s:σ}{b:β}(h:HU F n s=some b):iter F s=some b:=by
 unfold iter
 have hx: ∃n,(HU F n s).isSome=true:=⟨n,by rw[h];rfl⟩
 rw[dif_pos hx]
 obtain⟨b',hb⟩:=Option.isSome_iff_exists.1(Classical.choose_spec hx)
 have h1:=RE(Nat.le_max_left n(Classical.choose hx))h
 have h2:=RE(Nat.le_max_right n(Classical.choose hx))hb
 rw[hb,←h2,h1]
theorem Ug{s:σ}{b:β}(h:iter F s=some b): ∃n,HU F n s=some b:=by
 unfold iter at h
 split at h
 ·exact⟨_,h⟩
 ·cases h
theorem Qs{s s':σ}(h:F s=some(.inl s')):iter F s=iter F s':=by
 apply Option.ext
 intro b
 constructor
 ·intro e
  obtain⟨n,hn⟩:=Ug e
  cases n with
  |zero=>simp[HU]at hn
  |succ n=>simp only[HU,h,Option.bind_some]at hn;exact Ml hn
 ·intro e
  obtain⟨n,hn⟩:=Ug e
  exact Ml(n:=n+1)(by simp only[HU,h,Option.bind_some];exact hn)
theorem Uh{s:σ}{b:β}(h:F s=some(.inr b)):iter F s=some b:=
 Ml(n:=1)(by simp only[HU,h,Option.bind_some])
end
inductive Kf where
 |seq(y:AC)
 |blk(id:Nat)
noncomputable def IB(tb:CZ):List Kf→Ex×Fr×Av→Option(Ex×Fr×Av)
 |[],r=>some r
 | .seq y::ks,(.normal,f,h)=>(AX tb(Ck tb)y f h).bind(IB tb ks)
 | .seq _::ks,r=>IB tb ks r
 | .blk id::ks,(.exit id',f,h)=>if id'=id then IB tb ks(.normal,f,h)else IB tb ks(.exit id',f,h)
 | .blk _::ks,r=>IB tb ks r
abbrev Mb(ρ:Type):=Pr→ρ→Ex→Fr→Av→Prop
structure Aa(tb:CZ)(Γ:Cx)(c:AC)(ks:List Kf){ρ:Type}(Q:Mb ρ)where
 m:Option ρ
 ok: ∀E f H,fC E Γ f H→ ∀r,m=some r→ ∃e f' H',(AX tb(Ck tb)c f H).bind(IB tb ks)=some(e,f',H')∧Q E r e f' H'
def rg(q:Bool)(l:List AU):AC:=if q then .regq l else .reg l
section
variable {tb:CZ}{Γ:Cx}{ks:List Kf}{ρ:Type}{Q:Mb ρ}
def Aa.of{c c':AC}{ks':List Kf}(h: ∀f H,(AX tb(Ck tb)c' f H).bind(IB tb ks')=(AX tb(Ck tb)c f H).bind(IB tb ks))(s:Aa tb Γ c ks Q):Aa tb Γ c' ks' Q:=
 ⟨s.m,fun E f H R r hr=>by rw[h];exact s.ok E f H R r hr⟩
def Aa.weak{c:AC}{Γ':Cx}(s:Aa tb Γ' c ks Q)(h:uZ Γ' Γ):Aa tb Γ c ks Q:=
 ⟨s.m,fun E f H⟨rv,fp,I⟩r hr=>s.ok E f H⟨rv,fp,I.sub h⟩r hr⟩
def Aa.turn{c:AC}{Γ':Cx}(h: ∀E f H,fC E Γ f H→fC E Γ' f H)(s:Aa tb Γ' c ks Q):Aa tb Γ c ks Q:=
 ⟨s.m,fun E f H R r hr=>s.ok E f H(h E f H R)r hr⟩
def Aa.frzRow{c:AC}(j:Nat){t:T}{g:GS t.α}(h:AG Γ.ss j=some(.row t g))(hn:Nat.blt j cT=true)(s:Aa tb(Γ.turn j(wA t g))c ks Q):Aa tb Γ c ks Q:=
 s.turn fun _ _ _⟨rv,fp,I⟩=>⟨rv,fp,I.frzRow h hn⟩
theorem Dy{q:Bool}{f:Fr}{H:Av}:AX tb(Ck tb)(rg q [])f H=some(.normal,f,H):=by
 cases q<;>simp[rg,AX,ops,Ih]
def Ad{x y:AC}(s:Aa tb Γ x(.seq y::ks)Q):Aa tb Γ(.seq x y)ks Q:=
 s.of fun f H=>by
  simp only[AX]
  cases AX tb(Ck tb)x f H with
  |none=>rfl
  |some p=>obtain⟨e,f',H'⟩:=p;cases e<;>simp[IB]
def A6{id:Nat}{x:AC}(s:Aa tb Γ x(.blk id::ks)Q):Aa tb Γ(.blk id x)ks Q:=
 s.of fun f H=>by
  simp only[AX]
  cases AX tb(Ck tb)x f H with
  |none=>rfl
  |some p=>
   obtain⟨e,f',H'⟩:=p
   cases e<;>simp[IB]
   split<;>simp
def Ac{q:Bool}{y:AC}(s:Aa tb Γ y ks Q):Aa tb Γ(rg q [])(.seq y::ks)Q:=
 s.of fun f H=>by simp[Dy,IB]
def AJ{q:Bool}{id:Nat}(s:Aa tb Γ(rg q [])ks Q):Aa tb Γ(rg q [])(.blk id::ks)Q:=
 s.of fun f H=>by simp[Dy,IB]
def Aa.skip(s:Aa tb Γ(rg false [])ks Q):Aa tb Γ .skip ks Q:=
 s.of fun f H=>by simp[Dy,AX]
def AR{id:Nat}{y:AC}(s:Aa tb Γ(.exit id)ks Q):Aa tb Γ(.exit id)(.seq y::ks)Q:=
 s.of fun f H=>by simp[AX,IB]
def AS{id:Nat}(s:Aa tb Γ(rg false [])ks Q):Aa tb Γ(.exit id)(.blk id::ks)Q:=
 s.of fun f H=>by simp[AX,IB,Dy]
theorem WK{f:Fr}{H:Av}: ∀ks:List Kf,IB tb ks(.ret,f,H)=some(.ret,f,H)
 |[]=>rfl
 | .seq _::ks=>by simp[IB,WK ks]
 | .blk _::ks=>by simp[IB,WK ks]
def CA(tb:CZ)(Γ:Cx)(a:AO)(φ:AL):Prop:= ∀E rv fp f H,Bp E Γ rv fp f H→FR rv Γ.ss(Pf E Γ.ss fp H)H φ(eval tb f a)
def F1(tb:CZ)(Γ:Cx)(o:HT){β:Type}(a:Option β)(φ:β→AL):Prop:=
 ∀E rv fp f H,Bp E Γ rv fp f H→ ∀b,a=some b→ ∃v u,Bq tb(Ck tb)(eval tb f)H o=some(v,u)∧u.getD H=H∧FR rv Γ.ss(Pf E Γ.ss fp H)H(φ b)v
theorem EA{q:Bool}{d:Option Nat}{o:HT}{l:List AU}{f:Fr}{H:Av}{v:AV}{u:Option Av}(h:Bq tb(Ck tb)(eval tb f)H o=some(v,u))(hu:u.getD H=H):
  AX tb(Ck tb)(rg q(⟨d,none,o⟩::l))f H=AX tb(Ck tb)(rg q l)(put f d v)H:=by
 cases q<;>simp[rg,AX,ops,Ih,wanted,h,hu]
theorem Kk{d:Option Nat}{o:HT}{l:List AU}{f:Fr}{H:Av}{v:AV}{u:Option Av}(h:Bq tb(Ck tb)(eval tb f)H o=some(v,u)):
  AX tb(Ck tb)(rg false(⟨d,none,o⟩::l))f H=AX tb(Ck tb)(rg false l)(put f d v)(u.getD H):=by
 simp[rg,AX,ops,wanted,h]
def Aa.op{q:Bool}{d:Nat}{o:HT}{l:List AU}{β:Type}{a:Option β}{φ:β→AL}(h:F1 tb Γ o a φ)(k:(b:β)→Aa tb(Γ.push d(φ b))(rg q l)ks Q):Aa tb Γ(rg q(⟨some d,none,o⟩::l))ks Q:=
 ⟨a.bind fun b=>(k b).m,fun E f H⟨rv,fp,I⟩r hr=>by
  obtain⟨b,hb,hr⟩:=Option.bind_eq_some_iff.1 hr
  obtain⟨v,u,h1,h2,h3⟩:=h E rv fp f H I b hb
  obtain⟨e,f',H',h4,h5⟩:=(k b).ok E(put f(some d)v)H⟨rv,fp,I.push h3⟩r hr
  exact⟨e,f',H',by rw[EA h1 h2];exact h4,h5⟩⟩
def Ai{q:Bool}{d:Nat}{o:HT}{l:List AU}{φ:AL}(h:F1 tb Γ o(some())fun _=>φ)(k:Aa tb(Γ.push d φ)(rg q l)ks Q):Aa tb Γ(rg q(⟨some d,none,o⟩::l))ks Q:=
 ⟨k.m,fun E f H⟨rv,fp,I⟩r hr=>by
  obtain⟨v,u,h1,h2,h3⟩:=h E rv fp f H I()rfl
  obtain⟨e,f',H',h4,h5⟩:=k.ok E(put f(some d)v)H⟨rv,fp,I.push h3⟩r hr
  exact⟨e,f',H',by rw[EA h1 h2];exact h4,h5⟩⟩
def An{q:Bool}{d:Nat}{o:HT}{l:List AU}{t:T}{x:t.α}(h:F1 tb Γ o(some())fun _=> .val t x)(k:(y:t.α)→Aa tb(Γ.push d(.val t y))(rg q l)ks Q):Aa tb Γ(rg q(⟨some d,none,o⟩::l))ks Q:=
 Ai h(k x)
def rL{q:Bool}{d:Nat}{o:HT}{l:List AU}{t:T}{x:t.α}(h:F1 tb Γ o(some())fun _=> .rp t x)(k:(y:t.α)→Aa tb(Γ.push d(.rp t y))(rg q l)ks Q):Aa tb Γ(rg q(⟨some d,none,o⟩::l))ks Q:=
 Ai h(k x)
def Wp(tb:CZ)(Γ:Cx)(d:Option Nat)(o:HT){β:Type}(a:Option β)(Γ':β→Cx):Prop:=
 ∀E rv fp f H,Bp E Γ rv fp f H→ ∀b,a=some b→ ∃v u,Bq tb(Ck tb)(eval tb f)H o=some(v,u)∧ ∃rv' fp',Bp E(Γ' b)rv' fp'(put f d v)(u.getD H)
def Ct{d:Option Nat}{o:HT}{l:List AU}{β:Type}{a:Option β}{Γ':β→Cx}(h:Wp tb Γ d o a Γ')(k:(b:β)→Aa tb(Γ' b)(rg false l)ks Q):Aa tb Γ(rg false(⟨d,none,o⟩::l))ks Q:=
 ⟨a.bind fun b=>(k b).m,fun E f H⟨rv,fp,I⟩r hr=>by
  obtain⟨b,hb,hr⟩:=Option.bind_eq_some_iff.1 hr
  obtain⟨v,u,h1,rv',fp',h3⟩:=h E rv fp f H I b hb
  obtain⟨e,f',H',h4,h5⟩:=(k b).ok E _ _⟨rv',fp',h3⟩r hr
  exact⟨e,f',H',by rw[Kk h1];exact h4,h5⟩⟩
def Aa.stop{c:AC}:Aa tb Γ c ks Q:=⟨Option.none,fun _ _ _ _ _ h=>(by cases h)⟩
def Aa.scope{x:AC}(s:Aa tb Γ x ks Q):Aa tb Γ(.scope x)ks Q:=Aa.of(c:=x)(fun f H=>by simp only[AX])s
def Hw{c:AC}{τ:Type}(Γj:τ→Cx)(k:(p:τ)→Aa tb(Γj p)(rg false [])ks Q)(main:((p:τ)→Aa tb(Γj p)(rg false [])ks Q)→Aa tb Γ c ks Q):Aa tb Γ c ks Q:=main k
theorem Gg{P:Nat→Prop}{H:Av}{v:AV}{x:Bool}:T.b.V P H v x↔v= .b x:=PX
theorem Ca{k:IntKind}{P:Nat→Prop}{H:Av}{v:AV}{x:Int}:(T.int k).V P H v x↔v= .i k x:=PX
theorem EC{P:Nat→Prop}{H:Av}{v:AV}{x:AN}:Ax.V P H v x↔v= .s x:=PX
theorem U4{P:Nat→Prop}{H:Av}{v:AV}{x:UInt8}:T.u8.V P H v x↔v= .i .u8 x.toNat:=PX
theorem fA{P:Nat→Prop}{H:Av}{v:AV}{x:UInt16}:T.u16.V P H v x↔v= .i .u16 x.toNat:=PX
theorem eZ{P:Nat→Prop}{H:Av}{v:AV}{x:UInt32}:T.u32.V P H v x↔v= .i .u32 x.toNat:=PX
theorem rK{P:Nat→Prop}{H:Av}{v:AV}{x:UInt64}:T.u64.V P H v x↔v= .i .u64 x.toNat:=PX
def Aa.cond{a:AO}{b:Bool}{x y:AC}(h:CA tb Γ a(.val T.b b))(s:Aa tb Γ x ks Q)(s':Aa tb Γ y ks Q):Aa tb Γ(.cond a x y)ks Q:=
 ⟨if b=true then s.m else s'.m,fun E f H⟨rv,fp,I⟩r hr=>by
  have hv:=Gg.1(h E rv fp f H I)
  cases b with
  |true=>
   obtain⟨e,f',H',h4,h5⟩:=s.ok E f H⟨rv,fp,I⟩r(by simpa using hr)
   exact⟨e,f',H',by simp only[AX,hv,if_true];exact h4,h5⟩
  |false=>
   obtain⟨e,f',H',h4,h5⟩:=s'.ok E f H⟨rv,fp,I⟩r(by simpa using hr)
   exact⟨e,f',H',by simp only[AX,hv,Bool.false_eq_true,if_false];exact h4,h5⟩⟩
def lS(tb:CZ){σ τ:Type}(Γl:σ→Cx)(Γx:τ→Cx)(id:Nat)(ks:List Kf)(Q:Mb ρ):Mb(σ⊕(τ⊕ρ)):=fun E r e f H=>
 match r with
 | .inl s=>e= .normal∧fC E(Γl s)f H
 | .inr(.inl p)=>e= .exit id∧fC E(Γx p)f H
 | .inr(.inr r)=>e≠ .normal∧ ∃e' f' H',IB tb ks(e,f,H)=some(e',f',H')∧Q E r e' f' H'
theorem Xl: ∀{l:List Nat}{f:Fr}{t:Nat},t∈l→get(keepL l f)t=get f t
 |u::l,f,t,h=>by
  simp only[keepL,List.map_cons,get]
  by_cases e:u=t
  ·subst e;rw[if_pos rfl]
  ·rw[if_neg e]
   rcases List.mem_cons.1 h with e'|h
   ·exact absurd e'.symm e
   ·exact Xl h
def qC(l:List Nat)(ts:Ts):Bool:=ts.all fun p=>l.any(Nat.beq p.1)
theorem Xi{l:List Nat}: ∀{ts:Ts}{t:Nat}{φ:AL},qC l ts=true→BD ts t=some φ→t∈l
 |[],_,_,_,e=>by simp[BD]at e
 |(u,ψ)::r,t,φ,h,e=>by
  simp only[qC,List.all_cons,Bool.and_eq_true]at h
  simp only[BD]at e
  split at e
  ·rename_i hu
   subst hu
   obtain⟨x,hx,hb⟩:=List.any_eq_true.1 h.1
   have hb':u=x:=Nat.eq_of_beq_eq_true hb
   exact hb'▸hx
  ·exact Xi h.2 e
theorem fC.keep{E:Pr}{f:Fr}{H:Av}{l:List Nat}(h:qC l Γ.ts=true):fC E Γ f H→fC E Γ(keepL l f)H
 |⟨rv,fp,I⟩=>⟨rv,fp,I.fr fun _ _ e=>Xl(Xi h e)⟩
noncomputable def Aa.loop{σ τ:Type}{lv:List Nat}{x:AC}{id:Nat}(Γl:σ→Cx)(Γx:τ→Cx)(s0:σ)(h0:uZ(Γl s0)Γ)(hl: ∀s,qC lv(Γl s).ts=true)
  (body:(s:σ)→Aa tb(Γl s)x [](lS tb Γl Γx id ks Q))(k:(p:τ)→Aa tb(Γx p)(.exit id)ks Q):Aa tb Γ(.loop lv x)ks Q:=
 ⟨(iter(fun s=>(body s).m)s0).bind(Sum.elim(fun p=>(k p).m)some),fun E f H⟨rv,fp,I⟩r hr=>by
  obtain⟨b,hb,hr⟩:=Option.bind_eq_some_iff.1 hr
  obtain⟨n,hn⟩:=Ug hb
  have key: ∀n s f H,fC E(Γl s)f H→HU(fun s=>(body s).m)n s=some b→ ∃e f' H',Vz(KY lv(AX tb(Ck tb)x))n f H=some(e,f',H')∧e≠ .normal∧lS tb Γl Γx id ks Q E(.inr b)e f' H':=by
   intro n
   induction n with
   |zero=>intro s f H _ h;simp[HU]at h
   |succ n ih=>
    intro s f H R h
    simp only[HU]at h
    obtain⟨r1,h1,h⟩:=Option.bind_eq_some_iff.1 h
    obtain⟨e,f',H',h2,h3⟩:=(body s).ok E(keepL lv f)H(R.keep(hl s))r1 h1
    have h2':AX tb(Ck tb)x(keepL lv f)H=some(e,f',H'):=by
     obtain⟨p,hp,h2⟩:=Option.bind_eq_some_iff.1 h2
     rw[hp,←h2];rfl
    cases r1 with
    |inl s'=>
     obtain⟨rfl,R'⟩:=h3
     obtain⟨e2,f2,H2,h4,h5⟩:=ih s'(keepL lv f')H'(R'.keep(hl s'))h
     exact⟨e2,f2,H2,by simp only[Vz,KY,h2',Option.map_some];exact h4,h5⟩
    |inr b'=>
     simp only[Option.some.injEq]at h
     subst h
     have hne:e≠ .normal:=by
      cases b' with
      |inl p=>rw[h3.1];simp
      |inr r=>exact h3.1
     refine⟨e,f',H',?_,hne,h3⟩
     simp only[Vz,KY,h2',Option.map_some]
     cases e<;>first|exact absurd rfl hne|rfl
  obtain⟨e,f1,H1,h1,h2,h3⟩:=key n s0 f H⟨rv,fp,I.sub h0⟩hn
  have hlp:AX tb(Ck tb)(.loop lv x)f H=some(e,f1,H1):=by
   simp only[AX]
   exact yK _ h1
  rw[hlp]
  cases b with
  |inr r'=>
   simp only[Sum.elim_inr,Option.some.injEq]at hr
   subst hr
   exact h3.2
  |inl p=>
   obtain⟨rfl,R⟩:=h3
   simp only[Sum.elim_inl]at hr
   obtain⟨e2,f2,H2,h4,h5⟩:=(k p).ok E f1 H1 R r hr
   exact⟨e2,f2,H2,by simpa [AX]using h4,h5⟩⟩
def Aa.next{q:Bool}{σ τ:Type}{Γl:σ→Cx}{Γx:τ→Cx}{id:Nat}(s:σ)(h:uZ(Γl s)Γ):Aa tb Γ(rg q []) [](lS tb Γl Γx id ks Q):=
 ⟨some(.inl s),fun E f H⟨rv,fp,I⟩r hr=>by
  cases hr
  exact⟨.normal,f,H,by simp[Dy,IB],rfl,rv,fp,I.sub h⟩⟩
def Bx{σ τ:Type}{Γl:σ→Cx}{Γx:τ→Cx}{id:Nat}(p:τ)(h:uZ(Γx p)Γ):Aa tb Γ(.exit id) [](lS tb Γl Γx id ks Q):=
 ⟨some(.inr(.inl p)),fun E f H⟨rv,fp,I⟩r hr=>by
  cases hr
  exact⟨.exit id,f,H,by simp[AX,IB],rfl,rv,fp,I.sub h⟩⟩
def Yq(s:Aa tb Γ .ret []Q):Aa tb Γ .ret ks Q:=
 s.of fun f H=>by simp[AX,WK,IB]
def BC{σ τ:Type}{Γl:σ→Cx}{Γx:τ→Cx}{id:Nat}{ks':List Kf}(s:Aa tb Γ .ret ks Q):Aa tb Γ .ret ks'(lS tb Γl Γx id ks Q):=
 Yq⟨s.m.map fun r=> .inr(.inr r),fun E f H R r hr=>by
  obtain⟨r',h1,rfl⟩:=Option.map_eq_some_iff.1 hr
  obtain⟨e,f',H',h2,h3⟩:=s.ok E f H R r' h1
  refine⟨.ret,f,H,by simp[AX,IB],by simp,e,f',H',?_,h3⟩
  simpa [AX]using h2⟩
end
end Go.Proofs.YtobejhpigbllpaaGreatDoor.Am
namespace Go.Proofs.YtobejhpigbllpaaGreatDoor.Am
def BU:List T→Type
 |[]=>Unit
 |[a]=>a.α
 |a::b::r=>a.α×BU(b::r)
def Vj(P:Nat→Prop)(H:Av):(l:List T)→List AV→BU l→Prop
 |[],vs,_=>vs=[]
 |[a],vs,x=> ∃v,vs=[v]∧a.V P H v x
 |a::b::r,vs,x=> ∃v q,vs=v::q∧a.V P H v x.1∧Vj P H(b::r)q x.2
def OutR(P:Nat→Prop)(H:Av)(l:List T)(v:AV)(x:BU l):Prop:= ∃vs,v=Gv vs∧Vj P H l vs x
structure CallR(tb:CZ)(g:Nat)(P:Nat→Prop)(h:Av)(args:List AV)(Rs:List T)(r:BU Rs):Prop where
 call: ∃v u,B3 tb(Ck tb)h g args=some(v,u)∧u.getD h=h∧OutR P h Rs v r
def AH(tb:CZ)(g:Nat)(As Rs:List T)(F:BU As→Option(BU Rs)):Prop:=
 ∀(P:Nat→Prop)(h:Av)(args:List AV)(xs:BU As),(∀i,P i→i<h.length)→CE h≤h.length→Vj P h As args xs→ ∀r,F xs=some r→CallR tb g P h args Rs r
section
variable {tb:CZ}
theorem Vj.mono{P Q:Nat→Prop}{H G:Av}(m: ∀i,P i→Q i∧G[i]? =H[i]?): ∀{l:List T}{vs:List AV}{x:BU l},Vj P H l vs x→Vj Q G l vs x
 |[],_,_,h=>h
 |[a],_,_,⟨v,e,h⟩=>⟨v,e,h.mono m⟩
 |_::_::_,_,_,⟨v,q,e,h,g⟩=>⟨v,q,e,h.mono m,Vj.mono m g⟩
theorem Vj.frz{P Q:Nat→Prop}{H:Av}{n:Nat}(hw:CE(H.take n)≤n)(hp: ∀i,P i→i<n→Q i): ∀{l:List T}{vs:List AV}{x:BU l},(∀t∈l,t.dep≤11)→Vj P H l vs x→
  ∃vs',dW H n vs=some vs'∧Vj Q(H.take n)l vs' x
 |[],_,_,_,h=>by rw[show _=[]from h];exact⟨[],rfl,rfl⟩
 |[a],_,_,hd,⟨v,e,h⟩=>by
  obtain⟨v',e',r⟩:=h.frz(d:=11)(hd a List.mem_cons_self)(by omega)hw hp
  exact⟨[v'],by rw[e];simp[dW,D7,e'],v',rfl,r⟩
 |a::b::l,_,_,hd,⟨v,q,e,h,g⟩=>by
  obtain⟨v',e',r⟩:=h.frz(d:=11)(hd a List.mem_cons_self)(by omega)hw hp
  obtain⟨q',e2,r2⟩:=Vj.frz hw hp(fun t ht=>hd t(List.mem_cons_of_mem _ ht))g
  refine⟨v'::q',?_,v',q',rfl,r,r2⟩
  have e2':D7(Am.frz H n 12)q=some q':=e2
  rw[e];simp[dW,D7,e',e2']
def ResR(E:Pr)(Rs:List T)(res:List KX)(r:BU Rs)(f:Fr)(H:Av):Prop:=
 ∃P vs,(∀i,P i→i<E.h.length→E.P0 i)∧results f H res=some vs∧Vj P H Rs vs r∧E.h.length≤H.length∧ ∀i,i<E.h.length→E.K i→H[i]? =E.h[i]?
def QRes(Rs:List T)(res:List KX):Mb(BU Rs):=fun E r e f H=>(e= .ret∨e= .normal)∧ResR E Rs res r f H
def ResF(Γ:Cx)(a:KX)(t:T)(x:t.α):Prop:=
 ∀E rv fp f H,Bp E Γ rv fp f H→ ∀r vs,results f H r=some vs→ ∃v,results f H(a::r)=some(v::vs)∧t.V(Pf E Γ.ss fp H)H v x
inductive lR(Γ:Cx):(Rs:List T)→List KX→BU Rs→Type 1 where
 |nil:lR Γ [] []()
 |one{a:KX}{t:T}{x:t.α}:ResF Γ a t x→lR Γ [t] [a]x
 |cons{a:KX}{t u:T}{x:t.α}{Rs:List T}{l:List KX}{y:BU(u::Rs)}:ResF Γ a t x→lR Γ(u::Rs)l y→lR Γ(t::u::Rs)(a::l)(x,y)
theorem lR.spec{Γ:Cx}{E:Pr}{rv:Nat→AV}{fp:Fp}{f:Fr}{H:Av}(I:Bp E Γ rv fp f H): ∀{Rs:List T}{l:List KX}{y:BU Rs},lR Γ Rs l y→ ∃vs,results f H l=some vs∧Vj(Pf E Γ.ss fp H)H Rs vs y
 |_,_,_, .nil=>⟨[],rfl,rfl⟩
 |_,_,_, .one h=>by
  obtain⟨v,h1,h2⟩:=h E rv fp f H I [] []rfl
  exact⟨[v],h1,v,rfl,h2⟩
 |_,_,_, .cons h r=>by
  obtain⟨vs,g1,g2⟩:=r.spec I
  obtain⟨v,h1,h2⟩:=h E rv fp f H I _ vs g1
  exact⟨v::vs,h1,v,vs,rfl,h2,g2⟩
def Aa.ret{Γ:Cx}{ks:List Kf}{Rs:List T}{res:List KX}{r:BU Rs}(h:lR Γ Rs res r):Aa tb Γ .ret ks(QRes Rs res):=
 Yq⟨some r,fun E f H⟨rv,fp,I⟩r' hr=>by
  cases hr
  obtain⟨vs,h1,h2⟩:=h.spec I
  refine⟨.ret,f,H,by simp[AX,IB], .inl rfl,Pf E Γ.ss fp H,vs,?_,h1,h2,I.le,I.base⟩
  rintro i(h|h)hi
  ·exact h.2
  ·omega⟩
def Aa.fin{Γ:Cx}{q:Bool}{Rs:List T}{res:List KX}{r:BU Rs}(h:lR Γ Rs res r):Aa tb Γ(rg q []) [](QRes Rs res):=
 ⟨some r,fun E f H⟨rv,fp,I⟩r' hr=>by
  cases hr
  obtain⟨vs,h1,h2⟩:=h.spec I
  refine⟨.normal,f,H,by simp[Dy,IB], .inr rfl,Pf E Γ.ss fp H,vs,?_,h1,h2,I.le,I.base⟩
  rintro i(h|h)hi
  ·exact h.2
  ·omega⟩
theorem AA{Γ:Cx}{n:Nat}{t:T}{x:t.α}(h:BD Γ.ts n=some(.val t x)):ResF Γ(.tmp n)t x:=by
 intro E rv fp f H I r vs hr
 exact⟨_,by simp[results,hr],I.temps n _ h⟩
def Vi:(l:List T)→Nat→BU l→Ts
 |[],_,_=>[]
 |[a],k,x=>[(k, .val a x)]
 |a::b::r,k,x=>(k, .val a x.1)::Vi(b::r)(k+1)x.2
theorem aN{P:Nat→Prop}{H:Av}{rv:Nat→AV}{ss:Ss}: ∀{l:List T}{vs:List AV}{k:Nat}{x:BU l},Vj P H l vs x→ ∀t φ,BD(Vi l k x)t=some φ→k≤t∧FR rv ss P H φ(get((vs.zipIdx k).map fun p=>(p.2,p.1))t)
 |[],_,_,_,_,t,φ,e=>by simp[Vi,BD]at e
 |[a],_,k,x,⟨v,rfl,h⟩,t,φ,e=>by
  simp only[Vi,BD]at e
  split at e
  ·rename_i hk
   cases e
   subst hk
   exact⟨Nat.le_refl _,by simpa [get,FR]using h⟩
  ·cases e
 |a::b::r,_,k,x,⟨v,q,rfl,h,g⟩,t,φ,e=>by
  simp only[Vi,BD]at e
  simp only[List.zipIdx_cons,List.map_cons,get]
  split at e
  ·rename_i hk
   cases e
   subst hk
   exact⟨Nat.le_refl _,by rw[if_pos rfl];exact h⟩
  ·rename_i hk
   obtain⟨h1,h2⟩:=aN g t φ e
   exact⟨by omega,by rw[if_neg hk];exact h2⟩
theorem Vj.length{P:Nat→Prop}{H:Av}: ∀{l:List T}{vs:List AV}{x:BU l},Vj P H l vs x→vs.length=l.length
 |[],_,_,h=>by rw[show _=[]from h];rfl
 |[a],_,_,⟨v,rfl,h⟩=>rfl
 |a::b::r,_,_,⟨v,q,rfl,h,g⟩=>by simp[Vj.length g]
theorem AH.of{g:Nat}{fn:CM}{As Rs:List T}(hf:tb.prim g=none∧tb.fns g=some fn)(hw:fn.warm=false)(hn:fn.np=As.length)(hd:Rs.all(fun t=>Nat.ble t.dep 11)=true)
  (s:(xs:BU As)→Aa tb⟨Vi As 0 xs,[]⟩fn.body [](QRes Rs fn.res)):AH tb g As Rs fun xs=>(s xs).m:=by
 intro P h args xs hP hwf hargs r hr
 let E:Pr:=⟨h,P,fun _=>True,hP,fun _ _=>trivial,fun _=> .junk⟩
 have hPf: ∀i,P i→Pf E [](fun _ _=>False)h i∧h[i]? =h[i]? :=fun i hi=>⟨.inl⟨hP i hi,hi⟩,rfl⟩
 have I:Bp E⟨Vi As 0 xs,[]⟩(fun _=> .junk)(fun _ _=>False)(args.zipIdx.map fun p=>(p.2,p.1))h:=by
  refine⟨Nat.le_refl _,fun _ _ _=>rfl,hwf,fun j id l=>l.elim,fun j l=>l.elim,fun j l=>l.elim,fun j k id l=>l.elim,fun j S e=>by simp[AG]at e,fun t φ e=> ?_,fun j φ e=>by simp[AG]at e⟩
  exact(aN(hargs.mono hPf)t φ e).2
 obtain⟨e,f',H',h1,he,P',vs,hP',h2,h3,hle,hbase⟩:=(s xs).ok E _ h⟨_,_,I⟩r hr
 have h4:H'.take h.length=h:=by
  apply List.ext_getElem?
  intro i
  rw[List.getElem?_take]
  split
  ·rename_i hi;exact hbase i hi trivial
  ·rename_i hi;rw[List.getElem?_eq_none(by omega)]
 have h1':AX tb(Ck tb)fn.body(args.zipIdx.map fun p=>(p.2,p.1))h=some(e,f',H'):=by
  obtain⟨p,hp,h1⟩:=Option.bind_eq_some_iff.1 h1
  rw[hp,←h1];rfl
 have hwf':CE(H'.take h.length)≤h.length:=by rw[h4];exact hwf
 obtain⟨vs',h5,h6⟩:=h3.frz hwf' hP' fun t ht=>Nat.le_of_ble_eq_true(List.all_eq_true.1 hd t ht)
 have hbody:body tb(Ck tb)fn args h=some(Gv vs',some h):=by
  have hnp:args.length=fn.np:=by rw[hn,hargs.length]
  simp only[body,hnp,if_true,h1',Option.bind_some]
  have hq:WY fn.warm h.length H' vs=(Gv vs',some h):=by
   rw[hw]
   simp only[WY,Xk,h5]
   rw[if_pos hwf',h4]
  rcases he with rfl|rfl
  ·simp[h2,hq]
  ·simp[h2,hq]
 refine⟨Gv vs',some h,?_,rfl,vs',rfl,by rw[h4]at h6;exact h6⟩
 simp only[B3,hf.1]
 rw[PS,hf.2]
 simp only[Option.bind_some]
 exact hbody
end
end Go.Proofs.YtobejhpigbllpaaGreatDoor.Am
namespace Go.Proofs.YtobejhpigbllpaaGreatDoor.Am
section
variable {tb:CZ}{Γ:Cx}
theorem Ae{n:Nat}{φ:AL}(h:BD Γ.ts n=some φ):CA tb Γ(.t n)φ:=fun _ _ _ _ _ I=>I.temps n φ h
theorem AK{k:IntKind}{n:Int}:CA tb Γ(.k(.i k n))(.val(T.int k)n):=fun _ _ _ _ _ _=>Ca.2 rfl
theorem H5{x:Bool}:CA tb Γ(.k(.b x))(.val T.b x):=fun _ _ _ _ _ _=>Gg.2 rfl
theorem Dv{x:AN}:CA tb Γ(.k(.s x))(.val Ax x):=fun _ _ _ _ _ _=>EC.2 rfl
theorem hZ{n:Int}(x:UInt8)(h:n=x.toNat):CA tb Γ(.k(.i .u8 n))(.val T.u8 x):=fun _ _ _ _ _ _=>U4.2(by rw[h];rfl)
theorem yH{n:Int}(x:UInt16)(h:n=x.toNat):CA tb Γ(.k(.i .u16 n))(.val T.u16 x):=fun _ _ _ _ _ _=>fA.2(by rw[h];rfl)
theorem Ec{n:Int}(x:UInt32)(h:n=x.toNat):CA tb Γ(.k(.i .u32 n))(.val T.u32 x):=fun _ _ _ _ _ _=>eZ.2(by rw[h];rfl)
theorem De{n:Int}(x:UInt64)(h:n=x.toNat):CA tb Γ(.k(.i .u64 n))(.val T.u64 x):=fun _ _ _ _ _ _=>rK.2(by rw[h];rfl)
theorem KK{t:T}:CA tb Γ(.k .nils)(.val(T.sl t) .nil):=fun _ _ _ _ _ _=>Ka.2 rfl
theorem A1{a:AO}{φ:AL}(h:CA tb Γ a φ):F1 tb Γ(.mv a)(some())fun _=>φ:=
 fun E rv fp f H I _ _=>⟨_,none,rfl,rfl,h E rv fp f H I⟩
structure IT where
 t:T
 k:IntKind
 toI:t.α→Int
 ofI:Int→t.α
 V: ∀{P:Nat→Prop}{H:Av}{v:AV}{x:t.α},t.V P H v x↔v= .i k(toI x)
 h: ∀n,toI(ofI n)=k.wrap n
theorem pH(n:Int):IntKind.u8.wrap n=n%256:=by simp[IntKind.wrap,IntKind.bits,IntKind.signed]
theorem fM(n:Int):IntKind.u16.wrap n=n%65536:=by simp[IntKind.wrap,IntKind.bits,IntKind.signed]
theorem fL(n:Int):IntKind.u32.wrap n=n%4294967296:=by simp[IntKind.wrap,IntKind.bits,IntKind.signed]
theorem fJ(n:Int):IntKind.u64.wrap n=n%18446744073709551616:=by simp[IntKind.wrap,IntKind.bits,IntKind.signed]
def IT.int(k:IntKind):IT:=⟨T.int k,k,fun x=>x,k.wrap,Ca,fun _=>rfl⟩
def IT.u8:IT:=⟨T.u8, .u8,fun x:UInt8=>(x.toNat:Int),fun n=>UInt8.ofNat(n%256).toNat,U4,fun n=>by
 rw[pH,UInt8.toNat_ofNat'];omega⟩
def IT.u16:IT:=⟨T.u16, .u16,fun x:UInt16=>(x.toNat:Int),fun n=>UInt16.ofNat(n%65536).toNat,fA,fun n=>by
 rw[fM,UInt16.toNat_ofNat'];omega⟩
def IT.u32:IT:=⟨T.u32, .u32,fun x:UInt32=>(x.toNat:Int),fun n=>UInt32.ofNat(n%4294967296).toNat,eZ,fun n=>by
 rw[fL,UInt32.toNat_ofNat'];omega⟩
def IT.u64:IT:=⟨T.u64, .u64,fun x:UInt64=>(x.toNat:Int),fun n=>UInt64.ofNat(n%18446744073709551616).toNat,rK,fun n=>by
 rw[fJ,UInt64.toNat_ofNat'];omega⟩
theorem Lk{rv:Nat→AV}{ss:Ss}{P:Nat→Prop}{H:Av}{I:IT}{x:I.t.α}{v:AV}(h:FR rv ss P H(.val I.t x)v):v= .i I.k(I.toI x):=I.V.1 h
theorem Rh{rv:Nat→AV}{ss:Ss}{P:Nat→Prop}{H:Av}(I:IT){n:Int}:FR rv ss P H(.val I.t(I.ofI n))(.i I.k(I.k.wrap n)):=I.V.2(by rw[I.h])
section
variable {I J:IT}{x y:I.t.α}{a b:AO}
theorem Bv(ha:CA tb Γ a(.val I.t x))(hb:CA tb Γ b(.val I.t y)):F1 tb Γ(.bin .add a b)(some(I.ofI(I.toI x+I.toI y)))fun z=> .val I.t z:=by
 rintro E rv fp f H R z⟨⟩
 exact⟨_,none,by simp only[Bq,Lk(ha E rv fp f H R),Lk(hb E rv fp f H R),bin,if_true];rfl,rfl,Rh I⟩
theorem Ed(ha:CA tb Γ a(.val I.t x))(hb:CA tb Γ b(.val I.t y)):F1 tb Γ(.bin .sub a b)(some(I.ofI(I.toI x-I.toI y)))fun z=> .val I.t z:=by
 rintro E rv fp f H R z⟨⟩
 exact⟨_,none,by simp only[Bq,Lk(ha E rv fp f H R),Lk(hb E rv fp f H R),bin,if_true];rfl,rfl,Rh I⟩
theorem Hj(ha:CA tb Γ a(.val I.t x))(hb:CA tb Γ b(.val I.t y)):F1 tb Γ(.bin .mul a b)(some(I.ofI(I.toI x*I.toI y)))fun z=> .val I.t z:=by
 rintro E rv fp f H R z⟨⟩
 exact⟨_,none,by simp only[Bq,Lk(ha E rv fp f H R),Lk(hb E rv fp f H R),bin,if_true];rfl,rfl,Rh I⟩
theorem KZ(ha:CA tb Γ a(.val I.t x))(hb:CA tb Γ b(.val I.t y)):F1 tb Γ(.bin .quo a b)(if I.toI y=0 then none else some(I.ofI((I.toI x).tdiv(I.toI y))))fun z=> .val I.t z:=by
 intro E rv fp f H R z hz
 split at hz
 ·cases hz
 ·rename_i h0
  cases hz
  exact⟨_,none,by simp only[Bq,Lk(ha E rv fp f H R),Lk(hb E rv fp f H R),bin,if_true,if_neg h0];rfl,rfl,Rh I⟩
def JG(op:BinOp)(k:IntKind)(x y:Int):Int:=
 match op with
 | .and=>(BitVec.ofInt k.bits x&&&BitVec.ofInt k.bits y).toNat
 | .or=>(BitVec.ofInt k.bits x|||BitVec.ofInt k.bits y).toNat
 | .xor=>(BitVec.ofInt k.bits x^^^BitVec.ofInt k.bits y).toNat
 |_=>(BitVec.ofInt k.bits x&&& ~~~(BitVec.ofInt k.bits y)).toNat
theorem qO(ha:CA tb Γ a(.val I.t x))(hb:CA tb Γ b(.val I.t y)):F1 tb Γ(.bin .and a b)(some(I.ofI(JG .and I.k(I.toI x)(I.toI y))))fun z=> .val I.t z:=by
 rintro E rv fp f H R z⟨⟩
 exact⟨_,none,by simp only[Bq,Lk(ha E rv fp f H R),Lk(hb E rv fp f H R),bin,if_true];rfl,rfl,Rh I⟩
theorem h_or(ha:CA tb Γ a(.val I.t x))(hb:CA tb Γ b(.val I.t y)):F1 tb Γ(.bin .or a b)(some(I.ofI(JG .or I.k(I.toI x)(I.toI y))))fun z=> .val I.t z:=by
 rintro E rv fp f H R z⟨⟩
 exact⟨_,none,by simp only[Bq,Lk(ha E rv fp f H R),Lk(hb E rv fp f H R),bin,if_true];rfl,rfl,Rh I⟩
theorem h_shl{y:J.t.α}(ha:CA tb Γ a(.val I.t x))(hb:CA tb Γ b(.val J.t y)):F1 tb Γ(.bin .shl a b)(if J.toI y<0 then none else some(I.ofI(I.toI x*2^(min(J.toI y).toNat I.k.bits))))fun z=> .val I.t z:=by
 intro E rv fp f H R z hz
 split at hz
 ·cases hz
 ·rename_i h0
  cases hz
  exact⟨_,none,by simp only[Bq,Lk(ha E rv fp f H R),Lk(hb E rv fp f H R),bin,if_neg h0];rfl,rfl,Rh I⟩
def cmpI:BinOp→Int→Int→Bool
 | .eql,x,y=>decide(x=y)
 | .neq,x,y=> !decide(x=y)
 | .lss,x,y=>decide(x<y)
 | .leq,x,y=>decide(x≤y)
 | .gtr,x,y=>decide(y<x)
 |_,x,y=>decide(y≤x)
def qK:BinOp→Bool
 | .eql| .neq| .lss| .leq| .gtr| .geq=>true
 |_=>false
theorem bin_cmp{op:BinOp}{k:IntKind}{x y:Int}(h:qK op=true):bin op(.i k x)(.i k y)=some(.b(cmpI op x y)):=by
 cases op<;>simp only[qK,Bool.false_eq_true]at h<;>simp only[bin,if_true,cmpI]<;>rfl
theorem EV{op:BinOp}(h:qK op=true)(ha:CA tb Γ a(.val I.t x))(hb:CA tb Γ b(.val I.t y)):F1 tb Γ(.bin op a b)(some(cmpI op(I.toI x)(I.toI y)))fun z=> .val T.b z:=by
 rintro E rv fp f H R z⟨⟩
 exact⟨_,none,by simp only[Bq,Lk(ha E rv fp f H R),Lk(hb E rv fp f H R),bin_cmp h];rfl,rfl,Gg.2 rfl⟩
theorem DO{k:IntKind}(hk:k=J.k)(ha:CA tb Γ a(.val I.t x)):F1 tb Γ(.cvi k a)(some(J.ofI(I.toI x)))fun z=> .val J.t z:=by
 rintro E rv fp f H R z⟨⟩
 subst hk
 exact⟨_,none,by simp only[Bq,Lk(ha E rv fp f H R)],rfl,Rh J⟩
theorem h_max{mx:Bool}(ha:CA tb Γ a(.val I.t x))(hb:CA tb Γ b(.val I.t y)):F1 tb Γ(.mnx mx a b)(some(if mx then(if I.toI y>I.toI x then y else x)else(if I.toI y<I.toI x then y else x)))fun z=> .val I.t z:=by
 rintro E rv fp f H R z⟨⟩
 refine⟨_,none,by simp only[Bq,Lk(ha E rv fp f H R),Lk(hb E rv fp f H R),if_true];rfl,rfl,I.V.2 ?_⟩
 cases mx<;>simp only[if_true,Bool.false_eq_true,if_false]<;>split<;>rfl
end
theorem jL{k:IntKind}{x y:Int}{a b:AO}(ha:CA tb Γ a(.val(T.int k)x))(hb:CA tb Γ b(.val(T.int k)y)):F1 tb Γ(.bin .rem a b)(if y=0 then none else some(x.tmod y))fun z=> .val(T.int k)z:=by
 intro E rv fp f H R z hz
 split at hz
 ·cases hz
 ·rename_i h0
  cases hz
  exact⟨_,none,by simp only[Bq,Ca.1(ha E rv fp f H R),Ca.1(hb E rv fp f H R),bin,if_true,if_neg h0];rfl,rfl,Ca.2 rfl⟩
theorem h_shr{k:IntKind}{J:IT}{x:Int}{y:J.t.α}{a b:AO}(ha:CA tb Γ a(.val(T.int k)x))(hb:CA tb Γ b(.val J.t y)):F1 tb Γ(.bin .shr a b)(if J.toI y<0 then none else some(x.fdiv(2^(min(J.toI y).toNat k.bits))))fun z=> .val(T.int k)z:=by
 intro E rv fp f H R z hz
 split at hz
 ·cases hz
 ·rename_i h0
  cases hz
  exact⟨_,none,by simp only[Bq,Ca.1(ha E rv fp f H R),Lk(hb E rv fp f H R),bin,if_neg h0];rfl,rfl,Ca.2 rfl⟩
structure NT extends IT where
 lt: ∀x,0≤toI x∧toI x<2^k.bits
 w: ∀n,0≤n→n<2^k.bits→k.wrap n=n
def NT.u8:NT:=⟨IT.u8,fun x=>⟨by simp[IT.u8],by have:x.toNat<256:=UInt8.toNat_lt x;simp only[IT.u8,IntKind.bits];omega⟩,fun n h0 h1=>by simp only[IT.u8,IntKind.bits]at*;rw[pH];omega⟩
def NT.u16:NT:=⟨IT.u16,fun x=>⟨by simp[IT.u16],by have:x.toNat<65536:=UInt16.toNat_lt x;simp only[IT.u16,IntKind.bits];omega⟩,fun n h0 h1=>by simp only[IT.u16,IntKind.bits]at*;rw[fM];omega⟩
def NT.u32:NT:=⟨IT.u32,fun x=>⟨by simp[IT.u32],by have:x.toNat<4294967296:=UInt32.toNat_lt x;simp only[IT.u32,IntKind.bits];omega⟩,fun n h0 h1=>by simp only[IT.u32,IntKind.bits]at*;rw[fL];omega⟩
def NT.u64:NT:=⟨IT.u64,fun x=>⟨by simp[IT.u64],by have:x.toNat<18446744073709551616:=UInt64.toNat_lt x;simp only[IT.u64,IntKind.bits];omega⟩,fun n h0 h1=>by simp only[IT.u64,IntKind.bits]at*;rw[fJ];omega⟩
theorem PK{I:NT}{x y:I.t.α}{a b:AO}(ha:CA tb Γ a(.val I.t x))(hb:CA tb Γ b(.val I.t y)):F1 tb Γ(.bin .rem a b)(if I.toI y=0 then none else some(I.ofI((I.toI x).tmod(I.toI y))))fun z=> .val I.t z:=by
 intro E rv fp f H R z hz
 split at hz
 ·cases hz
 ·rename_i h0
  cases hz
  have h1:=I.lt x
  have h2:=I.lt y
  have hm:(I.toI x).tmod(I.toI y)=(I.toI x)%(I.toI y):=Int.tmod_eq_emod_of_nonneg h1.1
  have hw:=I.w((I.toI x).tmod(I.toI y))(by rw[hm];exact Int.emod_nonneg _ h0)(by rw[hm];exact Int.lt_of_lt_of_le(Int.emod_lt_of_pos _(by omega))(by omega))
  refine⟨_,none,by simp only[Bq,Lk(I:=I.toIT)(ha E rv fp f H R),Lk(I:=I.toIT)(hb E rv fp f H R),bin,if_true,if_neg h0];rfl,rfl,?_⟩
  have:=Rh(rv:=rv)(ss:=Γ.ss)(P:=Pf E Γ.ss fp H)(H:=H)I.toIT(n:=(I.toI x).tmod(I.toI y))
  rwa [hw]at this
theorem Xz{I:NT}{J:IT}{x:I.t.α}{y:J.t.α}{a b:AO}(ha:CA tb Γ a(.val I.t x))(hb:CA tb Γ b(.val J.t y)):F1 tb Γ(.bin .shr a b)(if J.toI y<0 then none else some(I.ofI((I.toI x).fdiv(2^(min(J.toI y).toNat I.k.bits)))))fun z=> .val I.t z:=by
 intro E rv fp f H R z hz
 split at hz
 ·cases hz
 ·rename_i h0
  cases hz
  have h1:=I.lt x
  have hp:(0:Int)<2^(min(J.toI y).toNat I.k.bits):=by exact_mod_cast Nat.two_pow_pos _
  have hm:(I.toI x).fdiv(2^(min(J.toI y).toNat I.k.bits))=(I.toI x)/(2^(min(J.toI y).toNat I.k.bits)):=Int.fdiv_eq_ediv_of_nonneg _(by omega)
  have hw:=I.w((I.toI x).fdiv(2^(min(J.toI y).toNat I.k.bits)))(by rw[hm];exact Int.ediv_nonneg h1.1(by omega))(by rw[hm];exact Int.lt_of_le_of_lt(Int.ediv_le_self _ h1.1)h1.2)
  refine⟨_,none,by simp only[Bq,Lk(I:=I.toIT)(ha E rv fp f H R),Lk(hb E rv fp f H R),bin,if_neg h0];rfl,rfl,?_⟩
  have:=Rh(rv:=rv)(ss:=Γ.ss)(P:=Pf E Γ.ss fp H)(H:=H)I.toIT(n:=(I.toI x).fdiv(2^(min(J.toI y).toNat I.k.bits)))
  rwa [hw]at this
section
variable {a b:AO}
theorem EU{x:Bool}(ha:CA tb Γ a(.val T.b x)):F1 tb Γ(.un .not a)(some(!x))fun z=> .val T.b z:=by
 rintro E rv fp f H R z⟨⟩
 exact⟨_,none,by simp only[Bq,Gg.1(ha E rv fp f H R),un];rfl,rfl,Gg.2 rfl⟩
def Fv{α:Type}(l:List α)(i:Int):Option α:=if 0≤i then l[i.toNat]? else none
def T4(len:Nat)(lo hi:Option Int):Option(Nat×Nat):=
 (match hi with
  |none=>some len
  |some n=>if 0≤n∧n≤len then some n.toNat else none).bind fun h=>
 (match lo with
  |none=>some 0
  |some n=>if 0≤n∧n≤h then some n.toNat else none).bind fun l=>some(l,h)
def Vk{α:Type}(l:List α)(lo hi:Option Int):Option(List α):=(T4 l.length lo hi).map fun p=>(l.take p.2).drop p.1
inductive uX(tb:CZ)(Γ:Cx):Option AO→Option Int→Prop where
 |none:uX tb Γ none none
 |some{a:AO}{k:IntKind}{n:Int}:CA tb Γ a(.val(T.int k)n)→uX tb Γ(some a)(some n)
theorem Uw{lo hi:Option AO}{l h:Option Int}(hl:uX tb Γ lo l)(hh:uX tb Γ hi h){E:Pr}{rv:Nat→AV}{fp:Fp}{f:Fr}{H:Av}(R:Bp E Γ rv fp f H)(len:Nat):Ht(eval tb f)len lo hi=T4 len l h:=by
 cases hl with
 |none=>
  cases hh with
  |none=>rfl
  |some hh=>simp only[Ht,T4,JY,Ca.1(hh E rv fp f H R),HW,Option.bind_some]
 |some hl=>
  cases hh with
  |none=>simp only[Ht,T4,JY,Ca.1(hl E rv fp f H R),HW,Option.bind_some]
  |some hh=>simp only[Ht,T4,JY,Ca.1(hl E rv fp f H R),Ca.1(hh E rv fp f H R),HW,Option.bind_some]
variable {x y:AN}
theorem BT(ha:CA tb Γ a(.val Ax x))(hb:CA tb Γ b(.val Ax y)):F1 tb Γ(.bin .add a b)(if x.length+y.length≤2*Bf then some(x++y)else none)fun z=> .val Ax z:=by
 intro E rv fp f H R z hz
 split at hz
 ·rename_i h0
  cases hz
  exact⟨_,none,by simp only[Bq,EC.1(ha E rv fp f H R),EC.1(hb E rv fp f H R),bin,if_pos h0];rfl,rfl,EC.2 rfl⟩
 ·cases hz
theorem MO(ha:CA tb Γ a(.val Ax x))(hb:CA tb Γ b(.val Ax y)):F1 tb Γ(.bin .eql a b)(some(decide(x=y)))fun z=> .val T.b z:=by
 rintro E rv fp f H R z⟨⟩
 exact⟨_,none,by simp only[Bq,EC.1(ha E rv fp f H R),EC.1(hb E rv fp f H R),bin];rfl,rfl,Gg.2(by congr 1;rw[Bool.eq_iff_iff];simp)⟩
theorem F8(ha:CA tb Γ a(.val Ax x)):F1 tb Γ(.lens a)(some(x.length:Int))fun z=> .val(T.int .i64)z:=by
 rintro E rv fp f H R z⟨⟩
 exact⟨_,none,by simp only[Bq,EC.1(ha E rv fp f H R)],rfl,Ca.2 rfl⟩
theorem EE{k:IntKind}{n:Int}(ha:CA tb Γ a(.val Ax x))(hb:CA tb Γ b(.val(T.int k)n)):F1 tb Γ(.ixs a b)(Fv x n)fun z=> .val T.u8 z:=by
 intro E rv fp f H R z hz
 simp only[Fv]at hz
 split at hz
 ·rename_i h0
  exact⟨_,none,by simp only[Bq,EC.1(ha E rv fp f H R),Ca.1(hb E rv fp f H R),HW,Option.bind_some,if_pos h0,hz,Option.map_some],rfl,U4.2 rfl⟩
 ·cases hz
theorem UP{lo hi:Option AO}{l h:Option Int}(ha:CA tb Γ a(.val Ax x))(hl:uX tb Γ lo l)(hh:uX tb Γ hi h):F1 tb Γ(.sls a lo hi)(Vk x l h)fun z=> .val Ax z:=by
 intro E rv fp f H R z hz
 obtain⟨p,hp,rfl⟩:=Option.map_eq_some_iff.1 hz
 exact⟨_,none,by simp only[Bq,EC.1(ha E rv fp f H R),Uw hl hh R,hp,Option.map_some],rfl,EC.2 rfl⟩
theorem h_cvc{k:IntKind}{n:Int}(ha:CA tb Γ a(.val(T.int k)n)):F1 tb Γ(.cvc a)(some(Utf8.encode n).data.toList)fun z=> .val Ax z:=by
 rintro E rv fp f H R z⟨⟩
 exact⟨_,none,by simp only[Bq,Ca.1(ha E rv fp f H R)],rfl,EC.2 rfl⟩
end
def gd(g:Nat)(w:Bool)(o:AU):AU:=match o.g with
 |none=>{o with g:=some(g,w)}
 |some _=>o
def Z5:List Nat→List AU→Bool
 |_,[]=>true
 |seen,o::r=>(match o.g with
  |none=>true
  |some(t,_)=>seen.any(Nat.beq t))&&Z5(match o.d with|some d=>d::seen|none=>seen)r
def E4(l:List AU):List Nat:=l.filterMap(·.d)
structure Bk(tb:CZ)(Γ:Cx)(q:Bool)(l:List AU)(t:Nat)where
 m:Option Bool
 ok: ∀E rv fp f H,Bp E Γ rv fp f H→ ∀b,m=some b→ ∃f',AX tb(Ck tb)(rg q l)f H=some(.normal,f',H)∧get f' t= .b b∧ ∀u,u∉E4 l→get f' u=get f u
def Bk.nil{q:Bool}{t:Nat}{b:Bool}(h:CA tb Γ(.t t)(.val T.b b)):Bk tb Γ q []t:=
 ⟨some b,fun E rv fp f H I _ hb=>by
  cases hb
  exact⟨f,Dy,Gg.1(h E rv fp f H I),fun _ _=>rfl⟩⟩
def Bk.op{q:Bool}{t d:Nat}{o:HT}{l:List AU}{β:Type}{a:Option β}{φ:β→AL}(h:F1 tb Γ o a φ)(k:(b:β)→Bk tb(Γ.push d(φ b))q l t):Bk tb Γ q(⟨some d,none,o⟩::l)t:=
 ⟨a.bind fun b=>(k b).m,fun E rv fp f H I r hr=>by
  obtain⟨b,hb,hr⟩:=Option.bind_eq_some_iff.1 hr
  obtain⟨v,u,h1,h2,h3⟩:=h E rv fp f H I b hb
  obtain⟨f',h4,h5,h6⟩:=(k b).ok E rv fp(put f(some d)v)H(I.push h3)r hr
  refine⟨f',by rw[EA h1 h2];exact h4,h5,fun u hu=> ?_⟩
  simp only[E4,List.filterMap_cons,List.mem_cons,not_or]at hu
  rw[h6 u hu.2]
  simp only[put,get]
  rw[if_neg(Ne.symm hu.1)]⟩
def Cd{q:Bool}{t d:Nat}{o:HT}{l:List AU}{u:T}{x:u.α}(h:F1 tb Γ o(some())fun _=> .val u x)(k:(y:u.α)→Bk tb(Γ.push d(.val u y))q l t):Bk tb Γ q(⟨some d,none,o⟩::l)t:=
 ⟨(k x).m,(Bk.op(a:=some())(φ:=fun _=> .val u x)h fun _=>k x).ok⟩
def AQ{q:Bool}{t d:Nat}{o:HT}{l:List AU}{φ:AL}(h:F1 tb Γ o(some())fun _=>φ)(k:Bk tb(Γ.push d φ)q l t):Bk tb Γ q(⟨some d,none,o⟩::l)t:=
 ⟨k.m,(Bk.op(a:=some())(φ:=fun _=>φ)h fun _=>k).ok⟩
theorem Fy{q:Bool}: ∀{l r:List AU}{f f':Fr}{H H':Av},AX tb(Ck tb)(rg q l)f H=some(.normal,f',H')→AX tb(Ck tb)(rg q(l++r))f H=AX tb(Ck tb)(rg q r)f' H'
 |[],r,f,f',H,H',h=>by rw[Dy]at h;cases h;rfl
 |o::l,r,f,f',H,H',h=>by
  cases q with
  |true=>
   simp only[rg,if_true,AX,List.cons_append,Ih]at h ⊢
   cases hw:wanted f o.g with
   |none=>rw[hw]at h;simp at h
   |some w=>
    rw[hw]at h
    simp only[Option.bind_some]at h ⊢
    cases w with
    |false=>
     simp only[Bool.false_eq_true,if_false]at h ⊢
     exact Fy(q:=true)(l:=l)(r:=r)(by simpa [rg,AX]using h)
    |true=>
     simp only[if_true]at h ⊢
     cases hp:Bq tb(Ck tb)(eval tb f)H o.o with
     |none=>rw[hp]at h;simp at h
     |some p=>
      rw[hp]at h
      simp only[Option.bind_some]at h ⊢
      split at h
      ·rename_i hs
       rw[if_pos hs]
       exact Fy(q:=true)(l:=l)(r:=r)(by simpa [rg,AX]using h)
      ·simp at h
  |false=>
   simp only[rg,Bool.false_eq_true,if_false,AX,List.cons_append,ops]at h ⊢
   cases hw:wanted f o.g with
   |none=>rw[hw]at h;simp at h
   |some w=>
    rw[hw]at h
    simp only[Option.bind_some]at h ⊢
    cases w with
    |false=>
     simp only[Bool.false_eq_true,if_false]at h ⊢
     exact Fy(q:=false)(l:=l)(r:=r)(by simpa [rg,AX]using h)
    |true=>
     simp only[if_true]at h ⊢
     cases hp:Bq tb(Ck tb)(eval tb f)H o.o with
     |none=>rw[hp]at h;simp at h
     |some p=>
      rw[hp]at h
      simp only[Option.bind_some]at h ⊢
      exact Fy(q:=false)(l:=l)(r:=r)(by simpa [rg,AX]using h)
def KI(g:Nat)(w:Bool):Nat→List AU→Option(List AU×List AU)
 |0,L=>some([],L)
 |n+1,⟨d,some(g',w'),o⟩::r=>(KI g w n r).map fun p=>(if Nat.beq g' g&&(w'==w)then⟨d,none,o⟩::p.1 else⟨d,some(g',w'),o⟩::p.1,p.2)
 |_,_=>none
theorem Hf{g:Nat}{w:Bool}: ∀{n:Nat}{L l R:List AU},KI g w n L=some(l,R)→L=l.map(gd g w)++R
 |0,L,l,R,h=>by simp only[KI,Option.some.injEq,Prod.mk.injEq]at h;rw[←h.1,←h.2];rfl
 |n+1,[],l,R,h=>by simp[KI]at h
 |n+1,⟨d,none,o⟩::r,l,R,h=>by simp[KI]at h
 |n+1,⟨d,some(g',w'),o⟩::r,l,R,h=>by
  simp only[KI]at h
  obtain⟨p,hp,h⟩:=Option.map_eq_some_iff.1 h
  have ih:=Hf(l:=p.1)(R:=p.2)hp
  simp only[Prod.mk.injEq]at h
  obtain⟨h1,rfl⟩:=h
  split at h1
  ·rename_i hc
   simp only[Bool.and_eq_true,beq_iff_eq]at hc
   obtain⟨hc,rfl⟩:=hc
   have hc:=Nat.eq_of_beq_eq_true hc
   subst hc
   rw[←h1,ih];rfl
  ·rw[←h1,ih];rfl
theorem Gt{f:Fr}{g:Nat}{w:Bool}{v:AV}{d:Option Nat}(h:d≠some g):get(put f d v)g=get f g:=by
 cases d with
 |none=>rfl
 |some d=>simp only[put,get];rw[if_neg(fun e=>h(by rw[e]))]
theorem WN{q:Bool}{g:Nat}{w:Bool}: ∀{l:List AU}{f:Fr}{H:Av},get f g= .b w→g∉E4 l→AX tb(Ck tb)(rg q(l.map(gd g w)))f H=AX tb(Ck tb)(rg q l)f H
 |[],_,_,_,_=>rfl
 |o::l,f,H,h,hn=>by
  have hd:o.d≠some g:=fun e=>hn(by simp[E4,e])
  have hn':g∉E4 l:=fun e=>hn(by
   simp only[E4,List.filterMap_cons]at e ⊢
   cases o.d<;>simp[e])
  have hwt:wanted f(gd g w o).g=wanted f o.g:=by
   cases ho:o.g with
   |none=>simp[gd,ho,wanted,h]
   |some p=>simp[gd,ho]
  have hoo:(gd g w o).o=o.o:=by cases ho:o.g<;>simp[gd,ho]
  have hod:(gd g w o).d=o.d:=by cases ho:o.g<;>simp[gd,ho]
  have ih: ∀v H',AX tb(Ck tb)(rg q(l.map(gd g w)))(put f o.d v)H'=AX tb(Ck tb)(rg q l)(put f o.d v)H':=fun v H'=>WN(by rw[Gt(w:=w)hd];exact h)hn'
  cases q with
  |true=>
   have ih': ∀v H',Ih tb(Ck tb)H'(l.map(gd g w))(put f o.d v)=Ih tb(Ck tb)H' l(put f o.d v):=fun v H'=>by
    have:=ih v H'
    simp only[rg,if_true,AX]at this
    cases h1:Ih tb(Ck tb)H'(l.map(gd g w))(put f o.d v)<;>cases h2:Ih tb(Ck tb)H' l(put f o.d v)<;>simp_all
   simp only[rg,if_true,AX,List.map_cons,Ih,hwt,hoo,hod,ih']
  |false=>
   have ih': ∀v H',ops tb(Ck tb)(l.map(gd g w))(put f o.d v)H'=ops tb(Ck tb)l(put f o.d v)H':=fun v H'=>by
    have:=ih v H'
    simp only[rg,Bool.false_eq_true,if_false,AX]at this
    cases h1:ops tb(Ck tb)(l.map(gd g w))(put f o.d v)H'<;>cases h2:ops tb(Ck tb)l(put f o.d v)H'<;>simp_all [Prod.ext_iff]
   simp only[rg,Bool.false_eq_true,if_false,AX,List.map_cons,ops,hwt,hoo,hod,ih']
theorem Qb{q:Bool}{g:Nat}{w:Bool}: ∀{l:List AU}{seen:List Nat}{f:Fr}{H:Av},get f g= .b(!w)→g∉E4 l→Z5 seen l=true→(∀t∈seen,get f t= .tup [])→
  ∃f',AX tb(Ck tb)(rg q(l.map(gd g w)))f H=some(.normal,f',H)∧ ∀u,u∉E4 l→get f' u=get f u
 |[],seen,f,H,_,_,_,_=>⟨f,Dy,fun _ _=>rfl⟩
 |o::l,seen,f,H,h,hn,hs,hseen=>by
  have hd:o.d≠some g:=fun e=>hn(by simp[E4,e])
  have hn':g∉E4 l:=fun e=>hn(by
   simp only[E4,List.filterMap_cons]at e ⊢
   cases o.d<;>simp[e])
  simp only[Z5,Bool.and_eq_true]at hs
  have hwt:wanted f(gd g w o).g=some false:=by
   cases ho:o.g with
   |none=>simp[gd,ho,wanted,h]
   |some p=>
    obtain⟨t,b⟩:=p
    simp only[gd,ho,wanted]
    have:=hs.1
    rw[ho]at this
    obtain⟨x,hx,hb⟩:=List.any_eq_true.1 this
    have hb:=Nat.eq_of_beq_eq_true hb
    subst hb
    rw[hseen _ hx]
  have hod:(gd g w o).d=o.d:=by cases ho:o.g<;>simp[gd,ho]
  obtain⟨f',h1,h2⟩:=Qb(q:=q)(w:=w)(l:=l)(seen:=match o.d with|some d=>d::seen|none=>seen)(f:=put f o.d(.tup []))(H:=H)
   (by rw[Gt(w:=w)hd];exact h)hn' hs.2(fun t ht=>by
    cases hdd:o.d with
    |none=>rw[hdd]at ht;exact hseen t ht
    |some d=>
     rw[hdd]at ht
     simp only[put,get]
     by_cases e:d=t
     ·rw[if_pos e]
     ·rw[if_neg e]
      rcases List.mem_cons.1 ht with e'|ht
      ·exact absurd e'.symm e
      ·exact hseen t ht)
  refine⟨f',?_,fun u hu=> ?_⟩
  ·cases q with
   |true=>
    simp only[rg,if_true,AX]at h1 ⊢
    simp only[List.map_cons,Ih,hwt,Option.bind_some,Bool.false_eq_true,if_false,hod];exact h1
   |false=>
    simp only[rg,Bool.false_eq_true,if_false,AX]at h1 ⊢
    simp only[List.map_cons,ops,hwt,Option.bind_some,Bool.false_eq_true,if_false,hod];exact h1
  ·have hu':u∉E4 l:=fun e=>hu(by
    simp only[E4,List.filterMap_cons]at e ⊢
    cases o.d<;>simp[e])
   rw[h2 u hu']
   exact Gt(w:=w)fun e=>hu(by simp[E4,e])
def YT(l:List Nat)(n:Nat):Bool:=l.any(Nat.beq n)
theorem JQ{l:List Nat}{n:Nat}(h:YT l n=false):n∉l:=by
 intro hm
 rw[YT,List.any_eq_false]at h
 exact h n hm(by simp)
def rJ(l:List Nat)(ts:Ts):Bool:=ts.all fun p=> !YT l p.1
theorem IK{l:List Nat}: ∀{ts:Ts}{t:Nat}{φ:AL},rJ l ts=true→BD ts t=some φ→t∉l
 |[],_,_,_,e=>by simp[BD]at e
 |(u,ψ)::r,t,φ,h,e=>by
  simp only[rJ,List.all_cons,Bool.and_eq_true,Bool.not_eq_true']at h
  simp only[BD]at e
  split at e
  ·rename_i hu;subst hu;exact JQ h.1
  ·exact IK(by simpa [rJ]using h.2)e
def VQ(g:Nat)(l:List AU)(ts:Ts):Bool:=Z5 []l&&(!YT(E4 l)g&&rJ(E4 l)ts)
theorem WZ{f:Fr}{H:Av}{E:Pr}{rv:Nat→AV}{fp:Fp}(I:Bp E Γ rv fp f H){d:Nat}{z:Bool}:Bp E(Γ.push d(.val T.b z))rv fp(put f(some d)(.b z))H:=I.push(Gg.2 rfl)
def D1(b:Bool)(m:Option Bool):Option Bool:=if b=true then m else some false
def Ig(b:Bool)(m:Option Bool):Option Bool:=if b=true then some true else m
variable {ks:List Kf}{ρ:Type}{Q:Mb ρ}
def Aa.and{q:Bool}{L l rest:List AU}{g t d:Nat}{b:Bool}(n:Nat)(og:BD Γ.ts g=some(.val T.b b))(h:KI g true n L=some(l,⟨some d,none, .pick(.t g)(.t t)(.k(.b false))⟩::rest))(hc:VQ g l Γ.ts=true)
  (OW:Bk tb Γ q l t)(k:(z:Bool)→Aa tb(Γ.push d(.val T.b z))(rg q rest)ks Q):Aa tb Γ(rg q L)ks Q:=
 ⟨(D1 b OW.m).bind fun z=>(k z).m,fun E f H⟨rv,fp,I⟩r hr=>by
  obtain⟨z,hz,hr⟩:=Option.bind_eq_some_iff.1 hr
  have hL:=Hf h
  simp only[VQ,Bool.and_eq_true,Bool.not_eq_true']at hc
  obtain⟨hc1,hc2,hc3⟩:=hc
  have hg:=Gg.1(I.temps g _ og)
  have hng:=JQ hc2
  have fin: ∃f',AX tb(Ck tb)(rg q(l.map(gd g true)))f H=some(.normal,f',H)∧(∀u,u∉E4 l→get f' u=get f u)∧(if b then get f' t else .b false)= .b z:=by
   cases b with
   |true=>
    obtain⟨f',h1,h2,h3⟩:=OW.ok E rv fp f H I z(by simpa [D1,Ig]using hz)
    exact⟨f',by rw[WN hg hng];exact h1,h3,by simpa using h2⟩
   |false=>
    obtain⟨f',h1,h2⟩:=Qb(tb:=tb)(q:=q)(w:=true)(H:=H)hg hng hc1(by simp)
    exact⟨f',h1,h2,by simpa [D1,Ig]using hz⟩
  obtain⟨f',h1,h2,h3⟩:=fin
  have hp:Bq tb(Ck tb)(eval tb f')H(.pick(.t g)(.t t)(.k(.b false)))=some(.b z,none):=by
   simp only[Bq,eval,h2 g hng,hg]
   rw[←h3]
  have I':Bp E Γ rv fp f' H:=I.fr fun u φ e=>h2 u(IK hc3 e)
  obtain⟨e,f2,H2,h4,h5⟩:=(k z).ok E _ H⟨rv,fp,WZ I'⟩r hr
  exact⟨e,f2,H2,by rw[hL,Fy h1,EA hp rfl];exact h4,h5⟩⟩
def Aa.or{q:Bool}{L l rest:List AU}{g t d:Nat}{b:Bool}(n:Nat)(og:BD Γ.ts g=some(.val T.b b))(h:KI g false n L=some(l,⟨some d,none, .pick(.t g)(.k(.b true))(.t t)⟩::rest))(hc:VQ g l Γ.ts=true)
  (OW:Bk tb Γ q l t)(k:(z:Bool)→Aa tb(Γ.push d(.val T.b z))(rg q rest)ks Q):Aa tb Γ(rg q L)ks Q:=
 ⟨(Ig b OW.m).bind fun z=>(k z).m,fun E f H⟨rv,fp,I⟩r hr=>by
  obtain⟨z,hz,hr⟩:=Option.bind_eq_some_iff.1 hr
  have hL:=Hf h
  simp only[VQ,Bool.and_eq_true,Bool.not_eq_true']at hc
  obtain⟨hc1,hc2,hc3⟩:=hc
  have hg:=Gg.1(I.temps g _ og)
  have hng:=JQ hc2
  have fin: ∃f',AX tb(Ck tb)(rg q(l.map(gd g false)))f H=some(.normal,f',H)∧(∀u,u∉E4 l→get f' u=get f u)∧(if b then .b true else get f' t)= .b z:=by
   cases b with
   |false=>
    obtain⟨f',h1,h2,h3⟩:=OW.ok E rv fp f H I z(by simpa [D1,Ig]using hz)
    exact⟨f',by rw[WN hg hng];exact h1,h3,by simpa using h2⟩
   |true=>
    obtain⟨f',h1,h2⟩:=Qb(tb:=tb)(q:=q)(w:=false)(H:=H)hg hng hc1(by simp)
    exact⟨f',h1,h2,by simpa [D1,Ig]using hz⟩
  obtain⟨f',h1,h2,h3⟩:=fin
  have hp:Bq tb(Ck tb)(eval tb f')H(.pick(.t g)(.k(.b true))(.t t))=some(.b z,none):=by
   simp only[Bq,eval,h2 g hng,hg]
   rw[←h3]
  have I':Bp E Γ rv fp f' H:=I.fr fun u φ e=>h2 u(IK hc3 e)
  obtain⟨e,f2,H2,h4,h5⟩:=(k z).ok E _ H⟨rv,fp,WZ I'⟩r hr
  exact⟨e,f2,H2,by rw[hL,Fy h1,EA hp rfl];exact h4,h5⟩⟩
def Bk.and{q:Bool}{L l rest:List AU}{g t t' d:Nat}{b:Bool}(n:Nat)(og:BD Γ.ts g=some(.val T.b b))(h:KI g true n L=some(l,⟨some d,none, .pick(.t g)(.t t)(.k(.b false))⟩::rest))(hc:VQ g l Γ.ts=true)
  (hd:(E4 l).all(YT(E4 L))=true)(hd':(d::E4 rest).all(YT(E4 L))=true)
  (OW:Bk tb Γ q l t)(k:(z:Bool)→Bk tb(Γ.push d(.val T.b z))q rest t'):Bk tb Γ q L t':=
 ⟨(D1 b OW.m).bind fun z=>(k z).m,fun E rv fp f H I r hr=>by
  obtain⟨z,hz,hr⟩:=Option.bind_eq_some_iff.1 hr
  have hL:=Hf h
  simp only[VQ,Bool.and_eq_true,Bool.not_eq_true']at hc
  obtain⟨hc1,hc2,hc3⟩:=hc
  have hg:=Gg.1(I.temps g _ og)
  have hng:=JQ hc2
  have sub: ∀{m:List Nat},m.all(YT(E4 L))=true→ ∀u,u∉E4 L→u∉m:=fun hm u hu hum=>by
   have:=List.all_eq_true.1 hm u hum
   obtain⟨x,hx,hb⟩:=List.any_eq_true.1 this
   exact hu(Nat.eq_of_beq_eq_true hb▸hx)
  have fin: ∃f',AX tb(Ck tb)(rg q(l.map(gd g true)))f H=some(.normal,f',H)∧(∀u,u∉E4 l→get f' u=get f u)∧(if b then get f' t else .b false)= .b z:=by
   cases b with
   |true=>
    obtain⟨f',h1,h2,h3⟩:=OW.ok E rv fp f H I z(by simpa [D1,Ig]using hz)
    exact⟨f',by rw[WN hg hng];exact h1,h3,by simpa using h2⟩
   |false=>
    obtain⟨f',h1,h2⟩:=Qb(tb:=tb)(q:=q)(w:=true)(H:=H)hg hng hc1(by simp)
    exact⟨f',h1,h2,by simpa [D1,Ig]using hz⟩
  obtain⟨f',h1,h2,h3⟩:=fin
  have hp:Bq tb(Ck tb)(eval tb f')H(.pick(.t g)(.t t)(.k(.b false)))=some(.b z,none):=by
   simp only[Bq,eval,h2 g hng,hg]
   rw[←h3]
  have I':Bp E Γ rv fp f' H:=I.fr fun u φ e=>h2 u(IK hc3 e)
  obtain⟨f2,h4,h5,h6⟩:=(k z).ok E rv fp _ H(WZ I')r hr
  refine⟨f2,by rw[hL,Fy h1,EA hp rfl];exact h4,h5,fun u hu=> ?_⟩
  have hu':=sub hd' u hu
  rw[h6 u fun e=>hu'(List.mem_cons_of_mem _ e),Gt(w:=true)(fun e=>hu'(by cases e;exact List.mem_cons_self)),h2 u(sub hd u hu)]⟩
def Bk.or{q:Bool}{L l rest:List AU}{g t t' d:Nat}{b:Bool}(n:Nat)(og:BD Γ.ts g=some(.val T.b b))(h:KI g false n L=some(l,⟨some d,none, .pick(.t g)(.k(.b true))(.t t)⟩::rest))(hc:VQ g l Γ.ts=true)
  (hd:(E4 l).all(YT(E4 L))=true)(hd':(d::E4 rest).all(YT(E4 L))=true)
  (OW:Bk tb Γ q l t)(k:(z:Bool)→Bk tb(Γ.push d(.val T.b z))q rest t'):Bk tb Γ q L t':=
 ⟨(Ig b OW.m).bind fun z=>(k z).m,fun E rv fp f H I r hr=>by
  obtain⟨z,hz,hr⟩:=Option.bind_eq_some_iff.1 hr
  have hL:=Hf h
  simp only[VQ,Bool.and_eq_true,Bool.not_eq_true']at hc
  obtain⟨hc1,hc2,hc3⟩:=hc
  have hg:=Gg.1(I.temps g _ og)
  have hng:=JQ hc2
  have sub: ∀{m:List Nat},m.all(YT(E4 L))=true→ ∀u,u∉E4 L→u∉m:=fun hm u hu hum=>by
   have:=List.all_eq_true.1 hm u hum
   obtain⟨x,hx,hb⟩:=List.any_eq_true.1 this
   exact hu(Nat.eq_of_beq_eq_true hb▸hx)
  have fin: ∃f',AX tb(Ck tb)(rg q(l.map(gd g false)))f H=some(.normal,f',H)∧(∀u,u∉E4 l→get f' u=get f u)∧(if b then .b true else get f' t)= .b z:=by
   cases b with
   |false=>
    obtain⟨f',h1,h2,h3⟩:=OW.ok E rv fp f H I z(by simpa [D1,Ig]using hz)
    exact⟨f',by rw[WN hg hng];exact h1,h3,by simpa using h2⟩
   |true=>
    obtain⟨f',h1,h2⟩:=Qb(tb:=tb)(q:=q)(w:=false)(H:=H)hg hng hc1(by simp)
    exact⟨f',h1,h2,by simpa [D1,Ig]using hz⟩
  obtain⟨f',h1,h2,h3⟩:=fin
  have hp:Bq tb(Ck tb)(eval tb f')H(.pick(.t g)(.k(.b true))(.t t))=some(.b z,none):=by
   simp only[Bq,eval,h2 g hng,hg]
   rw[←h3]
  have I':Bp E Γ rv fp f' H:=I.fr fun u φ e=>h2 u(IK hc3 e)
  obtain⟨f2,h4,h5,h6⟩:=(k z).ok E rv fp _ H(WZ I')r hr
  refine⟨f2,by rw[hL,Fy h1,EA hp rfl];exact h4,h5,fun u hu=> ?_⟩
  have hu':=sub hd' u hu
  rw[h6 u fun e=>hu'(List.mem_cons_of_mem _ e),Gt(w:=true)(fun e=>hu'(by cases e;exact List.mem_cons_self)),h2 u(sub hd u hu)]⟩
end
end Go.Proofs.YtobejhpigbllpaaGreatDoor.Am
namespace Go.Proofs.YtobejhpigbllpaaGreatDoor.Am
structure AM(t u:T)(off:Nat)where
 get:t.α→u.α
 put:t.α→u.α→t.α
 le:off+u.sz≤t.sz
 getR: ∀{P:Nat→Prop}{H:Av}{cs:List AV}{x:t.α},t.R P H cs x→u.R P H(sub cs off u.sz)(get x)
 putR: ∀{P:Nat→Prop}{H:Av}{cs:List AV}{x:t.α}{c:List AV}{y:u.α},t.R P H cs x→u.R P H c y→t.R P H(By cs off c)(put x y)
def Aw(t:T):AM t t 0 where
 get:=fun x=>x
 put:=fun _ y=>y
 le:=by omega
 getR:=fun{P H cs x}h=>by
  have:=t.len h
  rw[show sub cs 0 t.sz=cs by simp only[sub,List.drop_zero];exact List.take_of_length_le(by omega)];exact h
 putR:=fun{P H cs x c y}h g=>by
  have h1:=t.len h
  have h2:=t.len g
  rw[show By cs 0 c=c by simp[By,List.drop_eq_nil_of_le(show cs.length≤c.length by omega)]];exact g
def DR{a b u:T}{off:Nat}(F:AM a u off):AM(CH a b)u off where
 get:=fun x=>F.get x.1
 put:=fun x y=>(F.put x.1 y,x.2)
 le:=Nat.le_trans F.le(Nat.le_add_right _ _)
 getR:=fun{P H cs x}⟨c,d,e,h,g⟩=>by
  have h1:=a.len h
  have h2:=F.le
  have:=F.getR h
  rw[show sub cs off u.sz=sub c off u.sz by
   subst e
   simp only[sub]
   rw[List.drop_append_of_le_length(by omega),List.take_append_of_le_length(by simp;omega)]]
  exact this
 putR:=fun{P H cs x c' y}⟨c,d,e,h,g⟩k=>by
  have h1:=a.len h
  have h2:=F.le
  have h3:=u.len k
  refine⟨By c off c',d,?_,F.putR h k,g⟩
  subst e
  simp only[By]
  rw[List.take_append_of_le_length(by omega),List.drop_append_of_le_length(by omega)]
  simp
def Bc{a b u:T}{off:Nat}(F:AM b u off):AM(CH a b)u(a.sz+off)where
 get:=fun x=>F.get x.2
 put:=fun x y=>(x.1,F.put x.2 y)
 le:=by have:=F.le;show a.sz+off+u.sz≤a.sz+b.sz;omega
 getR:=fun{P H cs x}⟨c,d,e,h,g⟩=>by
  have h1:=a.len h
  have:=F.getR g
  rw[show sub cs(a.sz+off)u.sz=sub d off u.sz by
   subst e
   simp only[sub]
   rw[←List.drop_drop,List.drop_left' h1]]
  exact this
 putR:=fun{P H cs x c' y}⟨c,d,e,h,g⟩k=>by
  have h1:=a.len h
  refine⟨c,By d off c',?_,h,F.putR g k⟩
  subst e
  simp only[By]
  rw[List.take_append,List.take_of_length_le(by omega),show a.sz+off-c.length=off by omega]
  rw[show a.sz+off+c'.length=c.length+(off+c'.length)by omega,←List.drop_drop,List.drop_left' rfl]
  simp
def Dj{t u:T}{off:Nat}{β:Type}{f:β→t.α}{g:t.α→β}{hfg: ∀y,f(g y)=y}(F:AM t u off):AM(Pg t β f g hfg)u off where
 get:=fun x=>F.get(f x)
 put:=fun x y=>g(F.put(f x)y)
 le:=F.le
 getR:=fun h=>F.getR h
 putR:=fun{P H cs x c y}h k=>by
  show t.R P H _(f(g _))
  rw[hfg]
  exact F.putR h k
def Ar.set{α:Type}{n:Nat}(a:Ar α n)(i:Nat)(x:α):Ar α n:=⟨a.l.set i x,by rw[List.length_set];exact a.len⟩
section
variable {tb:CZ}{Γ:Cx}{a b:AO}
theorem Ty.len{t:T}{P:Nat→Prop}{H:Av}{v:AV}: ∀{g:GS t.α},Ty t P H v g→PG v=some g.l.length
 | .nil,h=>by rw[show v=_ from h];rfl
 | .mk l,⟨bp,els,e,h⟩=>by
  have hl:=h.length
  cases v<;>simp only[MF]at bp<;>simp only[Ez]at e<;>simp only[PG,GS.l,Option.some.injEq]
  ·split at e
   ·cases e;exact hl
   ·cases e
  ·obtain⟨r,hr,e⟩:=Option.bind_eq_some_iff.1 e
   split at e
   ·rename_i hc
    cases e
    rw[List.length_take,List.length_drop]at hl
    omega
   ·cases e
  ·obtain⟨r,hr,e⟩:=Option.bind_eq_some_iff.1 e
   split at e
   ·cases e
    rename_i hc
    rw[←hl]
    have: ∀(n:Nat)(l:List AV)(sz:Nat),(BR sz n l).length=n:=by
     intro n
     induction n with
     |zero=>intro l sz;rfl
     |succ n ih=>intro l sz;simp[BR,ih]
    exact(this _ _ _).symm
   ·cases e
theorem Ty.els{t:T}{P:Nat→Prop}{H:Av}{v:AV}: ∀{g:GS t.α},Ty t P H v g→ ∃els,Ez H t.sz v=some els∧CJ t P H els g.l
 | .nil,h=>by rw[show v=_ from h];exact⟨[],rfl,trivial⟩
 | .mk l,⟨_,els,e,h⟩=>⟨els,e,h⟩
theorem E3{t:T}{g:GS t.α}(ha:CA tb Γ a(.val(T.sl t)g)):F1 tb Γ(.len a)(some(g.l.length:Int))fun z=> .val(T.int .i64)z:=by
 rintro E rv fp f H R z⟨⟩
 exact⟨_,none,by simp only[Bq,(Ka.1(ha E rv fp f H R)).len,Option.map_some],rfl,Ca.2 rfl⟩
theorem Tf{sz:Nat}: ∀{n i:Nat}{l c:List AV},n*sz≤l.length→(BR sz n l)[i]? =some c→sub l(i*sz)sz=c∧i*sz+sz≤l.length
 |0,i,l,c,_,h=>by simp[BR]at h
 |n+1,0,l,c,hl,h=>by
  simp only[BR,List.getElem?_cons_zero,Option.some.injEq]at h
  rw[Nat.succ_mul]at hl
  exact⟨by simpa [sub]using h,by omega⟩
 |n+1,i+1,l,c,hl,h=>by
  simp only[BR,List.getElem?_cons_succ]at h
  rw[Nat.succ_mul]at hl
  obtain⟨h1,h2⟩:=Tf(l:=l.drop sz)(by simp;omega)h
  simp only[List.length_drop]at h2
  refine⟨?_,by rw[Nat.succ_mul];omega⟩
  simp only[sub,List.drop_drop]at h1 ⊢
  rw[show(i+1)*sz=sz+i*sz by rw[Nat.succ_mul];omega];exact h1
theorem Qv{els:List(List AV)}{i:Nat}{c:List AV}(hc:els[i]? =some c):(els.drop i).flatten=c++(els.drop(i+1)).flatten:=by
 obtain⟨hi,rfl⟩:=List.getElem?_eq_some_iff.1 hc
 rw[List.drop_eq_getElem_cons hi,List.flatten_cons]
theorem fU{c d:List AV}{o k:Nat}(h:o+k≤c.length):sub(c++d)o k=sub c o k:=by
 simp only[sub]
 rw[List.drop_append_of_le_length(by omega),List.take_append_of_le_length(by simp;omega)]
theorem Ty.addr{t:T}{P:Nat→Prop}{H:Av}{v:AV}{i:Nat}{x:t.α}: ∀{g:GS t.α},Ty t P H v g→g.l[i]? =some x→ ∃p,UO H t.sz v i=some p∧Zu t P H p x
 | .nil,_,h=>by simp[GS.l]at h
 | .mk l,⟨bp,els,e,h⟩,hx=>by
  obtain⟨c,hc,hr⟩:=h.get hx
  have hi:i<els.length:=(List.getElem?_eq_some_iff.1 hc).1
  have hlen:=t.len hr
  have hsub: ∀cs:List AV,cs=c→sub cs 0 t.sz=c:=fun cs e=>by
   subst e;simp only[sub,List.drop_zero];exact List.take_of_length_le(by omega)
  simp only[UO,e,Option.bind_some,if_pos hi]
  cases v<;>simp only[MF]at bp
  ·refine⟨.ip c 0,by simp[hc],trivial,c,0,rfl,by omega,by rw[hsub c rfl];exact hr,fun m hm=> ?_⟩
   simpa [B9]using t.men hr hm
  ·rename_i id k lo len
   simp only[Ez]at e
   obtain⟨r,hrow,e⟩:=Option.bind_eq_some_iff.1 e
   split at e
   ·rename_i hcd
    cases e
    have hc':r.2.2[lo+i]? =some c:=by
     rw[List.getElem?_take]at hc
     split at hc
     ·rwa [List.getElem?_drop]at hc
     ·cases hc
    refine⟨.pe id k(lo+i)0,rfl,bp,_,0,by simp only[place,hrow,Option.bind_some,if_pos hcd.1];rfl,by rw[Qv hc'];simp;omega,by rw[Qv hc',fU(by omega),hsub c rfl];exact hr,fun m hm=>by simp only[B9];exact hm _ bp⟩
   ·cases e
  ·rename_i sz' id off len
   simp only[Ez]at e
   obtain⟨r,hrow,e⟩:=Option.bind_eq_some_iff.1 e
   split at e
   ·rename_i hcd
    cases e
    obtain⟨h1,h2⟩:=Tf(by simp;omega)hc
    simp only[List.length_drop]at h2
    refine⟨.ptr id(off+i*t.sz),rfl,bp,r,off+i*t.sz,by simp[place,hrow],by omega,?_,fun m hm=>by simp only[B9];exact hm _ bp⟩
    have:sub r(off+i*t.sz)t.sz=c:=by
     simp only[sub,List.drop_drop]at h1 ⊢;exact h1
    rw[this];exact hr
   ·cases e
theorem FU{t:T}{g:GS t.α}{k:IntKind}{i:Int}{sz:Nat}(hs:sz=t.sz)(ha:CA tb Γ a(.val(T.sl t)g))(hb:CA tb Γ b(.val(T.int k)i)):F1 tb Γ(.ias sz a b)(Fv g.l i)fun x=> .rp t x:=by
 intro E rv fp f H R x hx
 simp only[Fv]at hx
 split at hx
 ·rename_i h0
  obtain⟨p,h1,h2⟩:=(Ka.1(ha E rv fp f H R)).addr hx
  subst hs
  exact⟨p,none,by simp only[Bq,Ca.1(hb E rv fp f H R),HW,Option.bind_some,if_pos h0,h1,val,Option.map_some],rfl,h2⟩
 ·cases hx
theorem Zu.load{t:T}{P:Nat→Prop}{H:Av}{p:AV}{x:t.α}(h:Zu t P H p x): ∃v,load H t.agg t.sz p=some v∧t.V P H v x:=by
 obtain⟨_,cs,off,e,l,r,_⟩:=h
 obtain⟨v,h1,h2⟩:=T.V.of r
 exact⟨v,by simp only[Am.load,e,Option.bind_some,if_pos l,h1],h2⟩
theorem Jg{t:T}{x:t.α}{ag:Bool}{n:Nat}(hag:ag=t.agg)(hn:n=t.sz)(ha:CA tb Γ a(.rp t x)):F1 tb Γ(.ld ag n a)(some())fun _=> .val t x:=by
 rintro E rv fp f H R z⟨⟩
 obtain⟨v,h1,h2⟩:=Zu.load(ha E rv fp f H R)
 subst hag hn
 exact⟨v,none,by simp only[Bq,h1,val,Option.map_some],rfl,h2⟩
theorem Zu.shift{t u:T}{off:Nat}(F:AM t u off){P:Nat→Prop}{H:Av}{p:AV}{x:t.α}(h:Zu t P H p x): ∃v,shift off p=some v∧Zu u P H v(F.get x):=by
 obtain⟨hp,cs,o,e,l,r,hm⟩:=h
 have hle:=F.le
 have hr:=F.getR r
 have hsub:sub(sub cs o t.sz)off u.sz=sub cs(o+off)u.sz:=by
  simp only[sub]
  rw[List.drop_take,List.take_take,List.drop_drop,Nat.min_eq_left(by omega)]
 rw[hsub]at hr
 cases p<;>simp only[Vy]at hp<;>simp only[place]at e
 ·rename_i id o'
  obtain⟨cs',hc,e⟩:=Option.map_eq_some_iff.1 e
  cases e
  refine⟨_,rfl,hp,cs,o+off,by simp[place,hc],by omega,hr,fun m hm=>by simp only[B9];exact hm _ hp⟩
 ·rename_i id n i o'
  obtain⟨row,hrow,e⟩:=Option.bind_eq_some_iff.1 e
  split at e
  ·rename_i hn
   cases e
   refine⟨_,rfl,hp,_,_,by simp only[place,hrow,Option.bind_some];rw[if_pos hn],by omega,hr,fun m hm=>by simp only[B9];exact hm _ hp⟩
  ·cases e
 ·rename_i cs' o'
  cases e
  exact⟨_,rfl,hp,cs,o+off,rfl,by omega,hr,fun m h=>by simpa [B9]using hm m h⟩
theorem h_fa{t u:T}{x:t.α}{off:Nat}(F:AM t u off)(ha:CA tb Γ a(.rp t x)):F1 tb Γ(.fa off a)(some())fun _=> .rp u(F.get x):=by
 rintro E rv fp f H R z⟨⟩
 obtain⟨v,h1,h2⟩:=Zu.shift F(ha E rv fp f H R)
 exact⟨v,none,by simp only[Bq,h1,val,Option.map_some],rfl,h2⟩
end
end Go.Proofs.YtobejhpigbllpaaGreatDoor.Am
namespace Go.Proofs.YtobejhpigbllpaaGreatDoor.Am
def Js:List(Nat×AL)→Nat→Option(Nat×AL×Nat)
 |[],_=>none
 |(n,φ)::r,o=>if Nat.blt o n then some(n,φ,o)else Js r(o-n)
def Vx:List(Nat×AL)→Nat→AL→List(Nat×AL)
 |[],_,_=>[]
 |(n,φ)::r,o,ψ=>if Nat.blt o n then(n,ψ)::r else(n,φ)::Vx r(o-n)ψ
theorem Tp{a b:Nat}:Nat.blt a b=true↔a<b:=by
 rw[Nat.blt,Nat.ble_eq];exact Iff.rfl
section
variable {rv:Nat→AV}{ss:Ss}{P:Nat→Prop}{H:Av}
theorem FH: ∀{ps:List(Nat×AL)}{o o' N:Nat}{φ:AL}{cs:List AV},PR rv ss P H ps cs→Js ps o=some(N,φ,o')→
  ∃b c,c.length=N∧o=b+o'∧o'<c.length∧b+c.length≤cs.length∧FC rv ss P H φ c∧(∀m k,m+k≤c.length→sub cs(b+m)k=sub c m k)∧
   (∀m d ψ,m+d.length≤c.length→FC rv ss P H ψ(By c m d)→PR rv ss P H(Vx ps o ψ)(By cs(b+m)d))
 |[],o,o',N,φ,cs,_,h=>by simp[Js]at h
 |(n,ψ)::r,o,o',N,φ,cs,⟨c,d,e,hl,hc,hr⟩,h=>by
  simp only[Js]at h
  split at h
  ·rename_i ho
   rw[Tp]at ho
   cases h
   subst e
   refine⟨0,c,hl,by omega,by omega,by simp,hc,?_,?_⟩
   ·intro m k hm
    simp only[sub,Nat.zero_add]
    rw[List.drop_append_of_le_length(by omega),List.take_append_of_le_length(by simp;omega)]
   ·intro m d' χ hm hf
    simp only[Vx,Tp.2 ho,if_true]
    refine⟨By c m d',d,?_,?_,hf,hr⟩
    ·simp only[By,Nat.zero_add]
     rw[List.take_append_of_le_length(by omega),List.drop_append_of_le_length(by omega)]
     simp
    ·simp only[By,List.length_append,List.length_take,List.length_drop];omega
  ·rename_i ho
   have ho': ¬o<n:=fun e=>ho(Tp.2 e)
   obtain⟨b,c',h0,h1,h2,h3,h4,h5,h6⟩:=FH hr h
   subst e
   refine⟨n+b,c',h0,by omega,h2,by simp;omega,h4,?_,?_⟩
   ·intro m k hm
    rw[←h5 m k hm]
    simp only[sub]
    rw[show n+b+m=c.length+(b+m)by omega,←List.drop_drop,List.drop_left' rfl]
   ·intro m d' χ hm hf
    have:=h6 m d' χ hm hf
    simp only[Vx,if_neg ho]
    refine⟨c,_,?_,hl,hc,this⟩
    simp only[By]
    rw[List.take_append,List.take_of_length_le(by omega),show n+b+m-c.length=b+m by omega]
    rw[show n+b+m+d'.length=c.length+(b+m+d'.length)by omega,←List.drop_drop,List.drop_left' rfl]
    simp
end
def Cx.setS(Γ:Cx)(j:Nat)(S:Db):Cx:=⟨Γ.ts,(j,S)::Γ.ss⟩
section
variable {tb:CZ}{Γ:Cx}{a b:AO}
theorem AE{j o off:Nat}(ha:CA tb Γ a(.cp j o)):F1 tb Γ(.fa off a)(some())fun _=> .cp j(o+off):=by
 rintro E rv fp f H R z⟨⟩
 obtain⟨l,id,e,hv⟩:=ha E rv fp f H R
 exact⟨.ptr id(o+off),none,by simp only[Bq,hv,shift,val,Option.map_some],rfl,l,id,e,rfl⟩
theorem Gc{E:Pr}{rv:Nat→AV}{fp:Fp}{f:Fr}{H:Av}(R:Bp E Γ rv fp f H){j:Nat}{ps:List(Nat×AL)}(hj:AG Γ.ss j=some(.cells ps)){id:Nat}(e:rv j= .ptr id 0):
  ∃cs,(∀i,fp j i↔i=id)∧BZ H id=some cs∧PR rv Γ.ss(Pf E Γ.ss fp H)H ps cs:=by
 obtain⟨id',cs,h1,h0,h2,h3⟩:=R.slots j _ hj
 rw[e]at h1;cases h1
 exact⟨cs,h0,h2,h3⟩
theorem A3{t u:T}{x:t.α}{j o o' n N:Nat}{ag:Bool}{ps:List(Nat×AL)}(ha:CA tb Γ a(.cp j o))(hj:AG Γ.ss j=some(.cells ps))(hp:Js ps o=some(N, .val t x,o'))(F:AM t u o')(hag:ag=u.agg)(hn:n=u.sz):
  F1 tb Γ(.ld ag n a)(some())fun _=> .val u(F.get x):=by
 rintro E rv fp f H R z⟨⟩
 obtain⟨l,id,e,hv⟩:=ha E rv fp f H R
 obtain⟨cs,h0,h2,h3⟩:=Gc R hj e
 obtain⟨b',c,e0,e1,e2,e3,e4,e5,_⟩:=FH h3 hp
 have hle:=F.le
 have hl:=t.len e4
 have hr:=F.getR e4
 rw[←e5 o' u.sz(by omega),←e1]at hr
 obtain⟨v,g1,g2⟩:=T.V.of hr
 subst hag hn
 exact⟨v,none,by simp only[Bq,hv,Am.load,place,h2,Option.map_some,Option.bind_some,if_pos(show o+u.sz≤cs.length by omega),g1,val],rfl,g2⟩
def yX:AL→Bool
 | .own _=>true
 | .cp _ _=>true
 | .ep _ _ _=>true
 | .rp _ _=>true
 | .oc _ _ _ _=>true
 | .con _=>true
 | .fnv _ _ _=>true
 | .kv _=>true
 |_=>false
theorem tN{φ:AL}(h:yX φ=true){rv:Nat→AV}{ss:Ss}{P:Nat→Prop}{H:Av}{c:List AV}:FC rv ss P H φ c↔ ∃v,c=[v]∧FR rv ss P H φ v:=by
 cases φ<;>simp only[yX,Bool.false_eq_true]at h<;>exact Iff.rfl
theorem MP{φ:AL}{j o N:Nat}{ps:List(Nat×AL)}(ha:CA tb Γ a(.cp j o))(hj:AG Γ.ss j=some(.cells ps))(hp:Js ps o=some(N,φ,0))(hφ:yX φ=true):
  F1 tb Γ(.ld false 1 a)(some())fun _=>φ:=by
 rintro E rv fp f H R z⟨⟩
 obtain⟨l,id,e,hv⟩:=ha E rv fp f H R
 obtain⟨cs,h0,h2,h3⟩:=Gc R hj e
 obtain⟨b',c,e0,e1,e2,e3,e4,e5,_⟩:=FH h3 hp
 obtain⟨v,rfl,hr⟩:=(tN hφ).1 e4
 have hs:=e5 0 1(by simp)
 rw[Nat.add_zero]at e1 hs
 subst e1
 simp only[List.length_cons,List.length_nil]at e3
 exact⟨v,none,by simp only[Bq,hv,Am.load,place,h2,Option.map_some,Option.bind_some,if_pos(show o+1≤cs.length by omega),hs,val];rfl,rfl,hr⟩
theorem W2{cs d:List AV}{o:Nat}(h:o+d.length≤cs.length):(By cs o d).length=cs.length:=by
 simp only[By,List.length_append,List.length_take,List.length_drop];omega
theorem NZ{cs d:List AV}{o m:Nat}(h:Bh cs≤m)(g:Bh d≤m):Bh(By cs o d)≤m:=by
 simp only[By,Gy]
 have:=K3 cs o
 have:=IQ cs(o+d.length)
 omega
theorem M_st{φ ψ:AL}{j o o' n N:Nat}{ps:List(Nat×AL)}(ha:CA tb Γ a(.cp j o))(hj:AG Γ.ss j=some(.cells ps))(hp:Js ps o=some(N,φ,o'))
  (hb: ∀E rv fp f H,Bp E Γ rv fp f H→ ∀c,FC rv Γ.ss(Pf E Γ.ss fp H)H φ c→c.length=N→o'<c.length→(cellsOf(eval tb f b)).length=n∧o'+n≤c.length∧Bh(cellsOf(eval tb f b))≤H.length∧FC rv Γ.ss(Pf E Γ.ss fp H)H ψ(By c o'(cellsOf(eval tb f b)))):
  Wp tb Γ none(.st n a b)(some())fun _=>Γ.setS j(.cells(Vx ps o ψ)):=by
 rintro E rv fp f H R z⟨⟩
 obtain⟨l,id,e,hv⟩:=ha E rv fp f H R
 obtain⟨cs,h0,h2,h3⟩:=Gc R hj e
 obtain⟨b',c,e0,e1,e2,e3,e4,e5,e6⟩:=FH h3 hp
 obtain⟨g1,g2,g3,g4⟩:=hb E rv fp f H R c e4 e0 e2
 have hpr:=e6 o' _ ψ(by omega)g4
 rw[←e1]at hpr
 have hmen:=PR.men R.ltP R.rvlt h3
 have hlt:=(R.fplt j id l((h0 id).2 rfl)).1
 have hv0:=R.rvlt j l
 obtain⟨rv',fp',_,_,R'⟩:=R.set(j:=j)(S:= .cells(Vx ps o ψ))(v:=rv j)(o:= .cells(Eo H id)(By cs o(cellsOf(eval tb f b))))(by rw[hj];rfl)l h0(by simp only[En];exact NZ hmen g3)rfl hv0(.inl rfl)(R.scal j l)fun rv' fp' e1 e2 hP hs=>
  ⟨id,_,by rw[e1,e],e2,by simp[BZ,hlt],PR.mono hP(by simp)(fun p _=>hs p.2(.inl rfl))hpr⟩
 refine⟨.junk,some(H.set id(BH.cells(Eo H id)(By cs o(cellsOf(eval tb f b))))),?_,rv',fp',R'⟩
 simp only[Bq,hv,store,h2,Option.bind_some]
 rw[if_pos⟨g1,by omega⟩]
 rfl
theorem CY{t u:T}{x:t.α}{y:u.α}{j o o' n N:Nat}{ps:List(Nat×AL)}(ha:CA tb Γ a(.cp j o))(hb:CA tb Γ b(.val u y))(hj:AG Γ.ss j=some(.cells ps))(hp:Js ps o=some(N, .val t x,o'))(F:AM t u o')(hn:n=u.sz):
  Wp tb Γ none(.st n a b)(some(F.put x y))fun z=>Γ.setS j(.cells(Vx ps o(.val t z))):=by
 have:=M_st(n:=n)(ψ:= .val t(F.put x y))ha hj hp(b:=b)fun E rv fp f H R c hc _ _=>by
  have hv:=T.V.cells(hb E rv fp f H R)
  have hle:=F.le
  have h1:=u.len hv
  have h2:=t.len hc
  exact⟨by rw[h1,hn],by omega,u.men hv R.ltP,F.putR hc hv⟩
 intro E rv fp f H R z hz
 cases hz
 exact this E rv fp f H R()rfl
theorem Cc{t:T}{d t0:Nat}{z:List AV}(j:Nat)(hz:z=t.zc)(hj:AG Γ.ss j=none):Wp tb Γ(some d)(.alloc t0 z)(some t.z)fun z=>⟨(d, .cp j 0)::Γ.ts,(j, .cells [(t.sz, .val t z)])::Γ.ss⟩:=by
 intro E rv fp f H R _ hz0
 cases hz0
 subst hz
 have hzm:Bh t.zc≤0:=t.men(t.hz(fun _=>False) [])(fun _ h=>h.elim)
 obtain⟨rv',fp',h1,h2,h3⟩:=R.more(j:=j)(S:= .cells [(t.sz, .val t t.z)])(v:= .ptr H.length 0)(o:= .cells(some t0)t.zc)(H7 hj)(by simp only[En];omega)rfl(by simp[B9])rfl fun rv' fp' e1 e2 hP hs=>
  ⟨_,t.zc,e1,e2,by simp[BZ],t.zc,[],(List.append_nil _).symm,t.len(t.hz(fun _=>False) []),t.hz _ _,rfl⟩
 exact⟨_,_,rfl,rv',fp',h3.push(φ:= .cp j 0)⟨h2,_,h1,rfl⟩⟩
theorem Bs{t:T}{x:t.α}{d n t0:Nat}(j:Nat)(hn:n=t.sz)(hj:AG Γ.ss j=none)(ha:CA tb Γ a(.val t x)):Wp tb Γ(some d)(.box t0 n a)(some())fun _=>⟨(d, .cp j 0)::Γ.ts,(j, .cells [(t.sz, .val t x)])::Γ.ss⟩:=by
 rintro E rv fp f H R _⟨⟩
 have hv:=T.V.cells(ha E rv fp f H R)
 have hl:=t.len hv
 have hm:=t.men hv R.ltP
 obtain⟨rv',fp',h1,h2,h3⟩:=R.more(j:=j)(S:= .cells [(t.sz, .val t x)])(v:= .ptr H.length 0)(o:= .cells(some t0)(cellsOf(eval tb f a)))(H7 hj)(by simp only[En];omega)rfl(by simp[B9])rfl fun rv' fp' e1 e2 hP hs=>
  ⟨_,cellsOf(eval tb f a),e1,e2,by simp[BZ],cellsOf(eval tb f a),[],(List.append_nil _).symm,hl,t.mono hP hv,rfl⟩
 refine⟨.ptr H.length 0,some(H++[BH.cells(some t0)(cellsOf(eval tb f a))]),by simp only[Bq];rw[if_pos(by rw[hl,hn])],rv',fp',h3.push(φ:= .cp j 0)⟨h2,_,h1,rfl⟩⟩
def appG{α:Type}:GS α→List α→GS α
 | .nil,[]=> .nil
 | .nil,l=> .mk l
 | .mk a,l=> .mk(a++l)
theorem Bp.moreNil{E:Pr}{rv:Nat→AV}{fp:Fp}{f:Fr}{H:Av}(R:Bp E Γ rv fp f H){j:Nat}(t:T)(hj: ¬Ba Γ.ss j): ∃rv' fp',rv' j= .nils∧Ba((j, .row t .nil)::Γ.ss)j∧Bp E⟨Γ.ts,(j, .row t .nil)::Γ.ss⟩rv' fp' f H:=
 R.chg(F:=fun _=>False)(v:= .nils)(G:=H)(by
   cases e:D8(AG Γ.ss j)with
   |false=>rfl
   |true=>exact absurd(L6 e)hj)rfl(Nat.le_refl _)(fun _ _ _=>rfl)(fun _ h=>h.elim)(fun l=>absurd l hj)R.wf(by simp[B9])(.inr rfl)fun rv' fp' e1 e2 _ _=>⟨e1,fun i h=>by rw[e2]at h;exact h⟩
theorem Yf{t:T}{n j:Nat}(hj:AG Γ.ss j=none)(ha:BD Γ.ts n=some(.val(T.sl t) .nil)): ∀E f H,fC E Γ f H→fC E⟨(n, .own j)::Γ.ts,(j, .row t .nil)::Γ.ss⟩f H:=by
 rintro E f H⟨rv,fp,R⟩
 obtain⟨rv',fp',h1,h2,I⟩:=R.moreNil t(H7 hj)
 have hv:get f n= .nils:=Ka.1(R.temps n _ ha)
 refine⟨rv',fp',I.le,I.base,I.wf,I.fplt,I.rvlt,I.scal,I.inj,I.slots,fun u φ e=> ?_,I.gh⟩
 simp only[BD]at e
 split at e
 ·rename_i hu
  cases e
  subst hu
  exact⟨h2,by rw[h1,hv]⟩
 ·exact I.temps u φ e
end
end Go.Proofs.YtobejhpigbllpaaGreatDoor.Am
namespace Go.Proofs.YtobejhpigbllpaaGreatDoor.Am
section
variable {tb:CZ}{Γ:Cx}{a b:AO}
def AaR(tb:CZ)(Γ:Cx)(a:AO)(t:T)(l:List t.α):Prop:= ∀E rv fp f H,Bp E Γ rv fp f H→ ∃els,iB H t.sz(eval tb f a)=some els∧CJ t(Pf E Γ.ss fp H)H els l
theorem TZ{t:T}{g:GS t.α}(ha:CA tb Γ a(.val(T.sl t)g)):AaR tb Γ a t g.l:=by
 intro E rv fp f H R
 have hv:=Ka.1(ha E rv fp f H R)
 obtain⟨els,e,h⟩:=hv.els
 refine⟨els,?_,h⟩
 have hs:=hv.sca
 cases hx:eval tb f a<;>rw[hx]at e hv<;>first
  |exact e
  |(cases g<;>first|(have hv':=hv;cases hv';done)|(have:=hv.1;simp only[MF]at this;done))
theorem aR{P:Nat→Prop}{H:Av}: ∀l:AN,CJ T.u8 P H(Bw l)l
 |[]=>trivial
 |c::l=>⟨rfl,aR l⟩
def Wn{α:Type}(bytes:Nat)(g:GS α)(l:List α):Option(GS α):=if(g.l.length+l.length)*bytes≤Bf then some(appG g l)else none
theorem Rc: ∀(x y:List(List AV)),CN(x++y)=max(CN x)(CN y)
 |[],y=>by simp[CN]
 |z::x,y=>by simp only[List.cons_append,CN,Rc x y];omega
theorem NE{t:T}{g:GS t.α}{l:List t.α}{d j t0 sz bytes:Nat}(hs:sz=t.sz)(ha:CA tb Γ a(.own j))(hj:AG Γ.ss j=some(.row t g))(hb:AaR tb Γ b t l):
  Wp tb Γ(some d)(.app t0 sz bytes a b)(Wn bytes g l)fun g'=>⟨(d, .own j)::(Γ.kill j).ts,(j, .row t g')::(Γ.kill j).ss⟩:=by
 intro E rv fp f H R g' hg
 simp only[Wn]at hg
 split at hg
 ·rename_i hle
  cases hg
  subst hs
  obtain⟨els,e,hels⟩:=hb E rv fp f H R
  have hel:=hels.length
  have hlive:Ba Γ.ss j:=Lh hj rfl
  have hnk:D8(AG Γ.ss j)=false:=by rw[hj];rfl
  have hka:=lU R hnk
  have K:=R.kill j hnk
  have hkk:D8(AG(Γ.kill j).ss j)=false:=by rw[Cx.kill];simp only[GT,Uc];exact hnk
  have hkl:Ba(Γ.kill j).ss j:=SC.2 hlive
  have hslot:=R.slots j _ hj
  have hPk: ∀i,Pf E Γ.ss fp H i→Pf E(Γ.kill j).ss fp H i:=fun i=>Pf.same fun k l=>SC.1 l
  have hels':=hels.mono(Q:=Pf E(Γ.kill j).ss fp H)(G:=H)fun i hi=>⟨hPk i hi,rfl⟩
  have hmen:=hels'.men K.ltP
  obtain⟨_,hv⟩:=ha E rv fp f H R
  simp only[Bq,e,Option.bind_some,hv]
  cases g with
  |nil=>
   obtain⟨hr,hf⟩:=hslot
   rw[hr]
   simp only[GS.l,List.length_nil,Nat.zero_add]at hle
   cases l with
   |nil=>
    have:els=[]:=List.length_eq_zero_iff.1 hel
    subst this
    obtain⟨rv',fp',h1,h2,h3⟩:=K.chg(j:=j)(S:= .row t .nil)(v:= .nils)(F:=fp j)(G:=H)hkk rfl(Nat.le_refl _)(fun _ _ _=>rfl)(fun i hi=>absurd hi(hf i))(fun _=> .inr hka)K.wf(by simp[B9])(.inr rfl)
     fun rv' fp' e1 e2 _ _=>⟨e1,fun i=>by rw[e2];exact hf i⟩
    exact⟨.nils,none,rfl,rv',fp',h3.push(φ:= .own j)⟨h2,h1.symm⟩⟩
   |cons x l=>
    have hne: ¬els.length=0:=by rw[hel];simp
    obtain⟨rv',fp',h1,h2,h3⟩:=K.chg(j:=j)(S:= .row t(.mk(x::l)))(v:= .orow H.length els.length 0 els.length)(F:=fun i=>i=H.length)(G:=H++[.row(some t0)false t.sz els])hkk rfl(by simp)(fun i hi _=>List.getElem?_append_left hi)
     (fun i hi=> .inr⟨by omega,by simp;omega⟩)(fun _=> .inr hka)(by rw[Qq];have:=K.wf;simp only[CE,En,List.length_append,List.length_cons,List.length_nil];omega)(by simp[B9])(.inr rfl)
     fun rv' fp' e1 e2 hP _=>⟨_,els,e1,fun i=>by rw[e2],by simp[rowAt],hels'.mono hP⟩
    refine⟨.orow H.length els.length 0 els.length,some(H++[BH.row(some t0)false t.sz els]),?_,rv',fp',h3.push(φ:= .own j)⟨h2,h1.symm⟩⟩
    simp only[U1,if_neg hne]
    rw[if_pos(by rw[hel];exact hle)]
  |mk q=>
   obtain⟨id,old,hr,hf,h2,h3⟩:=hslot
   rw[hr]
   have hlen:=h3.length
   have h3':=h3.mono(Q:=Pf E(Γ.kill j).ss fp H)(G:=H)fun i hi=>⟨hPk i hi,rfl⟩
   have hm3:=h3'.men K.ltP
   have hidlt:=(K.fplt j id hkl((hf id).2 rfl)).1
   simp only[GS.l]at hle
   simp only[U1,h2,Option.bind_some]
   rw[if_pos⟨trivial,trivial,trivial,trivial,by rw[hlen,hel];exact hle,trivial⟩]
   by_cases h0:els.length=0
   ·rw[if_pos h0]
    have hnil:els=[]:=List.length_eq_zero_iff.1 h0
    subst hnil
    have hl0:l=[]:=List.length_eq_zero_iff.1 hel.symm
    subst hl0
    obtain⟨rv',fp',g1,g2,g3⟩:=K.chg(j:=j)(S:= .row t(.mk q))(v:=rv j)(F:=fp j)(G:=H)hkk rfl(Nat.le_refl _)(fun _ _ _=>rfl)(fun i hi=> .inl⟨hkl,hi⟩)(fun _=> .inl rfl)K.wf(K.rvlt j hkl)(.inr(by rw[hr];rfl))
     fun rv' fp' e1 e2 hP _=>⟨id,old,by rw[e1];exact hr,by rw[e2];exact hf,h2,h3'.mono hP⟩
    refine⟨.orow id old.length 0 old.length,none,rfl,rv',fp',?_⟩
    have:=g3.push(d:=d)(φ:= .own j)(v:=rv j)⟨g2,g1.symm⟩
    rw[hr]at this
    simpa [appG,Cx.push]using this
   ·rw[if_neg h0]
    obtain⟨rv',fp',g1,g2,g3⟩:=K.set(j:=j)(S:= .row t(.mk(q++l)))(v:= .orow id(old++els).length 0(old++els).length)(o:= .row(UM(Eo H id)t0)false t.sz(old++els))hkk hkl hf(by simp only[En,Rc];omega)rfl(by simp only[B9];omega)(.inr hka)(.inr rfl)
     fun rv' fp' e1 e2 hP _=>⟨id,old++els,e1,e2,by simp[rowAt,hidlt],(h3'.app hels').mono hP⟩
    refine⟨.orow id(old++els).length 0(old++els).length,some(H.set id(.row(UM(Eo H id)t0)false t.sz(old++els))),by rw[List.length_append],rv',fp',g3.push(φ:= .own j)⟨g2,g1.symm⟩⟩
 ·cases hg
theorem wP{t:T}{g:GS t.α}{j:Nat}(ha:CA tb Γ a(.own j))(hj:AG Γ.ss j=some(.row t g)){E:Pr}{rv:Nat→AV}{fp:Fp}{f:Fr}{H:Av}(R:Bp E Γ rv fp f H):
  (g= .nil∧eval tb f a= .nils)∨ ∃id els l,g= .mk l∧rv j= .orow id els.length 0 els.length∧(∀i,fp j i↔i=id)∧rowAt H id=some(false,t.sz,els)∧CJ t(Pf E Γ.ss fp H)H els l∧eval tb f a= .orow id els.length 0 els.length:=by
 obtain⟨_,hv⟩:=ha E rv fp f H R
 have hs:=R.slots j _ hj
 cases g with
 |nil=>exact .inl⟨rfl,hv.trans hs.1⟩
 |mk l=>
  obtain⟨id,els,h1,h0,h2,h3⟩:=hs
  exact .inr⟨id,els,l,rfl,h1,h0,h2,h3,hv.trans h1⟩
theorem zG{t:T}{g:GS t.α}{j:Nat}(ha:CA tb Γ a(.own j))(hj:AG Γ.ss j=some(.row t g)):F1 tb Γ(.len a)(some(g.l.length:Int))fun z=> .val(T.int .i64)z:=by
 rintro E rv fp f H R z⟨⟩
 rcases wP ha hj R with⟨rfl,hv⟩|⟨id,els,l,rfl,_,_,_,h,hv⟩
 ·exact⟨_,none,by simp only[Bq,hv,PG,Option.map_some];rfl,rfl,Ca.2 rfl⟩
 ·exact⟨_,none,by simp only[Bq,hv,PG,Option.map_some,h.length];rfl,rfl,Ca.2 rfl⟩
def DU(n:Nat)(i:Int):Option Nat:=if 0≤i∧i.toNat<n then some i.toNat else none
theorem h_iasO{t:T}{g:GS t.α}{j sz:Nat}{k:IntKind}{i:Int}(hs:sz=t.sz)(ha:CA tb Γ a(.own j))(hj:AG Γ.ss j=some(.row t g))(hb:CA tb Γ b(.val(T.int k)i)):
  F1 tb Γ(.ias sz a b)(DU g.l.length i)fun n=> .ep j n 0:=by
 intro E rv fp f H R n hn
 simp only[DU]at hn
 split at hn
 ·rename_i hc
  cases hn
  subst hs
  have hl:Ba Γ.ss j:=Lh hj rfl
  rcases wP ha hj R with⟨rfl,hv⟩|⟨id,els,l,rfl,hid,_,hr,h,hv⟩
  ·simp[GS.l]at hc
  ·have hlen:=h.length
   simp only[GS.l]at hc
   have hx:UO H t.sz(.orow id els.length 0 els.length)i.toNat=some(.pe id els.length(0+i.toNat)0):=by
    simp[UO,Ez,hr,hlen,hc.2]
   refine⟨.pe id els.length(0+i.toNat)0,none,by simp only[Bq,hv,Ca.1(hb E rv fp f H R),HW,Option.bind_some,if_pos hc.1,hx,val,Option.map_some],rfl,hl,id,els.length,hid,by omega,by rw[Nat.zero_add]⟩
 ·cases hn
theorem h_ldE{t u:T}{g:GS t.α}{j i off n:Nat}{ag:Bool}(hag:ag=u.agg)(hn:n=u.sz)(F:AM t u off)(ha:CA tb Γ a(.ep j i off))(hj:AG Γ.ss j=some(.row t g)):F1 tb Γ(.ld ag n a)((g.l[i]?).map F.get)fun z=> .val u z:=by
 intro E rv fp f H R z hz
 obtain⟨x,hx,rfl⟩:=Option.map_eq_some_iff.1 hz
 obtain⟨_,id,m,hid,hi,hv⟩:=ha E rv fp f H R
 have hs:=R.slots j _ hj
 cases g with
 |nil=>simp[GS.l]at hx
 |mk l=>
  obtain⟨id',els,h1,h0,h2,h3⟩:=hs
  rw[hid]at h1;cases h1
  obtain⟨c,hc,hr⟩:=h3.get hx
  have hle:=F.le
  have hl:=t.len hr
  obtain⟨v,g1,g2⟩:=T.V.of(F.getR hr)
  subst hag hn
  refine⟨v,none,?_,rfl,g2⟩
  have hlf:off+u.sz≤((els.drop i).flatten).length:=by rw[Qv hc];simp;omega
  simp only[Bq,hv,Am.load,place,h2,Option.bind_some,if_pos,Option.map_some,if_pos hlf,val]
  rw[Qv hc,fU(by omega),g1];rfl
end
end Go.Proofs.YtobejhpigbllpaaGreatDoor.Am
namespace Go.Proofs.YtobejhpigbllpaaGreatDoor.Am
section
variable {tb:CZ}{Γ:Cx}{a b:AO}
theorem Q3{P:Nat→Prop}{H:Av}: ∀{els:List(List AV)}{l:AN},CJ T.u8 P H els l→E0 els=some l
 |[],[],_=>rfl
 |c::els,x::l,h=>by
  have hc:c=[.i .u8 x.toNat]:=h.1
  subst hc
  simp only[E0,Q3 h.2,Option.map_some]
  congr 2
  simp
theorem h_cvs{g:GS UInt8}(ha:CA tb Γ a(.val(T.sl T.u8)g)):F1 tb Γ(.cvs a)(some g.l)fun z=> .val Ax z:=by
 rintro E rv fp f H R z⟨⟩
 obtain⟨els,e,h⟩:=(Ka.1(ha E rv fp f H R)).els
 refine⟨.s g.l,none,?_,rfl,EC.2 rfl⟩
 have e':Ez H 1(eval tb f a)=some els:=e
 simp only[Bq,e',Option.bind_some,Q3 h,val];rfl
theorem h_cvsO{g:GS UInt8}{j:Nat}(ha:CA tb Γ a(.own j))(hj:AG Γ.ss j=some(.row T.u8 g)):F1 tb Γ(.cvs a)(some g.l)fun z=> .val Ax z:=by
 rintro E rv fp f H R z⟨⟩
 refine⟨.s g.l,none,?_,rfl,EC.2 rfl⟩
 rcases wP ha hj R with⟨rfl,hv⟩|⟨id,els,l,rfl,_,_,hr,h,hv⟩
 ·simp only[Bq,hv,Ez,Option.bind_some,E0,val];rfl
 ·have e':Ez H 1(eval tb f a)=some els:=by
   have hr':rowAt H id=some(false,1,els):=hr
   simp[hv,Ez,hr']
  simp only[Bq,e',Option.bind_some,Q3 h,val];rfl
def TT{α:Type}(g:GS α)(c d:Nat):GS α:=match g with
 | .nil=> .nil
 | .mk l=> .mk((l.take d).drop c)
def slG{α:Type}(g:GS α)(lo hi:Option Int):Option(GS α):=(T4 g.l.length lo hi).map fun p=>TT g p.1 p.2
theorem AaC{n:Nat}{lo hi:Option Int}{p:Nat×Nat}(h:T4 n lo hi=some p):p.1≤p.2∧p.2≤n:=by
 unfold T4 at h
 obtain⟨u,hu,h⟩:=Option.bind_eq_some_iff.1 h
 obtain⟨l,hl,h⟩:=Option.bind_eq_some_iff.1 h
 cases h
 have h1:u≤n:=by
  cases hi with
  |none=>cases hu;omega
  |some m=>simp only[]at hu;split at hu<;>cases hu;omega
 have h2:l≤u:=by
  cases lo with
  |none=>cases hl;omega
  |some m=>simp only[]at hl;split at hl<;>cases hl;omega
 exact⟨h2,h1⟩
theorem Oy{sz:Nat}: ∀{len c d:Nat}{l:List AV},c≤d→d≤len→((BR sz len l).take d).drop c=BR sz(d-c)(l.drop(c*sz))
 |len,0,0,l,_,_=>by simp[BR]
 |len,c+1,0,l,h,_=>by omega
 |0,c,d+1,l,_,h=>by omega
 |len+1,0,d+1,l,_,h=>by
  have:=Oy(sz:=sz)(len:=len)(c:=0)(d:=d)(l:=l.drop sz)(by omega)(by omega)
  simp only[List.drop_zero,Nat.zero_mul,Nat.sub_zero]at this
  simp[BR,this]
 |len+1,c+1,d+1,l,h1,h2=>by
  have:=Oy(sz:=sz)(len:=len)(c:=c)(d:=d)(l:=l.drop sz)(by omega)(by omega)
  simp only[BR,List.take_succ_cons,List.drop_succ_cons,this,List.drop_drop,Nat.succ_mul]
  rw[show d+1-(c+1)=d-c by omega,Nat.add_comm sz]
theorem Ty.resl{t:T}{P:Nat→Prop}{H:Av}{v:AV}{c d:Nat}(h1:c≤d): ∀{g:GS t.α},d≤g.l.length→Ty t P H v g→ ∃w,Am.resl H t.sz v c d=some w∧Ty t P H w(TT g c d)
 | .nil,_,h=>by rw[show v=_ from h];exact⟨.nils,rfl,rfl⟩
 | .mk l,hd,⟨bp,els,e,h⟩=>by
  have hl:=h.length
  simp only[GS.l]at hd
  have hall:=h.take(n:=d) |>.drop(n:=c)
  cases v<;>simp only[MF]at bp<;>simp only[Ez]at e
  ·split at e
   ·rename_i hs
    cases e
    subst hs
    exact⟨.sl t.sz((els.take d).drop c),by simp[Am.resl],trivial,_,by simp[Ez],hall⟩
   ·cases e
  ·rename_i id k lo len
   obtain⟨r,hr,e⟩:=Option.bind_eq_some_iff.1 e
   split at e
   ·rename_i hc
    cases e
    rw[List.length_take,List.length_drop]at hl
    refine⟨.orow id k(lo+c)(d-c),by simp only[Am.resl,hr,Option.bind_some];rw[if_pos hc],bp,(r.2.2.drop(lo+c)).take(d-c),?_,?_⟩
    ·simp only[Ez,hr,Option.bind_some]
     rw[if_pos⟨hc.1,hc.2.1,by omega⟩]
    ·have:(((r.2.2.drop lo).take len).take d).drop c=(r.2.2.drop(lo+c)).take(d-c):=by
      rw[List.take_take,Nat.min_eq_left(by omega),List.drop_take,List.drop_drop]
     rw[this]at hall
     exact hall
   ·cases e
  ·rename_i sz' id off len
   obtain⟨r,hr,e⟩:=Option.bind_eq_some_iff.1 e
   split at e
   ·rename_i hc
    have he:some(BR t.sz len(r.drop off))=some els:=e
    cases he
    obtain⟨hs,hc⟩:=hc
    subst hs
    have hcl:(BR t.sz len(r.drop off)).length=len:=by
     have: ∀(n:Nat)(l:List AV),(BR t.sz n l).length=n:=by
      intro n
      induction n with
      |zero=>intro l;rfl
      |succ n ih=>intro l;simp[BR,ih]
     exact this _ _
    rw[hcl]at hl
    refine⟨.ocel t.sz id(off+c*t.sz)(d-c),by simp only[Am.resl,if_true],bp,BR t.sz(d-c)(r.drop(off+c*t.sz)),?_,?_⟩
    ·have hmul:(d-c)*t.sz+c*t.sz≤len*t.sz:=by
      rw[←Nat.add_mul];exact Nat.mul_le_mul_right _(by omega)
     simp only[Ez,hr,Option.bind_some]
     rw[if_pos⟨trivial,by omega⟩]
    ·have:=Oy(sz:=t.sz)(len:=len)(c:=c)(d:=d)(l:=r.drop off)h1(by omega)
     rw[this,List.drop_drop]at hall
     exact hall
   ·cases e
theorem h_sll{t:T}{g:GS t.α}{sz:Nat}{lo hi:Option AO}{l h:Option Int}(hs:sz=t.sz)(ha:CA tb Γ a(.val(T.sl t)g))(hl:uX tb Γ lo l)(hh:uX tb Γ hi h):F1 tb Γ(.sll sz a lo hi)(slG g l h)fun z=> .val(T.sl t)z:=by
 intro E rv fp f H R z hz
 obtain⟨p,hp,rfl⟩:=Option.map_eq_some_iff.1 hz
 have hv:=Ka.1(ha E rv fp f H R)
 obtain⟨h1,h2⟩:=AaC hp
 obtain⟨w,h3,h4⟩:=hv.resl h1 h2
 subst hs
 exact⟨w,none,by simp only[Bq,hv.len,Option.bind_some,Uw hl hh R,hp,h3,val,Option.map_some],rfl,Ka.2 h4⟩
inductive pF(tb:CZ)(Γ:Cx)(t:T):List(Nat×Nat×AO)→t.α→t.α→Prop where
 |nil(x:t.α):pF tb Γ t []x x
 |cons{u:T}{off n:Nat}{a:AO}{r:List(Nat×Nat×AO)}{x z:t.α}{y:u.α}(F:AM t u off)(hn:n=u.sz)(h:CA tb Γ a(.val u y))(k:pF tb Γ t r(F.put x y)z):pF tb Γ t((off,n,a)::r)x z
theorem pF.spec{t:T}{E:Pr}{rv:Nat→AV}{fp:Fp}{f:Fr}{H:Av}(R:Bp E Γ rv fp f H): ∀{ps:List(Nat×Nat×AO)}{x z:t.α}{cs:List AV},pF tb Γ t ps x z→t.R(Pf E Γ.ss fp H)H cs x→
  ∃ds,Mn cs(eval tb f)ps=some ds∧t.R(Pf E Γ.ss fp H)H ds z
 |_,_,_,cs, .nil _,h=>⟨cs,rfl,h⟩
 |_,_,_,cs, .cons(u:=u)(off:=off)F hn ho k,h=>by
  have hv:=T.V.cells(ho E rv fp f H R)
  have hl:=u.len hv
  have hle:=F.le
  have ht:=t.len h
  obtain⟨ds,h1,h2⟩:=k.spec R(F.putR h hv)
  refine⟨ds,?_,h2⟩
  simp only[Mn]
  rw[if_pos⟨by rw[hl,hn],by omega⟩]
  exact h1
theorem C1{t:T}{zero:List AV}{ps:List(Nat×Nat×AO)}{z:t.α}(hz:zero=t.zc)(ht:t.agg=true)(h:pF tb Γ t ps t.z z):F1 tb Γ(.bld zero ps)(some z)fun z=> .val t z:=by
 rintro E rv fp f H R _⟨⟩
 subst hz
 obtain⟨ds,h1,h2⟩:=h.spec R(t.hz _ _)
 exact⟨.agg ds,none,by simp only[Bq,h1,Option.map_some,val],rfl, .inl⟨ht,ds,rfl,h2⟩⟩
inductive pE(tb:CZ)(Γ:Cx)(t:T):List(Nat×AO)→List t.α→List t.α→Prop where
 |nil(l:List t.α):pE tb Γ t []l l
 |cons{i:Nat}{a:AO}{r:List(Nat×AO)}{l m:List t.α}{y:t.α}(hi:Nat.blt i l.length=true)(h:CA tb Γ a(.val t y))(k:pE tb Γ t r(l.set i y)m):pE tb Γ t((i,a)::r)l m
theorem pE.spec{t:T}{E:Pr}{rv:Nat→AV}{fp:Fp}{f:Fr}{H:Av}(R:Bp E Γ rv fp f H): ∀{ps:List(Nat×AO)}{l m:List t.α}{els:List(List AV)},pE tb Γ t ps l m→CJ t(Pf E Γ.ss fp H)H els l→
  ∃ds,Mo els t.sz(eval tb f)ps=some ds∧CJ t(Pf E Γ.ss fp H)H ds m
 |_,_,_,els, .nil _,h=>⟨els,rfl,h⟩
 |_,_,_,els, .cons(i:=i)hi ho k,h=>by
  have hv:=T.V.cells(ho E rv fp f H R)
  have hl:=t.len hv
  have hlen:=h.length
  rw[Tp]at hi
  obtain⟨ds,h1,h2⟩:=k.spec R(h.set(i:=i)hv)
  refine⟨ds,?_,h2⟩
  simp only[Mo]
  rw[if_pos⟨hl,by omega⟩]
  exact h1
theorem N2{t:T}{zero:List(List AV)}{sz n:Nat}{ps:List(Nat×AO)}{l:List t.α}(hs:sz=t.sz)(hz:zero=List.replicate n t.zc)(h:pE tb Γ t ps(List.replicate n t.z)l):F1 tb Γ(.bll sz zero ps)(some l)fun l=> .val(T.sl t)(.mk l):=by
 rintro E rv fp f H R _⟨⟩
 subst hz hs
 obtain⟨ds,h1,h2⟩:=h.spec R(CJ.rep(t.hz _ _)n)
 exact⟨.sl t.sz ds,none,by simp only[Bq,h1,Option.map_some,val],rfl,Ka.2⟨trivial,ds,by simp[Ez],h2⟩⟩
theorem Ar.get_lt{α:Type}{n:Nat}(x:Ar α n){i:Nat}{y:α}(h:x.l[i]? =some y):i<n:=by
 have:=(List.getElem?_eq_some_iff.1 h).1
 have:=x.len
 omega
theorem jV{sz:Nat}: ∀{l:List(List AV)}{i:Nat}{c:List AV},(∀e∈l,e.length=sz)→l[i]? =some c→sub l.flatten(i*sz)sz=c
 |[],i,c,_,h=>by simp at h
 |d::l,0,c,hl,h=>by
  simp only[List.getElem?_cons_zero,Option.some.injEq]at h
  subst h
  have:=hl d List.mem_cons_self
  simp[sub,this]
 |d::l,i+1,c,hl,h=>by
  simp only[List.getElem?_cons_succ]at h
  have h1:=hl d List.mem_cons_self
  have:=jV(l:=l)(fun e he=>hl e(List.mem_cons_of_mem _ he))h
  simp only[sub]at this ⊢
  rw[List.flatten_cons,show(i+1)*sz=d.length+i*sz by rw[Nat.succ_mul];omega,←List.drop_drop,List.drop_left' rfl]
  exact this
theorem US{sz:Nat}: ∀{l:List(List AV)}{i:Nat}{c:List AV},(∀e∈l,e.length=sz)→i<l.length→c.length=sz→By l.flatten(i*sz)c=(l.set i c).flatten
 |[],i,c,_,h,_=>by simp at h
 |d::l,0,c,hl,h,hc=>by
  have:=hl d List.mem_cons_self
  simp only[By,Nat.zero_mul,List.take_zero,Nat.zero_add,List.nil_append,List.set_cons_zero,List.flatten_cons]
  rw[hc,←this,List.drop_left' rfl]
 |d::l,i+1,c,hl,h,hc=>by
  have h1:=hl d List.mem_cons_self
  have ih:=US(l:=l)(fun e he=>hl e(List.mem_cons_of_mem _ he))(by simpa using h)hc
  simp only[By]at ih ⊢
  rw[List.flatten_cons,List.set_cons_succ,List.flatten_cons,←ih,show(i+1)*sz=d.length+i*sz by rw[Nat.succ_mul];omega]
  rw[List.take_append,List.take_of_length_le(by omega),show d.length+i*sz-d.length=i*sz by omega]
  rw[show d.length+i*sz+c.length=d.length+(i*sz+c.length)by omega,←List.drop_drop,List.drop_left' rfl]
  simp
def AM.at(n:Nat)(t:T)(i:Nat)(hi:i<n):AM(Ay n t)t(i*t.sz)where
 get:=fun x=>x.l[i]'(by rw[x.len];exact hi)
 put:=fun x y=>x.set i y
 le:=by
  show i*t.sz+t.sz≤n*t.sz
  rw[←Nat.succ_mul];exact Nat.mul_le_mul_right _ hi
 getR:=fun{P H cs x}⟨css,e,h⟩=>by
  obtain⟨c,hc,hr⟩:=h.get(i:=i)(x:=x.l[i]'(by rw[x.len];exact hi))(List.getElem?_eq_getElem _)
  rw[e,jV h.lens hc];exact hr
 putR:=fun{P H cs x c y}⟨css,e,h⟩k=>by
  have hlen:=h.length
  have hx:=x.len
  have hc:=t.len k
  exact⟨css.set i c,by rw[e];exact US h.lens(by omega)hc,h.set k⟩
def J6{t u w:T}{o o':Nat}(F:AM t u o)(G:AM u w o'):AM t w(o+o')where
 get:=fun x=>G.get(F.get x)
 put:=fun x y=>F.put x(G.put(F.get x)y)
 le:=by have:=F.le;have:=G.le;omega
 getR:=fun{P H cs x}h=>by
  have h1:=F.le
  have h2:=G.le
  have h3:=t.len h
  have:=G.getR(F.getR h)
  rw[show sub cs(o+o')w.sz=sub(sub cs o u.sz)o' w.sz by
   simp only[sub]
   rw[List.drop_take,List.take_take,List.drop_drop,Nat.min_eq_left(by omega)]]
  exact this
 putR:=fun{P H cs x c y}h k=>by
  have h1:=F.le
  have h2:=G.le
  have h3:=t.len h
  have h4:=w.len k
  have:=F.putR h(G.putR(F.getR h)k)
  rw[show By cs(o+o')c=By cs o(By(sub cs o u.sz)o' c)by
   have hsl:(By(sub cs o u.sz)o' c).length=u.sz:=by
    rw[W2]<;>simp only[sub,List.length_take,List.length_drop]<;>omega
   apply List.ext_getElem?
   intro i
   simp only[By,sub,List.getElem?_append,List.getElem?_take,List.getElem?_drop,List.length_append,List.length_take,List.length_drop]
   have hl2:(By(sub cs o u.sz)o' c).length=u.sz:=hsl
   simp only[By,sub,List.length_append,List.length_take,List.length_drop]at hl2
   repeat' split
   all_goals first|rfl|omega|(congr 1;omega)|(exfalso;omega)]
  exact this
theorem ZR{n:Nat}{i:Int}{m:Nat}(h:DU n i=some m):0≤i∧m=i.toNat∧m<n:=by
 unfold DU at h
 split at h
 ·rename_i hc;cases h;exact⟨hc.1,rfl,hc.2⟩
 ·cases h
theorem Ev{j o len sz:Nat}{k:IntKind}{i:Int}(ha:CA tb Γ a(.cp j o))(hb:CA tb Γ b(.val(T.int k)i)):F1 tb Γ(.iaa len sz a b)(DU len i)fun m=> .cp j(o+m*sz):=by
 intro E rv fp f H R m hm
 obtain⟨h0,rfl,h1⟩:=ZR hm
 obtain⟨l,id,e,hv⟩:=ha E rv fp f H R
 exact⟨.ptr id(o+i.toNat*sz),none,by simp only[Bq,hv,Ca.1(hb E rv fp f H R),HW,Option.bind_some,if_pos(show 0≤i∧i<(len:Int)by omega),shift,val,Option.map_some],rfl,l,id,e,rfl⟩
theorem zH{t:T}{n len sz:Nat}{x:Ar t.α n}{k:IntKind}{i:Int}(hl:len=n)(hs:sz=t.sz)(ha:CA tb Γ a(.rp(Ay n t)x))(hb:CA tb Γ b(.val(T.int k)i)):F1 tb Γ(.iaa len sz a b)(Fv x.l i)fun y=> .rp t y:=by
 intro E rv fp f H R y hy
 simp only[Fv]at hy
 split at hy
 ·rename_i h0
  have hlt:=x.get_lt hy
  subst hl hs
  obtain⟨v,h1,h2⟩:=Zu.shift(AM.at len t i.toNat hlt)(ha E rv fp f H R)
  have:(AM.at len t i.toNat hlt).get x=y:=by
   have:=List.getElem?_eq_some_iff.1 hy
   exact this.2
  rw[this]at h2
  exact⟨v,none,by simp only[Bq,Ca.1(hb E rv fp f H R),HW,Option.bind_some,if_pos(show 0≤i∧i<(len:Int)by omega),h1,val,Option.map_some],rfl,h2⟩
 ·cases hy
theorem h_ixa{t:T}{n len sz:Nat}{x:Ar t.α n}{ag:Bool}{k:IntKind}{i:Int}(hl:len=n)(hs:sz=t.sz)(hag:ag=t.agg)(ha:CA tb Γ a(.val(Ay n t)x))(hb:CA tb Γ b(.val(T.int k)i)):F1 tb Γ(.ixa len sz ag a b)(Fv x.l i)fun y=> .val t y:=by
 intro E rv fp f H R y hy
 simp only[Fv]at hy
 split at hy
 ·rename_i h0
  have hlt:=x.get_lt hy
  subst hl hs hag
  rcases ha E rv fp f H R with⟨_,cs,e,r⟩|⟨e,_⟩
  ·have hg:=(AM.at len t i.toNat hlt).getR r
   have:(AM.at len t i.toNat hlt).get x=y:=(List.getElem?_eq_some_iff.1 hy).2
   rw[this]at hg
   obtain⟨v,h1,h2⟩:=T.V.of hg
   have hlen:=(Ay len t).len r
   have hlen':cs.length=len*t.sz:=hlen
   exact⟨v,none,by simp only[Bq,e,Ca.1(hb E rv fp f H R),HW,Option.bind_some,if_pos(show 0≤i∧i<(len:Int)∧len*t.sz≤cs.length by omega),h1,val,Option.map_some],rfl,h2⟩
  ·cases e
 ·cases hy
theorem Jr{s t:T}{x:s.α}{n j o o' m k N:Nat}{ag:Bool}{ps:List(Nat×AL)}(F:AM s(Ay n t)o')(hag:ag=t.agg)(hk:k=t.sz)(ha:CA tb Γ a(.cp j(o+m*t.sz)))(hj:AG Γ.ss j=some(.cells ps))(hp:Js ps o=some(N, .val s x,o')):
  F1 tb Γ(.ld ag k a)((F.get x).l[m]?)fun y=> .val t y:=by
 intro E rv fp f H R y hy
 have hlt:=(F.get x).get_lt hy
 obtain⟨l,id,e,hv⟩:=ha E rv fp f H R
 obtain⟨cs,h0,h2,h3⟩:=Gc R hj e
 obtain⟨b',c,e0,e1,e2,e3,e4,e5,_⟩:=FH h3 hp
 have G:=J6 F(AM.at n t m hlt)
 have hr:=(J6 F(AM.at n t m hlt)).getR e4
 have hle:=(J6 F(AM.at n t m hlt)).le
 have hl:=s.len e4
 have:(J6 F(AM.at n t m hlt)).get x=y:=(List.getElem?_eq_some_iff.1 hy).2
 rw[this,←e5(o'+m*t.sz)t.sz(by omega),show b'+(o'+m*t.sz)=o+m*t.sz by omega]at hr
 obtain⟨v,g1,g2⟩:=T.V.of hr
 subst hag hk
 exact⟨v,none,by simp only[Bq,hv,Am.load,place,h2,Option.map_some,Option.bind_some,if_pos(show o+m*t.sz+t.sz≤cs.length by omega),g1,val],rfl,g2⟩
end
end Go.Proofs.YtobejhpigbllpaaGreatDoor.Am
