/-
  An abstract machine over flat lists of abstract cells: its values, its code and what its code does. Nothing here is about memory.
-/
import GoSem.Step
import Derived.Attr
import Derived.Calls
import Derived.Still
set_option linter.unusedVariables false
set_option linter.unusedSimpArgs false
namespace Go.Proofs.YtfdkkkdbknbmaaaGreatDoor.Am
noncomputable section
open _root_.Array renaming getElem?_eq_none→kz
open BitVec renaming ofInt→cr
open Bool renaming and_eq_true→af, and_true→lc, eq_iff_iff→gq, false_eq_true→ah, not_eq_true'→ck
open Classical renaming choose→fk, choose_spec→m9
open Decidable renaming not_not→jv
open Iff renaming rfl→q7
open Int renaming fdiv_eq_ediv_of_nonneg→n9
open IntKind renaming bits→gc, signed→ko, wrap→tx
open List renaming all_append→ka, all_cons→fy, all_eq_true→cb, all_nil→r9, any_eq_true→jp, append_assoc→br, append_nil→ei, cons_append→cd, drop_append_of_le_length→ed, drop_drop→cw, drop_eq_getElem_cons→da, drop_eq_nil_of_le→k0, drop_left'→fh, drop_succ_cons→jy, drop_take→ic, drop_zero→dq, ext_getElem?→ew, filterMap_cons→gx, flatMap_cons→d5, flatten_cons→bz, getElem?_append_left→bq, getElem?_cons_succ→di, getElem?_cons_zero→bw, getElem?_drop→gj, getElem?_eq_getElem→ab, getElem?_eq_none→dk, getElem?_eq_some_iff→cg, getElem?_set_ne→d9, getElem?_set_self→de, getElem?_take→dn, length_append→an, length_cons→ba, length_drop→bk, length_eq_zero_iff→im, length_nil→bu, length_set→ig, length_take→aq, map_append→df, map_congr_left→rb, map_cons→bh, mem_cons→bm, mem_cons_of_mem→a8, mem_cons_self→bg, mem_flatten→o4, mem_map→eh, mem_of_getElem?→d8, mem_singleton→ct, nil_append→dt, range'→dp, replicate→az, replicate_succ→kj, set_cons_succ→j4, set_cons_zero→jo, take_append→jq, take_append_drop→c9, take_append_of_le_length→fc, take_of_length_le→au, take_succ_cons→i', take_take→kp, take_zero→lq, zipIdx_cons→kn
open List.cons renaming inj→ia
open Nat renaming add_comm→pn, add_mul→ga, add_zero→i6, beq→fx, beq_refl→mc, ble→ou, blt→kh, eq_of_beq_eq_true→cm, le_max_left→fo, le_max_right→fg, le_of_ble_eq_true→gz, le_of_lt→ph, le_refl→bc, le_trans→dj, lt_of_lt_of_le→dv, lt_or_ge→ef, lt_trans→mb, min_eq_left→fq, mul_le_mul_right→cn, sub_zero→ny, succ_mul→ci, zero_add→dc, zero_mul→kc
open Ne renaming symm→iz
open Op renaming bytesLess→pf
open Option renaming bind_eq_some_iff→ad, bind_some→aa, isSome_iff_exists→bn, map_eq_some_iff→aj, map_some→ak
open Option.some renaming inj→be, injEq→ae
open Prod.mk renaming injEq→ch
open Sum renaming elim→bd, elim_inl→dw, elim_inr→pl
open UInt16 renaming ofNat→ca, toNat_ofNat'→ja
open UInt32 renaming ofNat→pm, toNat_ofNat'→nw
open UInt64 renaming ofNat→d7, toNat_ofNat'→jb
open UInt8 renaming ofNat→bb, toNat_ofNat'→gi
open Utf8 renaming decode→il, encode→jc
open World renaming cell?→gg, frozen?→j1
theorem t6{c:Prop}{h:Decidable c}(hc:c){α:Sort _}{t e:α}:ite c t e=t:=if_pos hc
theorem t7{c:Prop}{h:Decidable c}(hc:¬c){α:Sort _}{t e:α}:ite c t e=e:=if_neg hc
theorem t8{p:Prop}[Decidable p]:(decide p=true)=p:=decide_eq_true_eq
theorem ua{p:Prop}[Decidable p]:p→decide p=true:=decide_eq_true
theorem ub{p:Prop}[Decidable p]:¬p→decide p=false:=decide_eq_false
theorem uc{α:Sort _}{_:Decidable True}(t e:α):ite True t e=t:=if_true t e
theorem ud{α:Sort _}{_:Decidable False}(t e:α):ite False t e=e:=if_false t e
theorem ue{α:Sort _}{β:Sort _}{a b:α}(f:α→β)(h:a=b):f a=f b:=congrArg f h
section
inductive AV where
 |b (x:Bool)
 |i (k:IntKind) (n:Int)
 |s (l:List UInt8)
 |agg (cs:List AV)
 |tup (cs:List AV)
 |nilp
 |ptr (id off:Nat)
 |pe (id n i off:Nat)
 |ip (cs:List AV) (off:Nat)
 |nils
 |sl (sz:Nat) (els:List (List AV))
 |orow (id n lo len:Nat)
 |ocel (sz id off len:Nat)
 |nilm
 |mp (id:Nat)
 |nilf
 |fn (f:Fn) (first captured:List AV)
 |nili
 |ifc (t:Nat) (v:AV)
 |junk
 deriving Inhabited
inductive BU where
 |cells (t:Option Nat) (cs:List AV)
 |row (t:Option Nat) (fz:Bool) (sz:Nat) (els:List (List AV))
 |map (es:List (AV×AV))
 |iter (l:List UInt8) (pos:Nat)
 deriving Inhabited
abbrev A6:=List BU
abbrev Fr:=List (Nat×AV)
def get:Fr→Nat→AV
 |[],_=> .junk
 |(u,v)::r,t=>if u=t then v else get r t
def put(f:Fr)(d:Option Nat)(v:AV):Fr:=
 match d with
 |some t=>(t,v)::f
 |none=>f
inductive CK where
 |b
 |i (k:IntKind)
 |s
 deriving DecidableEq,Inhabited
inductive EK where
 |one (c:CK)
 |agg (l:List CK)
 |p
 |m
 |f
 |n
 |sl
 deriving DecidableEq,Inhabited
def zz:List (Nat×AV)→List AV
 |[]=>[]
 |(n,v)::r=>az n v++zz r
def kk:List (Nat×CK)→List CK
 |[]=>[]
 |(n,c)::r=>az n c++kk r
inductive AO where
 |t (n:Nat)
 |k (v:AV)
 |f (n:Nat)
 |g (n:Nat)
 deriving Inhabited
inductive GI where
 |mv (x:AO)
 |pick (c a b:AO)
 |alloc (t:Nat) (zero:List AV)
 |box (t n:Nat) (x:AO)
 |bld (zero:List AV) (parts:List (Nat×Nat×AO))
 |bls (t sz:Nat) (zero:List (List AV)) (parts:List (Nat×AO))
 |bll (sz:Nat) (zero:List (List AV)) (parts:List (Nat×AO))
 |ld (agg:Bool) (n:Nat) (a:AO)
 |st (n:Nat) (a x:AO)
 |nilc (x:AO)
 |bin (op:BinOp) (x y:AO)
 |eq (neg:Bool) (ek:EK) (x y:AO)
 |un (op:UnOp) (x:AO)
 |cvi (k:IntKind) (x:AO)
 |cvid (x:AO)
 |cvb (t:Nat) (x:AO)
 |cvr (x:AO)
 |cvs (x:AO)
 |cvc (x:AO)
 |mkf (fn:Fn) (first captured:List AO)
 |mkm
 |mks (t sz bytes:Nat) (zero:List AV) (len cap:AO)
 |sls (x:AO) (lo hi:Option AO)
 |sll (sz:Nat) (x:AO) (lo hi:Option AO)
 |sla (n sz:Nat) (x:AO) (lo hi:Option AO)
 |fa (off:Nat) (x:AO)
 |fld (agg:Bool) (off n:Nat) (x:AO)
 |ias (sz:Nat) (x i:AO)
 |iaa (len sz:Nat) (x i:AO)
 |ixa (len sz:Nat) (agg:Bool) (x i:AO)
 |ixs (x i:AO)
 |lkp (ek:EK) (zero:AV) (ok:Bool) (m k:AO)
 |mup (ek:EK) (m k v:AO)
 |rng (x:AO)
 |nxt (x:AO)
 |ext (x:AO) (i:Nat)
 |s2a (n sz:Nat) (x:AO)
 |mkif (t:Nat) (x:AO)
 |call (f:Nat) (xs:List AO)
 |callv (x:AO) (xs:List AO)
 |len (x:AO)
 |lens (x:AO)
 |app (t sz bytes:Nat) (s x:AO)
 |cpy (sz:Nat) (d s:AO)
 |mnx (max:Bool) (x y:AO)
 |clr (zero:List AV) (x:AO)
 |del (ek:EK) (m k:AO)
 |lenm (m:AO)
 |cvp (x:AO)
 |cvu (t n:Nat) (x:AO)
 |eqp (neg:Bool) (x y:AO)
 |isni (neg:Bool) (x:AO)
 |capn (x:AO)
 |usd (x:AO)
 |ust (t:Nat) (x n:AO)
 |die
 deriving Inhabited
structure Bh where
 d:Option Nat
 g:Option (Nat×Bool)
 o:GI
 deriving Inhabited
inductive AC where
 |skip
 |reg (ops:List Bh)
 |regq (ops:List Bh)
 |regd (ops:List Bh) (w:List (Option (Nat×Nat)))
 |seq (x y:AC)
 |cond (c:AO) (x y:AC)
 |blk (id:Nat) (x:AC)
 |loop (Bn:List Nat) (x:AC)
 |exit (id:Nat)
 |ret
 |keep (Bn:List Nat) (x:AC)
 |scope (x:AC)
 |stop
 deriving Inhabited
inductive Ex where
 |normal
 |exit (id:Nat)
 |ret
 deriving DecidableEq,Inhabited
inductive KZ where
 |tmp (t:Nat)
 |cell (agg:Bool) (n:Nat) (t:Nat)
 deriving Inhabited
structure Cv where
 warm:Bool
 np:Nat
 nt:Nat
 res:List KZ
 body:AC
 deriving Inhabited
structure CV where
 fns:Nat→Option Cv
 gl:Nat→Option (List AV)
 prim:Nat→Option (List AV→A6→Option (AV×Option A6))
 it:List Nat:=[]
mutual
def ment:AV→Nat
 | .ptr id _=>id+1
 | .pe id _ _ _=>id+1
 | .orow id _ _ _=>id+1
 | .ocel _ id _ _=>id+1
 | .mp id=>id+1
 | .ip cs _=>Bv cs
 | .sl _ els=>CT els
 | .fn _ a b=>max (Bv a) (Bv b)
 | .ifc _ v=>ment v
 | .agg cs=>Bv cs
 | .tup cs=>Bv cs
 |_=>0
def Bv:List AV→Nat
 |[]=>0
 |v::r=>max (ment v) (Bv r)
def CT:List (List AV)→Nat
 |[]=>0
 |l::r=>max (Bv l) (CT r)
end
def DW:BU→Nat
 | .cells _ cs=>Bv cs
 | .row _ _ _ els=>CT els
 | .map es=>max (Bv (es.map (·.1))) (Bv (es.map (·.2)))
 | .iter _ _=>0
def C7:A6→Nat
 |[]=>0
 |o::r=>max (DW o) (C7 r)
def cellsOf:AV→List AV
 | .agg cs=>cs
 | .tup _=>[]
 | .junk=>[]
 |v=>[v]
def sub(cs:List AV)(off n:Nat):List AV:=(cs.drop off).take n
def B7(cs:List AV)(off:Nat)(new:List AV):List AV:=cs.take off++new++cs.drop (off+new.length)
def I1(agg:Bool)(cs:List AV):Option AV:=
 match agg,cs with
 |true,cs=>some (.agg cs)
 |false,[v]=>some v
 |false,_=>none
def BR(h:A6)(id:Nat):Option (List AV):=
 match h[id]? with
 |some (.cells _ cs)=>some cs
 |_=>none
def rowAt(h:A6)(id:Nat):Option (Bool×Nat×List (List AV)):=
 match h[id]? with
 |some (.row _ fz sz els)=>some (fz,sz,els)
 |_=>none
def EQ(h:A6)(id:Nat):Option Nat:=
 match h[id]? with
 |some (.cells t _)=>t
 |some (.row t _ _ _)=>t
 |_=>none
def ZA(l:Option Nat)(t:Nat):Option Nat:=if l=some t then some t else none
def Sk(h:A6)(id:Nat):Option (List (AV×AV)):=
 match h[id]? with
 |some (.map es)=>some es
 |_=>none
def fO(h:A6)(id:Nat):Option (List UInt8×Nat):=
 match h[id]? with
 |some (.iter l p)=>some (l,p)
 |_=>none
def place(h:A6):AV→Option (List AV×Nat)
 | .ptr id off=>(BR h id).map fun cs=>(cs,off)
 | .pe id n i off=>(rowAt h id).bind fun r=>if n=r.2.2.length then some ((r.2.2.drop i).flatten,off)else none
 | .ip cs off=>some (cs,off)
 |_=>none
def load(h:A6)(agg:Bool)(n:Nat)(a:AV):Option AV:=
 (place h a).bind fun p=>if p.2+n≤p.1.length then I1 agg (sub p.1 p.2 n)else none
def store(h:A6)(n:Nat)(a x:AV):Option A6:=
 match a with
 | .ptr id off=>(BR h id).bind fun cs=>
  if(cellsOf x).length=n∧off+n≤cs.length then some (h.set id (BU.cells (EQ h id) (B7 cs off (cellsOf x))))else none
 | .pe id n' i off=>(rowAt h id).bind fun r=>
  if r.1=false∧n'=r.2.2.length∧(cellsOf x).length=n then
   (r.2.2[i]?).bind fun cs=>if off+n≤cs.length then some (h.set id (BU.row (EQ h id) false r.2.1 (r.2.2.set i (B7 cs off (cellsOf x)))))else none
  else none
 |_=>none
def shift(off:Nat):AV→Option AV
 | .ptr id o=>some (.ptr id (o+off))
 | .pe id n i o=>some (.pe id n i (o+off))
 | .ip cs o=>some (.ip cs (o+off))
 |_=>none
def BV(sz:Nat):Nat→List AV→List (List AV)
 |0,_=>[]
 |n+1,cs=>cs.take sz::BV sz n (cs.drop sz)
def EX(h:A6)(sz:Nat):AV→Option (List (List AV))
 | .nils=>some []
 | .sl sz' els=>if sz'=sz then some els else none
 | .orow id n lo len=>(rowAt h id).bind fun r=>if n=r.2.2.length∧r.2.1=sz∧lo+len≤n then some ((r.2.2.drop lo).take len)else none
 | .ocel sz' id off len=>(BR h id).bind fun cs=>if sz'=sz∧off+len*sz≤cs.length then some (BV sz len (cs.drop off))else none
 |_=>none
def Tq:AV→Option Nat
 | .nils=>some 0
 | .sl _ els=>some els.length
 | .orow _ _ _ len=>some len
 | .ocel _ _ _ len=>some len
 |_=>none
def BS(l:List UInt8):List (List AV):=l.map fun c=>[.i .u8 c.toNat]
def F7:List (List AV)→Option (List UInt8)
 |[]=>some []
 |[.i .u8 n]::r=>(F7 r).map (bb n.toNat:: ·)
 |_=>none
def eq1:CK→AV→AV→Option Bool
 | .b, .b x, .b y=>some (x==y)
 | .i k, .i k1 x, .i k2 y=>if k1=k∧k2=k then some (x==y)else none
 | .s, .s x, .s y=>some (x==y)
 |_,_,_=>none
def NE:List CK→List AV→List AV→Option Bool
 |[],[],[]=>some true
 |c::l,x::r,y::q=>(eq1 c x y).bind fun a=>(NE l r q).map fun b=>a&&b
 |_,_,_=>none
def jL:EK→AV→AV→Option Bool
 | .one c,x,y=>eq1 c x y
 | .agg l, .agg x, .agg y=>NE l x y
 | .p, .nilp, .nilp=>some true
 | .p, .nilp, .ptr _ _=>some false
 | .p, .nilp, .pe _ _ _ _=>some false
 | .p, .nilp, .ip _ _=>some false
 | .p, .ptr _ _, .nilp=>some false
 | .p, .pe _ _ _ _, .nilp=>some false
 | .p, .ip _ _, .nilp=>some false
 | .m, .nilm, .nilm=>some true
 | .m, .nilm, .mp _=>some false
 | .m, .mp _, .nilm=>some false
 | .f, .nilf, .nilf=>some true
 | .f, .nilf, .fn _ _ _=>some false
 | .f, .fn _ _ _, .nilf=>some false
 | .n, .nili, .ifc _ _=>some false
 | .n, .ifc _ _, .nili=>some false
 | .sl, .nils, .nils=>some true
 | .sl, .sl _ _, .nils=>some false
 | .sl, .orow _ _ _ _, .nils=>some false
 | .sl, .ocel _ _ _ _, .nils=>some false
 | .sl, .nils, .sl _ _=>some false
 | .sl, .nils, .orow _ _ _ _=>some false
 | .sl, .nils, .ocel _ _ _ _=>some false
 |_,_,_=>none
def bitsI(op:BinOp)(k:IntKind)(x y:Int):Int:=
 match op with
 | .and=>k.wrap (cr k.bits x&&&cr k.bits y).toNat
 | .or=>k.wrap (cr k.bits x|||cr k.bits y).toNat
 | .xor=>k.wrap (cr k.bits x^^^cr k.bits y).toNat
 |_=>k.wrap (cr k.bits x&&& ~~~(cr k.bits y)).toNat
def Ci:Nat:=1099511627776
def bin(op:BinOp):AV→AV→Option AV
 | .i k a, .i k' b=>
  match op with
  | .shl=>if b<0 then none else some (.i k (k.wrap (a*2^(min b.toNat k.bits))))
  | .shr=>if b<0 then none else some (.i k (a.fdiv (2^(min b.toNat k.bits))))
  |op=>
   if k=k' then
    match op with
    | .add=>some (.i k (k.wrap (a+b)))
    | .sub=>some (.i k (k.wrap (a-b)))
    | .mul=>some (.i k (k.wrap (a*b)))
    | .quo=>if b=0 then none else some (.i k (k.wrap (a.tdiv b)))
    | .rem=>if b=0 then none else some (.i k (a.tmod b))
    | .eql=>some (.b (a==b))
    | .neq=>some (.b (a != b))
    | .lss=>some (.b (decide (a<b)))
    | .leq=>some (.b (decide (a≤b)))
    | .gtr=>some (.b (decide (a>b)))
    | .geq=>some (.b (decide (a≥b)))
    |op=>some (.i k (bitsI op k a b))
   else none
 | .s a, .s b=>
  match op with
  | .add=>if a.length+b.length≤2*Ci then some (.s (a++b))else none
  | .eql=>some (.b (a==b))
  | .neq=>some (.b (!(a==b)))
  | .lss=>some (.b (pf a b))
  | .leq=>some (.b (pf a b||a==b))
  | .gtr=>some (.b (!(pf a b||a==b)))
  | .geq=>some (.b (!(pf a b)))
  |_=>none
 |_,_=>none
def un(op:UnOp):AV→Option AV
 | .i k a=>match op with
  | .neg=>some (.i k (k.wrap (0-a)))
  | .xor=>some (.i k (bitsI .xor k (if k.signed then-1 else k.max) a))
  |_=>none
 | .b x=>match op with
  | .not=>some (.b (!x))
  |_=>none
 |_=>none
def Ir:AV→Option Int
 | .i _ n=>some n
 |_=>none
def LI(x:AV)(to:Nat):Option Nat:=
 (Ir x).bind fun n=>if 0≤n∧n≤to then some n.toNat else none
def HW(f:AO→AV)(len:Nat)(lo hi:Option AO):Option (Nat×Nat):=
 (match hi with
  |none=>some len
  |some x=>LI (f x) len).bind fun h=>
 (match lo with
  |none=>some 0
  |some x=>LI (f x) h).bind fun l=>some (l,h)
def Po(cells:List AV)(rho:AO→AV):List (Nat×Nat×AO)→Option (List AV)
 |[]=>some cells
 |(off,n,x)::r=>
  if(cellsOf (rho x)).length=n∧off+n≤cells.length then Po (B7 cells off (cellsOf (rho x))) rho r else none
def Pp(els:List (List AV))(sz:Nat)(rho:AO→AV):List (Nat×AO)→Option (List (List AV))
 |[]=>some els
 |(i,x)::r=>
  if(cellsOf (rho x)).length=sz∧i<els.length then Pp (els.set i (cellsOf (rho x))) sz rho r else none
def find(ek:EK)(k:AV):List (AV×AV)→Nat→Option (Option (Nat×AV))
 |[],_=>some none
 |(x,v)::r,i=>(jL ek k x).bind fun e=>if e then some (some (i,v))else find ek k r (i+1)
def Sm:EK→AV→Bool
 | .one _,_=>true
 | .agg l, .agg cs=>fx cs.length l.length
 |_,_=>false
def N0(h:A6):AV→Option (List (AV×AV))
 | .nilm=>some []
 | .mp id=>Sk h id
 |_=>none
def WY(h:A6)(sz:Nat)(v:AV)(n:Nat):Option AV:=
 (EX h sz v).bind fun els=>
  if n<els.length then
   match v with
   | .orow id k lo _=>some (.pe id k (lo+n) 0)
   | .ocel _ id off _=>some (.ptr id (off+n*sz))
   |_=>(els[n]?).map fun cs=> .ip cs 0
  else none
def resl(h:A6)(sz:Nat)(v:AV)(a b:Nat):Option AV:=
 match v with
 | .nils=>some .nils
 | .sl sz' els=>if sz'=sz then some (.sl sz ((els.take b).drop a))else none
 | .orow id n l len=>(rowAt h id).bind fun r=>if n=r.2.2.length∧r.2.1=sz∧l+len≤n then some (.orow id n (l+a) (b-a))else none
 | .ocel sz' id off _=>if sz'=sz then some (.ocel sz id (off+a*sz) (b-a))else none
 |_=>none
def xO(h:A6)(n sz:Nat)(v:AV)(a b:Nat):Option AV:=
 match v with
 | .ptr id off=>(BR h id).bind fun cs=>if off+n*sz≤cs.length then some (.ocel sz id (off+a*sz) (b-a))else none
 | .ip cs off=>if off+n*sz≤cs.length then some (.sl sz (((BV sz n (cs.drop off)).take b).drop a))else none
 |_=>none
def ZR(n sz:Nat)(v:AV):Option AV:=
 match v with
 | .ocel sz' id off len=>if sz'=sz∧n≤len then some (.ptr id off)else none
 | .sl sz' els=>if sz'=sz∧n≤els.length then some (.ip (els.take n).flatten 0)else none
 | .orow id k lo len=>if n≤len∧0<n then some (.pe id k lo 0)else none
 |_=>none
def uI(h:A6)(sz:Nat)(v:AV):Option (List (List AV)):=
 match v with
 | .s l=>if sz=1 then some (BS l)else none
 |v=>EX h sz v
def Zh(h:A6)(t sz bytes:Nat)(v:AV)(new:List (List AV)):Option (AV×Option A6):=
 match v with
 | .nils=>
  if new.length=0 then some (.nils,none)
  else if new.length*bytes≤Ci then some (.orow h.length new.length 0 new.length,some (h++[BU.row (some t) false sz new]))else none
 | .orow id n lo len=>(rowAt h id).bind fun r=>
  if lo=0∧n=r.2.2.length∧len=n∧r.2.1=sz∧(n+new.length)*bytes≤Ci∧r.1=false then
   if new.length=0 then some (.orow id n 0 n,none)
   else some (.orow id (n+new.length) 0 (n+new.length),some (h.set id (BU.row (ZA (EQ h id) t) r.1 sz (r.2.2++new))))
  else none
 |_=>none
def rZ(h:A6)(sz:Nat)(v:AV)(src:List (List AV)):Option (AV×Option A6):=
 match v with
 | .nils=>some (.i .i64 0,none)
 | .orow id n lo len=>(rowAt h id).bind fun r=>
  if r.1=false∧n=r.2.2.length∧r.2.1=sz∧lo+len≤n then
   some (.i .i64 (min src.length len:Nat),some (h.set id (BU.row (EQ h id) false sz (r.2.2.take lo++src.take (min src.length len)++r.2.2.drop (lo+min src.length len)))))
  else none
 | .ocel sz' id off len=>(BR h id).bind fun cs=>
  if sz'=sz∧off+len*sz≤cs.length then
   some (.i .i64 (min src.length len:Nat),some (h.set id (BU.cells (EQ h id) (cs.take off++(src.take (min src.length len)).flatten++cs.drop (off+min src.length len*sz)))))
  else none
 |_=>none
abbrev M2:=Option (AV×Option A6)
def val(v:Option AV):M2:=v.map fun v=>(v,none)
def BD(tb:CV)(cl:Nat→List AV→A6→M2)(h:A6)(f:Nat)(args:List AV):M2:=
 match tb.prim f with
 |some p=>p args h
 |none=>cl f args h
def BA(tb:CV)(cl:Nat→List AV→A6→M2)(rho:AO→AV)(h:A6):GI→M2
 | .mv x=>some (rho x,none)
 | .pick c a b=>match rho c with
  | .b t=>some (if t then rho a else rho b,none)
  |_=>none
 | .alloc t zero=>some (.ptr h.length 0,some (h++[BU.cells (some t) zero]))
 | .box t n x=>if(cellsOf (rho x)).length=n then some (.ptr h.length 0,some (h++[BU.cells (some t) (cellsOf (rho x))]))else none
 | .bld zero parts=>val ((Po zero rho parts).map .agg)
 | .bls t sz zero parts=>(Pp zero sz rho parts).map fun els=>(.orow h.length els.length 0 els.length,some (h++[BU.row (some t) false sz els]))
 | .bll sz zero parts=>val ((Pp zero sz rho parts).map (.sl sz))
 | .ld agg n a=>val (load h agg n (rho a))
 | .st n a x=>(store h n (rho a) (rho x)).map fun h=>(.junk,some h)
 | .nilc x=>match rho x with
  | .ptr a b=>some (.ptr a b,none)
  | .pe a b c d=>some (.pe a b c d,none)
  | .ip a b=>some (.ip a b,none)
  | .fn (.func f) a b=>some (.fn (.func f) a b,none)
  |_=>none
 | .bin op x y=>val (bin op (rho x) (rho y))
 | .eq neg ek x y=>val ((jL ek (rho x) (rho y)).map fun e=> .b (if neg then !e else e))
 | .un op x=>val (un op (rho x))
 | .cvi k x=>match rho x with
  | .i _ n=>some (.i k (k.wrap n),none)
  |_=>none
 | .cvid x=>match rho x with
  | .s l=>some (.s l,none)
  |_=>none
 | .cvb t x=>match rho x with
  | .s l=>some (.orow h.length l.length 0 l.length,some (h++[BU.row (some t) false 1 (BS l)]))
  |_=>none
 | .cvr x=>match rho x with
  | .orow id n lo len=>(rowAt h id).bind fun r=>if r.1=false∧n=r.2.2.length∧lo+len≤n then some (.orow id n lo len,none)else none
  |_=>none
 | .cvs x=>val (((EX h 1 (rho x)).bind F7).map .s)
 | .cvc x=>match rho x with
  | .i _ n=>some (.s (jc n).data.toList,none)
  |_=>none
 | .mkf fn a b=>some (.fn fn (a.map rho) (b.map rho),none)
 | .mkm=>some (.mp h.length,some (h++[BU.map []]))
 | .mks t sz bytes zero len cap=>
  (Ir (rho len)).bind fun l=>(Ir (rho cap)).bind fun c=>
   if 0≤l∧l≤c∧c*bytes≤Ci then
    some (.orow h.length l.toNat 0 l.toNat,some (h++[BU.row (some t) false sz (az l.toNat zero)]))
   else none
 | .sls x lo hi=>match rho x with
  | .s l=>(HW rho l.length lo hi).map fun p=>(.s ((l.take p.2).drop p.1),none)
  |_=>none
 | .sll sz x lo hi=>(Tq (rho x)).bind fun len=>(HW rho len lo hi).bind fun p=>val (resl h sz (rho x) p.1 p.2)
 | .sla n sz x lo hi=>(HW rho n lo hi).bind fun p=>val (xO h n sz (rho x) p.1 p.2)
 | .fa off x=>val (shift off (rho x))
 | .fld agg off n x=>match rho x with
  | .agg cs=>if off+n≤cs.length then val (I1 agg (sub cs off n))else none
  |_=>none
 | .ias sz x i=>(Ir (rho i)).bind fun n=>if 0≤n then val (WY h sz (rho x) n.toNat)else none
 | .iaa len sz x i=>
  (Ir (rho i)).bind fun n=>if 0≤n∧n<len then val (shift (n.toNat*sz) (rho x))else none
 | .ixa len sz agg x i=>
  (Ir (rho i)).bind fun n=>match rho x with
   | .agg cs=>if 0≤n∧n<len∧len*sz≤cs.length then val (I1 agg (sub cs (n.toNat*sz) sz))else none
   |_=>none
 | .ixs x i=>
  (Ir (rho i)).bind fun n=>match rho x with
   | .s l=>if 0≤n then(l[n.toNat]?).map fun c=>(.i .u8 c.toNat,none)else none
   |_=>none
 | .lkp ek zero ok m k=>
  if Sm ek (rho k)then(N0 h (rho m)).bind fun es=>(find ek (rho k) es 0).map fun r=>match r with
    |some (_,v)=>(if ok then .tup [v, .b true]else v,none)
    |none=>(if ok then .tup [zero, .b false]else zero,none)
  else none
 | .mup ek m k v=>match rho m with
  | .mp id=>if Sm ek (rho k)then(Sk h id).bind fun es=>(find ek (rho k) es 0).map fun r=>match r with
    |some (i,_)=>(.junk,some (h.set id (BU.map (es.set i (rho k,rho v)))))
    |none=>(.junk,some (h.set id (BU.map (es++[(rho k,rho v)]))))
   else none
  |_=>none
 | .rng x=>match rho x with
  | .s l=>some (.ptr h.length 0,some (h++[BU.iter l 0]))
  |_=>none
 | .nxt x=>match rho x with
  | .ptr id off=>(fO h id).bind fun it=>
   if off=0 then
    if it.2<it.1.length then
     some (.tup [.b true, .i .i64 it.2, .i .i32 (il ⟨it.1.toArray⟩ it.2).1],some (h.set id (BU.iter it.1 (it.2+(il ⟨it.1.toArray⟩ it.2).2))))
    else some (.tup [.b false],none)
   else none
  |_=>none
 | .ext x i=>match rho x with
  | .tup vs=>val (vs[i]?)
  |_=>none
 | .s2a n sz x=>val (ZR n sz (rho x))
 | .mkif _ _=>some (.ifc 0 .junk,none)
 | .call f xs=>BD tb cl h f (xs.map rho)
 | .callv x xs=>match rho x with
  | .fn (.func f) first captured=>BD tb cl h f (first++xs.map rho++captured)
  |_=>none
 | .len x=>(Tq (rho x)).map fun(n:Nat)=>(.i .i64 (n:Int),none)
 | .lens x=>match rho x with
  | .s l=>some (.i .i64 (l.length:Nat),none)
  |_=>none
 | .app t sz bytes s x=>(uI h sz (rho x)).bind fun new=>Zh h t sz bytes (rho s) new
 | .cpy sz d s=>(uI h sz (rho s)).bind fun src=>rZ h sz (rho d) src
 | .mnx max x y=>match rho x,rho y with
  | .i k a, .i k' b=>if k=k' then some (.i k (if max then(if b>a then b else a)else(if b<a then b else a)),none)else none
  |_,_=>none
 | .clr zero x=>match rho x with
  | .nils=>some (.tup [],none)
  | .orow id n lo len=>(rowAt h id).bind fun r=>
   if r.1=false∧n=r.2.2.length∧lo+len≤n∧zero.length=r.2.1 then
    some (.tup [],some (h.set id (BU.row (EQ h id) false r.2.1 (r.2.2.take lo++az len zero++r.2.2.drop (lo+len)))))
   else none
  | .mp id=>(Sk h id).map fun _=>(.tup [],some (h.set id (BU.map [])))
  |_=>none
 | .del ek m k=>match rho m with
  | .nilm=>if Sm ek (rho k)then some (.tup [],none)else none
  | .mp id=>if Sm ek (rho k)then(Sk h id).bind fun es=>(find ek (rho k) es 0).map fun r=>match r with
    |some (i,_)=>(.tup [],some (h.set id (BU.map (es.eraseIdx i))))
    |none=>(.tup [],none)
   else none
  |_=>none
 | .lenm m=>(N0 h (rho m)).map fun es=>(.i .i64 es.length,none)
 | .cvp x=>match rho x with
  | .nilp=>some (.nilp,none)
  | .ptr id off=>(BR h id).bind fun cs=>if off<cs.length then some (.ptr id off,none)else none
  |_=>none
 | .cvu t n x=>match rho x with
  | .nilp=>some (.nilp,none)
  | .ptr id off=>(BR h id).bind fun cs=>if off=0∧cs.length=n∧EQ h id=some t then some (.ptr id 0,none)else none
  |_=>none
 | .capn x=>match rho x with
  | .nils=>some (.i .i64 0,none)
  |_=>none
 | .isni neg x=>match rho x with
  | .nili=>some (.b (!neg),none)
  | .ifc _ _=>some (.b neg,none)
  |_=>none
 | .eqp neg x y=>match rho x,rho y with
  | .ptr a o, .ptr b o'=>if a=b∧o=o' then some (.b (!neg),none)else none
  |_,_=>none
 | .usd x=>match rho x with
  | .nils=>some (.nilp,none)
  | .orow id n lo len=>(rowAt h id).bind fun r=>if n=r.2.2.length∧lo+len≤n∧0<len then some (.pe id n lo 0,none)else none
  |_=>none
 | .ust t x n=>(Ir (rho n)).bind fun k=>match rho x with
  | .nilp=>if k=0 then some (.s [],none)else none
  | .pe id n i off=>(rowAt h id).bind fun r=>
   if off=0∧0<k∧n=r.2.2.length∧i+k.toNat≤n∧r.2.1=1∧EQ h id=some t∧k≤Ci then
    (F7 ((r.2.2.drop i).take k.toNat)).map fun l=>(.s l,some (h.set id (BU.row (EQ h id) true 1 r.2.2)))
   else none
  |_=>none
 | .die=>none
def eval(tb:CV)(f:Fr):AO→AV
 | .t n=>get f n
 | .k v=>v
 | .f n=> .fn (.func n) [] []
 | .g n=>match tb.gl n with
  |some cs=> .ip cs 0
  |none=> .junk
def wanted(f:Fr)(g:Option (Nat×Bool)):Option Bool:=
 match g with
 |none=>some true
 |some (t,w)=>match get f t with
  | .b x=>some (x==w)
  | .tup []=>some false
  |_=>none
def ops(tb:CV)(cl:Nat→List AV→A6→M2):List Bh→Fr→A6→Option (Fr×A6)
 |[],f,h=>some (f,h)
 |o::r,f,h=>
  (wanted f o.g).bind fun w=>
   if w then(BA tb cl (eval tb f) h o.o).bind fun p=>ops tb cl r (put f o.d p.1) (p.2.getD h)
   else ops tb cl r (put f o.d (.tup [])) h
def IU(tb:CV)(cl:Nat→List AV→A6→M2):List Bh→List (Option (Nat×Nat))→Fr→A6→Option (List A6)
 |[],_,_,h=>some [h]
 |o::r,w,f,h=>
  (wanted f o.g).bind fun t=>
   if t then(BA tb cl (eval tb f) h o.o).bind fun p=>
    (IU tb cl r w.tail (put f o.d p.1) (p.2.getD h)).map fun l=>
     match w.head? with
     |some none=>h::l
     |_=>l
   else(IU tb cl r w.tail (put f o.d (.tup [])) h).map fun l=>
    match w.head? with
    |some none=>h::l
    |_=>l
open Classical in
def Jm(tb:CV)(cl:Nat→List AV→A6→M2)(h:A6):List Bh→Fr→Option Fr
 |[],f=>some f
 |o::r,f=>
  (wanted f o.g).bind fun w=>
   if w then(BA tb cl (eval tb f) h o.o).bind fun p=>if p.2.getD h=h then Jm tb cl h r (put f o.d p.1)else none
   else Jm tb cl h r (put f o.d (.tup []))
open Classical in
def Le(tb:CV)(cl:Nat→List AV→A6→M2)(hs:List A6):List Bh→List (Option (Nat×Nat))→Nat→Fr→Option Fr
 |[],_,k,f=>if k+1=hs.length then some f else none
 |o::r,w,k,f=>
  (wanted f o.g).bind fun t=>
   if t then(hs[k]?).bind fun h=>(BA tb cl (eval tb f) h o.o).bind fun p=>
    match w with
    |none::w=>if some (p.2.getD h)=hs[k+1]? then Le tb cl hs r w (k+1) (put f o.d p.1)else none
    |some (lo,hi)::w=>
     if(dp lo (hi+1-lo)).all (fun j=>decide (∃u,(hs[j]?).bind (fun h=>BA tb cl (eval tb f) h o.o)=some (p.1,u)∧some (u.getD (hs[j]?.getD []))=hs[j]?))then
      Le tb cl hs r w k (put f o.d p.1)
     else none
    |[]=>none
   else match w with
    |none::w=>if hs[k]? =hs[k+1]? then Le tb cl hs r w (k+1) (put f o.d (.tup []))else none
    |some _::w=>Le tb cl hs r w k (put f o.d (.tup []))
    |[]=>none
def keepL(Bn:List Nat)(f:Fr):Fr:=Bn.map fun t=>(t,get f t)
def aT(F:Fr→A6→Option (Ex×Fr×A6)):Nat→Fr→A6→Option (Ex×Fr×A6)
 |0,_,_=>none
 |n+1,f,h=>match F f h with
  |some (.normal,f',h')=>aT F n f' h'
  |r=>r
open Classical in
def lp(F:Fr→A6→Option (Ex×Fr×A6))(f:Fr)(h:A6):Option (Ex×Fr×A6):=
 if x: ∃n,(aT F n f h).isSome=true then aT F (fk x) f h else none
def MW(Bn:List Nat)(F:Fr→A6→Option (Ex×Fr×A6))(f:Fr)(h:A6):Option (Ex×Fr×A6):=
 (F (keepL Bn f) h).map fun
  |(.normal,f',h')=>(.normal,keepL Bn f',h')
  |r=>r
def Bp(tb:CV)(cl:Nat→List AV→A6→M2):AC→Fr→A6→Option (Ex×Fr×A6)
 | .skip,f,h=>some (.normal,f,h)
 | .reg l,f,h=>(ops tb cl l f h).map fun p=>(.normal,p.1,p.2)
 | .regq l,f,h=>(Jm tb cl h l f).map fun f=>(.normal,f,h)
 | .regd l w,f,h=>(IU tb cl l w f h).bind fun hs=>(Le tb cl (h::hs.tail) l w 0 f).bind fun f=>((h::hs.tail).getLast?).map fun h=>(.normal,f,h)
 | .seq x y,f,h=>(Bp tb cl x f h).bind fun
  |(.normal,f,h)=>Bp tb cl y f h
  |r=>some r
 | .cond c x y,f,h=>match eval tb f c with
  | .b t=>if t then Bp tb cl x f h else Bp tb cl y f h
  |_=>none
 | .blk id x,f,h=>(Bp tb cl x f h).map fun
  |(.exit id',f,h)=>if id'=id then(.normal,f,h)else(.exit id',f,h)
  |r=>r
 | .loop Bn x,f,h=>lp (MW Bn (Bp tb cl x)) f h
 | .exit id,f,h=>some (.exit id,f,h)
 | .ret,f,h=>some (.ret,f,h)
 | .keep Bn x,f,h=>(Bp tb cl x f h).map fun
  |(.normal,f,h)=>(.normal,keepL Bn f,h)
  |r=>r
 | .scope x,f,h=>Bp tb cl x f h
 | .stop,_,_=>none
def results(f:Fr)(h:A6):List KZ→Option (List AV)
 |[]=>some []
 | .tmp t::r=>(results f h r).map (get f t:: ·)
 | .cell agg n t::r=>(load h agg n (get f t)).bind fun v=>(results f h r).map (v:: ·)
def Gg:List AV→AV
 |[v]=>v
 |vs=> .tup vs
def DU{α:Type}(F:α→Option α):List α→Option (List α)
 |[]=>some []
 |x::r=>(F x).bind fun x=>(DU F r).map (x:: ·)
def frz(h:A6)(n:Nat):Nat→AV→Option AV
 |0,v=>if ment v≤n then some v else none
 |d+1,v=>if ment v≤n then some v else match v with
  | .orow id k lo len=>(rowAt h id).bind fun r=>
   if k=r.2.2.length∧lo+len≤k then(DU (DU (frz h n d)) ((r.2.2.drop lo).take len)).map (.sl r.2.1)else none
  | .ocel sz id off len=>(BR h id).bind fun cs=>
   if off+len*sz≤cs.length then(DU (DU (frz h n d)) (BV sz len (cs.drop off))).map (.sl sz)else none
  | .sl sz els=>(DU (DU (frz h n d)) els).map (.sl sz)
  | .agg cs=>(DU (frz h n d) cs).map .agg
  | .tup cs=>(DU (frz h n d) cs).map .tup
  |_=>none
def rB(h:A6)(n:Nat)(l:List AV):Option (List AV):=DU (frz h n 12) l
def Z9(n:Nat)(h:A6)(vs:List AV):AV×Option A6:=
 match rB h n vs with
 |some vs'=>if C7 (h.take n)≤n then(Gg vs',some (h.take n))else(Gg vs,some h)
 |none=>(Gg vs,some h)
def Yx(warm:Bool)(n:Nat)(h:A6)(vs:List AV):AV×Option A6:=
 match warm with
 |true=>(Gg vs,some h)
 |false=>Z9 n h vs
def body(tb:CV)(cl:Nat→List AV→A6→M2)(fn:Cv)(args:List AV)(h:A6):M2:=
 if args.length=fn.np then
  (Bp tb cl fn.body (args.zipIdx.map fun p=>(p.2,p.1)) h).bind fun
   |(.exit _,_,_)=>none
   |(_,f,h')=>(results f h' fn.res).map fun vs=>Yx fn.warm h.length h' vs
 else none
def run(tb:CV):Nat→Nat→List AV→A6→M2
 |0,_,_,_=>none
 |n+1,f,args,h=>(tb.fns f).bind fun fn=>body tb (run tb n) fn args h
open Classical in
def C3(tb:CV)(f:Nat)(args:List AV)(h:A6):M2:=
 if x: ∃n,(run tb n f args h).isSome=true then run tb (fk x) f args h else none
end
section
theorem uP(F:Fr→A6→Option (Ex×Fr×A6)): ∀(n:Nat) (f:Fr) (h:A6) (r:Ex×Fr×A6),aT F n f h=some r→ ∀m,n≤m→aT F m f h=some r:=by
 intro n
 induction n with
 |zero=>intro f h r e;simp[aT]at e
 |succ n ih=>
  intro f h r e m hm;obtain⟨m,rfl⟩: ∃k,m=k+1:=⟨m-1,by omega⟩;simp only[aT]at e ⊢
  split at e
  ·exact ih _ _ _ e m (by omega)
  ·exact e
theorem lp_of(F:Fr→A6→Option (Ex×Fr×A6)){n:Nat}{f:Fr}{h:A6}{r:Ex×Fr×A6}(e:aT F n f h=some r):lp F f h=some r:=by
 unfold lp;have x: ∃n,(aT F n f h).isSome=true:=⟨n,by rw[e];rfl⟩;rw[dif_pos x];have hc:=m9 x;cases hr:aT F (fk x) f h with
 |none=>rw[hr]at hc;simp at hc
 |some r'=>
  have h1:=uP F _ _ _ _ e (max n (fk x)) (by omega);have h2:=uP F _ _ _ _ hr (max n (fk x)) (by omega);rw[h1]at h2;exact h2.symm
theorem lp_ex{F:Fr→A6→Option (Ex×Fr×A6)}{f:Fr}{h:A6}{r:Ex×Fr×A6}(e:lp F f h=some r): ∃n,aT F n f h=some r:=by
 unfold lp at e
 split at e
 ·exact⟨_,e⟩
 ·simp at e
def Below(c d:Nat→List AV→A6→M2):Prop:= ∀f a h r,c f a h=some r→d f a h=some r
theorem X1{tb:CV}{c d:Nat→List AV→A6→M2}(b:Below c d){h:A6}{f:Nat}{a:List AV}{r:AV×Option A6}
  (e:BD tb c h f a=some r):BD tb d h f a=some r:=by
 unfold BD at*
 split
 ·rename_i p hp;rw[hp]at e;exact e
 ·rename_i hp;rw[hp]at e;exact b _ _ _ _ e
theorem Hb{tb:CV}{c d:Nat→List AV→A6→M2}(b:Below c d){rho:AO→AV}{h:A6}{o:GI}{r:AV×Option A6}
  (e:BA tb c rho h o=some r):BA tb d rho h o=some r:=by
 cases o<;>first
  |exact e
  |(simp only[BA]at e ⊢;exact X1 b e)
  |skip
 case callv x xs=>
  simp only[BA]at e ⊢
  split at e
  ·exact X1 b e
  ·simp at e
theorem uC{tb:CV}{c d:Nat→List AV→A6→M2}(b:Below c d): ∀(l:List Bh) (f:Fr) (h:A6) (r:Fr×A6),ops tb c l f h=some r→ops tb d l f h=some r:=by
 intro l
 induction l with
 |nil=>intro f h r e;exact e
 |cons o l ih=>
  intro f h r e;simp only[ops]at e ⊢;cases hw:wanted f o.g with
  |none=>rw[hw]at e;simp at e
  |some t=>
   rw[hw]at e;simp only[aa]at e ⊢;cases t with
   |false=>exact ih _ _ _ e
   |true=>
    simp only[uc]at e ⊢;cases ha:BA tb c (eval tb f) h o.o with
    |none=>rw[ha]at e;simp at e
    |some p=>
     rw[ha]at e;rw[Hb b ha];exact ih _ _ _ e
theorem mZ{tb:CV}{c d:Nat→List AV→A6→M2}(b:Below c d)(h:A6): ∀(l:List Bh) (f:Fr) (r:Fr),Jm tb c h l f=some r→Jm tb d h l f=some r:=by
 intro l
 induction l with
 |nil=>intro f r e;exact e
 |cons o l ih=>
  intro f r e;simp only[Jm]at e ⊢;cases hw:wanted f o.g with
  |none=>rw[hw]at e;simp at e
  |some t=>
   rw[hw]at e;simp only[aa]at e ⊢;cases t with
   |false=>exact ih _ _ e
   |true=>
    simp only[uc]at e ⊢;cases ha:BA tb c (eval tb f) h o.o with
    |none=>rw[ha]at e;simp at e
    |some p=>
     rw[ha]at e;rw[Hb b ha];simp only[aa]at e ⊢
     split at e
     ·rename_i hq;rw[t6 hq];exact ih _ _ e
     ·simp at e
theorem VJ{tb:CV}{c d:Nat→List AV→A6→M2}(b:Below c d): ∀(l:List Bh) (w:List (Option (Nat×Nat))) (f:Fr) (h:A6) (r:List A6),
  IU tb c l w f h=some r→IU tb d l w f h=some r:=by
 intro l
 induction l with
 |nil=>intro w f h r e;exact e
 |cons o l ih=>
  intro w f h r e;simp only[IU]at e ⊢;cases hw:wanted f o.g with
  |none=>rw[hw]at e;simp at e
  |some t=>
   rw[hw]at e;simp only[aa]at e ⊢;cases t with
   |false=>
    simp only[ah,ud]at e ⊢;cases hh:IU tb c l w.tail (put f o.d (.tup [])) h with
    |none=>rw[hh]at e;simp at e
    |some r'=>rw[hh]at e;rw[ih _ _ _ _ hh];exact e
   |true=>
    simp only[uc]at e ⊢;cases ha:BA tb c (eval tb f) h o.o with
    |none=>rw[ha]at e;simp at e
    |some p=>
     rw[ha]at e;rw[Hb b ha];simp only[aa]at e ⊢;cases hh:IU tb c l w.tail (put f o.d p.1) (p.2.getD h)with
     |none=>rw[hh]at e;simp at e
     |some r'=>rw[hh]at e;rw[ih _ _ _ _ hh];exact e
theorem Um{tb:CV}{c d:Nat→List AV→A6→M2}(b:Below c d)(hs:List A6): ∀(l:List Bh) (w:List (Option (Nat×Nat))) (k:Nat) (f:Fr) (r:Fr),
  Le tb c hs l w k f=some r→Le tb d hs l w k f=some r:=by
 intro l
 induction l with
 |nil=>intro w k f r e;exact e
 |cons o l ih=>
  intro w k f r e;simp only[Le]at e ⊢;cases hw:wanted f o.g with
  |none=>rw[hw]at e;simp at e
  |some t=>
   rw[hw]at e;simp only[aa]at e ⊢;cases t with
   |false=>
    simp only[ah,ud]at e ⊢;cases w with
    |nil=>simp at e
    |cons x w=>
     cases x with
     |none=>
      simp only at e ⊢
      split at e
      ·rename_i hq;rw[t6 hq];exact ih _ _ _ _ e
      ·simp at e
     |some y=>exact ih _ _ _ _ e
   |true=>
    simp only[uc]at e ⊢;cases hk:hs[k]? with
    |none=>rw[hk]at e;simp at e
    |some h=>
     rw[hk]at e;simp only[aa]at e ⊢;cases ha:BA tb c (eval tb f) h o.o with
     |none=>rw[ha]at e;simp at e
     |some p=>
      rw[ha]at e;rw[Hb b ha];simp only[aa]at e ⊢;cases w with
      |nil=>simp at e
      |cons x w=>
       cases x with
       |none=>
        simp only at e ⊢
        split at e
        ·rename_i hq;rw[t6 hq];exact ih _ _ _ _ e
        ·simp at e
       |some y=>
        obtain⟨lo,hi⟩:=y;simp only at e ⊢
        split at e
        ·rename_i hq;rw[t6]
         ·exact ih _ _ _ _ e
         ·simp only[cb,t8]at hq ⊢;intro j hj;obtain⟨u,hu,hu'⟩:=hq j hj;refine⟨u,?_,hu'⟩;cases hj':hs[j]? with
          |none=>rw[hj']at hu;simp at hu
          |some h'=>rw[hj']at hu;exact Hb b hu
        ·simp at e
theorem lpN_le{F G:Fr→A6→Option (Ex×Fr×A6)}(b: ∀f h r,F f h=some r→G f h=some r): ∀(n:Nat) (f:Fr) (h:A6) (r:Ex×Fr×A6),aT F n f h=some r→aT G n f h=some r:=by
 intro n
 induction n with
 |zero=>intro f h r e;simp[aT]at e
 |succ n ih=>
  intro f h r e;simp only[aT]at e ⊢;cases hF:F f h with
  |none=>rw[hF]at e;simp at e
  |some r'=>
   rw[hF]at e;rw[b _ _ _ hF];obtain⟨x,f',h'⟩:=r';cases x with
   |normal=>exact ih _ _ _ e
   |exit id=>exact e
   |ret=>exact e
theorem Ur{tb:CV}{c d:Nat→List AV→A6→M2}(b:Below c d): ∀(x:AC) (f:Fr) (h:A6) (r:Ex×Fr×A6),Bp tb c x f h=some r→Bp tb d x f h=some r:=by
 intro x
 induction x with
 |skip=>intro f h r e;exact e
 |reg l=>
  intro f h r e;simp only[Bp]at e ⊢;cases ho:ops tb c l f h with
  |none=>rw[ho]at e;simp at e
  |some p=>rw[ho]at e;rw[uC b _ _ _ _ ho];exact e
 |regq l=>
  intro f h r e;simp only[Bp]at e ⊢;cases ho:Jm tb c h l f with
  |none=>rw[ho]at e;simp at e
  |some p=>rw[ho]at e;rw[mZ b h _ _ _ ho];exact e
 |regd l w=>
  intro f h r e;simp only[Bp]at e ⊢;cases ho:IU tb c l w f h with
  |none=>rw[ho]at e;simp at e
  |some hs=>
   rw[ho]at e;rw[VJ b _ _ _ _ _ ho];simp only[aa]at e ⊢;cases hd:Le tb c (h::hs.tail) l w 0 f with
   |none=>rw[hd]at e;simp at e
   |some f'=>rw[hd]at e;rw[Um b _ _ _ _ _ _ hd];exact e
 |seq x y ihx ihy=>
  intro f h r e;simp only[Bp]at e ⊢;cases hx:Bp tb c x f h with
  |none=>rw[hx]at e;simp at e
  |some p=>
   rw[hx]at e;rw[ihx _ _ _ hx];obtain⟨q,f',h'⟩:=p;cases q with
   |normal=>exact ihy _ _ _ e
   |exit id=>exact e
   |ret=>exact e
 |cond o x y ihx ihy=>
  intro f h r e;simp only[Bp]at e ⊢
  split at e
  ·rename_i t ht
   split at e
   ·rename_i hh;simp only[hh,uc];exact ihx _ _ _ e
   ·rename_i hh;simp only[hh];exact ihy _ _ _ e
  ·simp at e
 |blk id x ih=>
  intro f h r e;simp only[Bp]at e ⊢;cases hx:Bp tb c x f h with
  |none=>rw[hx]at e;simp at e
  |some p=>rw[hx]at e;rw[ih _ _ _ hx];exact e
 |loop Bn x ih=>
  intro f h r e;simp only[Bp]at e ⊢;obtain⟨n,hn⟩:=lp_ex e;refine lp_of _ (n:=n) (lpN_le ?_ n f h r hn);intro f h r e;simp only[MW]at e ⊢;cases hx:Bp tb c x (keepL Bn f) h with
  |none=>rw[hx]at e;simp at e
  |some p=>rw[hx]at e;rw[ih _ _ _ hx];exact e
 |exit id=>intro f h r e;exact e
 |ret=>intro f h r e;exact e
 |scope x ih=>intro f h r e;exact ih f h r e
 |stop=>intro f h r e;simp[Bp]at e
 |keep Bn x ih=>
  intro f h r e;simp only[Bp]at e ⊢;cases hx:Bp tb c x f h with
  |none=>rw[hx]at e;simp at e
  |some p=>rw[hx]at e;rw[ih _ _ _ hx];exact e
theorem oJ{tb:CV}{c d:Nat→List AV→A6→M2}(b:Below c d){fn:Cv}{a:List AV}{h:A6}{r:AV×Option A6}
  (e:body tb c fn a h=some r):body tb d fn a h=some r:=by
 simp only[body]at e ⊢
 split at e
 ·rename_i hn;rw[t6 hn];cases hx:Bp tb c fn.body (a.zipIdx.map fun p=>(p.2,p.1)) h with
  |none=>rw[hx]at e;simp at e
  |some p=>rw[hx]at e;rw[Ur b _ _ _ _ hx];exact e
 ·simp at e
theorem run_succ(tb:CV): ∀n,Below (run tb n) (run tb (n+1)):=by
 intro n
 induction n with
 |zero=>intro f a h r e;simp[run]at e
 |succ n ih=>
  intro f a h r e;rw[run]at e ⊢;cases hf:tb.fns f with
  |none=>rw[hf]at e;simp at e
  |some fn=>rw[hf]at e;exact oJ ih e
theorem DG(tb:CV){n m:Nat}(h:n≤m):Below (run tb n) (run tb m):=by
 induction m with
 |zero=>obtain rfl:n=0:=(by omega);exact fun _ _ _ _ e=>e
 |succ m ih=>
  by_cases hn:n=m+1
  ·subst hn;exact fun _ _ _ _ e=>e
  ·exact fun f a x r e=>run_succ tb m _ _ _ _ (ih (by omega) f a x r e)
theorem den_of{tb:CV}{n f:Nat}{a:List AV}{h:A6}{r:AV×Option A6}(e:run tb n f a h=some r):C3 tb f a h=some r:=by
 unfold C3;have x: ∃n,(run tb n f a h).isSome=true:=⟨n,by rw[e];rfl⟩;rw[dif_pos x];have hc:=m9 x;cases hr:run tb (fk x) f a h with
 |none=>rw[hr]at hc;simp at hc
 |some r'=>
  have h1:=DG tb (fo n (fk x)) _ _ _ _ e;have h2:=DG tb (fg n (fk x)) _ _ _ _ hr;rw[h1]at h2;exact h2.symm
theorem AaP{tb:CV}{f:Nat}{a:List AV}{h:A6}{r:AV×Option A6}(e:C3 tb f a h=some r): ∃n,run tb n f a h=some r:=by
 unfold C3 at e
 split at e
 ·exact⟨_,e⟩
 ·simp at e
theorem run_below(tb:CV)(n:Nat):Below (run tb n) (C3 tb):=fun _ _ _ _ e=>den_of e
theorem XH{tb:CV}{rho:AO→AV}{h:A6}{o:GI}{r:AV×Option A6}(e:BA tb (C3 tb) rho h o=some r): ∃n,BA tb (run tb n) rho h o=some r:=by
 have hc: ∀f a,BD tb (C3 tb) h f a=some r→ ∃n,BD tb (run tb n) h f a=some r:=by
  intro f a e;unfold BD at*;cases hp:tb.prim f with
  |some p=>rw[hp]at e;exact⟨0,e⟩
  |none=>rw[hp]at e;exact AaP e
 cases o<;>first
  |exact⟨0,e⟩
  |(simp only[BA]at e ⊢;exact hc _ _ e)
  |skip
 case callv x xs=>
  simp only[BA]at e ⊢
  split at e
  ·exact hc _ _ e
  ·simp at e
theorem ops_den{tb:CV}: ∀(l:List Bh) (f:Fr) (h:A6) (r:Fr×A6),ops tb (C3 tb) l f h=some r→ ∃n,ops tb (run tb n) l f h=some r:=by
 intro l
 induction l with
 |nil=>intro f h r e;exact⟨0,e⟩
 |cons o l ih=>
  intro f h r e;simp only[ops]at e ⊢;cases hw:wanted f o.g with
  |none=>rw[hw]at e;simp at e
  |some t=>
   rw[hw]at e;simp only[aa]at e ⊢;cases t with
   |false=>exact ih _ _ _ e
   |true=>
    simp only[uc]at e ⊢;cases ha:BA tb (C3 tb) (eval tb f) h o.o with
    |none=>rw[ha]at e;simp at e
    |some p=>
     rw[ha]at e;obtain⟨n,hn⟩:=XH ha;obtain⟨m,hm⟩:=ih _ _ _ e;refine⟨max n m,?_⟩;rw[Hb (DG tb (fo n m)) hn];exact uC (DG tb (fg n m)) _ _ _ _ hm
theorem opsQ_den{tb:CV}(h:A6): ∀(l:List Bh) (f:Fr) (r:Fr),Jm tb (C3 tb) h l f=some r→ ∃n,Jm tb (run tb n) h l f=some r:=by
 intro l
 induction l with
 |nil=>intro f r e;exact⟨0,e⟩
 |cons o l ih=>
  intro f r e;simp only[Jm]at e ⊢;cases hw:wanted f o.g with
  |none=>rw[hw]at e;simp at e
  |some t=>
   rw[hw]at e;simp only[aa]at e ⊢;cases t with
   |false=>exact ih _ _ e
   |true=>
    simp only[uc]at e ⊢;cases ha:BA tb (C3 tb) (eval tb f) h o.o with
    |none=>rw[ha]at e;simp at e
    |some p=>
     rw[ha]at e;obtain⟨n,hn⟩:=XH ha;simp only[aa]at e
     split at e
     ·rename_i hq;obtain⟨m,hm⟩:=ih _ _ e;refine⟨max n m,?_⟩;rw[Hb (DG tb (fo n m)) hn];simp only[aa];rw[t6 hq];exact mZ (DG tb (fg n m)) h _ _ _ hm
     ·simp at e
theorem heaps_den{tb:CV}: ∀(l:List Bh) (w:List (Option (Nat×Nat))) (f:Fr) (h:A6) (r:List A6),IU tb (C3 tb) l w f h=some r→ ∃n,IU tb (run tb n) l w f h=some r:=by
 intro l
 induction l with
 |nil=>intro w f h r e;exact⟨0,e⟩
 |cons o l ih=>
  intro w f h r e;simp only[IU]at e ⊢;cases hw:wanted f o.g with
  |none=>rw[hw]at e;simp at e
  |some t=>
   rw[hw]at e;simp only[aa]at e ⊢;cases t with
   |false=>
    simp only[ah,ud]at e ⊢;cases hh:IU tb (C3 tb) l w.tail (put f o.d (.tup [])) h with
    |none=>rw[hh]at e;simp at e
    |some r'=>
     rw[hh]at e;obtain⟨n,hn⟩:=ih _ _ _ _ hh;exact⟨n,by rw[hn];exact e⟩
   |true=>
    simp only[uc]at e ⊢;cases ha:BA tb (C3 tb) (eval tb f) h o.o with
    |none=>rw[ha]at e;simp at e
    |some p=>
     rw[ha]at e;obtain⟨n,hn⟩:=XH ha;simp only[aa]at e;cases hh:IU tb (C3 tb) l w.tail (put f o.d p.1) (p.2.getD h)with
     |none=>rw[hh]at e;simp at e
     |some r'=>
      rw[hh]at e;obtain⟨m,hm⟩:=ih _ _ _ _ hh;refine⟨max n m,?_⟩;rw[Hb (DG tb (fo n m)) hn];simp only[aa];rw[VJ (DG tb (fg n m)) _ _ _ _ _ hm];exact e
theorem all_den{tb:CV}{f:Fr}{o:GI}{v:AV}(hs:List A6): ∀(l:List Nat),
  (∀j∈l,∃u,(hs[j]?).bind (fun h=>BA tb (C3 tb) (eval tb f) h o)=some (v,u)∧some (u.getD (hs[j]?.getD []))=hs[j]?)→
  ∃n,∀j∈l,∃u,(hs[j]?).bind (fun h=>BA tb (run tb n) (eval tb f) h o)=some (v,u)∧some (u.getD (hs[j]?.getD []))=hs[j]? :=by
 intro l
 induction l with
 |nil=>intro _;exact⟨0,fun j hj=>by cases hj⟩
 |cons j l ih=>
  intro H;obtain⟨n,hn⟩:=ih fun j hj=>H j (a8 _ hj);obtain⟨u,hu,hu'⟩:=H j bg;cases hj:hs[j]? with
  |none=>rw[hj]at hu;simp at hu
  |some h=>
   rw[hj]at hu;obtain⟨m,hm⟩:=XH hu;refine⟨max n m,?_⟩;intro i hi;rcases bm.1 hi with e|hi
   ·subst e;refine⟨u,?_,hu'⟩;rw[hj];exact Hb (DG tb (fg n m)) hm
   ·obtain⟨u',h1,h2⟩:=hn i hi;refine⟨u',?_,h2⟩;cases hi':hs[i]? with
    |none=>rw[hi']at h1;simp at h1
    |some h'=>rw[hi']at h1;exact Hb (DG tb (fo n m)) h1
theorem opsD_den{tb:CV}(hs:List A6): ∀(l:List Bh) (w:List (Option (Nat×Nat))) (k:Nat) (f:Fr) (r:Fr),Le tb (C3 tb) hs l w k f=some r→ ∃n,Le tb (run tb n) hs l w k f=some r:=by
 intro l
 induction l with
 |nil=>intro w k f r e;exact⟨0,e⟩
 |cons o l ih=>
  intro w k f r e;simp only[Le]at e ⊢;cases hw:wanted f o.g with
  |none=>rw[hw]at e;simp at e
  |some t=>
   rw[hw]at e;simp only[aa]at e ⊢;cases t with
   |false=>
    simp only[ah,ud]at e ⊢;cases w with
    |nil=>simp at e
    |cons x w=>
     cases x with
     |none=>
      simp only at e ⊢
      split at e
      ·rename_i hq;simp only[t6 hq];exact ih _ _ _ _ e
      ·simp at e
     |some y=>exact ih _ _ _ _ e
   |true=>
    simp only[uc]at e ⊢;cases hk:hs[k]? with
    |none=>rw[hk]at e;simp at e
    |some h=>
     rw[hk]at e;simp only[aa]at e ⊢;cases ha:BA tb (C3 tb) (eval tb f) h o.o with
     |none=>rw[ha]at e;simp at e
     |some p=>
      rw[ha]at e;obtain⟨n,hn⟩:=XH ha;simp only[aa]at e ⊢;cases w with
      |nil=>simp at e
      |cons x w=>
       cases x with
       |none=>
        simp only at e ⊢
        split at e
        ·rename_i hq;obtain⟨m,hm⟩:=ih _ _ _ _ e;refine⟨max n m,?_⟩;rw[Hb (DG tb (fo n m)) hn];simp only[aa];rw[t6 hq];exact Um (DG tb (fg n m)) hs _ _ _ _ _ hm
        ·simp at e
       |some y=>
        obtain⟨lo,hi⟩:=y;simp only at e ⊢
        split at e
        ·rename_i hq;obtain⟨m,hm⟩:=ih _ _ _ _ e;simp only[cb,t8]at hq;obtain⟨q,hq⟩:=all_den hs _ hq;refine⟨max n (max m q),?_⟩;rw[Hb (DG tb (fo n (max m q))) hn];simp only[aa];rw[t6]
         ·exact Um (DG tb (dj (fo m q) (fg n _))) hs _ _ _ _ _ hm
         ·simp only[cb,t8];intro j hj;obtain⟨u,hu,hu'⟩:=hq j hj;refine⟨u,?_,hu'⟩;cases hj':hs[j]? with
          |none=>rw[hj']at hu;simp at hu
          |some h'=>rw[hj']at hu;exact Hb (DG tb (dj (fg m q) (fg n _))) hu
        ·simp at e
theorem lpN_den{F:Nat→Fr→A6→Option (Ex×Fr×A6)}{G:Fr→A6→Option (Ex×Fr×A6)}(hm: ∀n m,n≤m→ ∀f h r,F n f h=some r→F m f h=some r)
  (hG: ∀f h r,G f h=some r→ ∃n,F n f h=some r): ∀(k:Nat) (f:Fr) (h:A6) (r:Ex×Fr×A6),aT G k f h=some r→ ∃n,aT (F n) k f h=some r:=by
 intro k
 induction k with
 |zero=>intro f h r e;simp[aT]at e
 |succ k ih=>
  intro f h r e;simp only[aT]at e ⊢;cases hx:G f h with
  |none=>rw[hx]at e;simp at e
  |some p=>
   rw[hx]at e;obtain⟨n,hn⟩:=hG _ _ _ hx;obtain⟨q,f',h'⟩:=p;cases q with
   |normal=>
    obtain⟨m,hm'⟩:=ih _ _ _ e;refine⟨max n m,?_⟩;rw[hm n _ (fo n m) _ _ _ hn];exact lpN_le (hm m _ (fg n m)) _ _ _ _ hm'
   |exit id=>exact⟨n,by rw[hn];exact e⟩
   |ret=>exact⟨n,by rw[hn];exact e⟩
theorem exec_den{tb:CV}: ∀(x:AC) (f:Fr) (h:A6) (r:Ex×Fr×A6),Bp tb (C3 tb) x f h=some r→ ∃n,Bp tb (run tb n) x f h=some r:=by
 intro x
 induction x with
 |skip=>intro f h r e;exact⟨0,e⟩
 |reg l=>
  intro f h r e;simp only[Bp]at e ⊢;cases ho:ops tb (C3 tb) l f h with
  |none=>rw[ho]at e;simp at e
  |some p=>
   rw[ho]at e;obtain⟨n,hn⟩:=ops_den _ _ _ _ ho;exact⟨n,by rw[hn];exact e⟩
 |regq l=>
  intro f h r e;simp only[Bp]at e ⊢;cases ho:Jm tb (C3 tb) h l f with
  |none=>rw[ho]at e;simp at e
  |some p=>
   rw[ho]at e;obtain⟨n,hn⟩:=opsQ_den h _ _ _ ho;exact⟨n,by rw[hn];exact e⟩
 |regd l w=>
  intro f h r e;simp only[Bp]at e ⊢;cases ho:IU tb (C3 tb) l w f h with
  |none=>rw[ho]at e;simp at e
  |some hs=>
   rw[ho]at e;simp only[aa]at e;obtain⟨n,hn⟩:=heaps_den _ _ _ _ _ ho;cases hd:Le tb (C3 tb) (h::hs.tail) l w 0 f with
   |none=>rw[hd]at e;simp at e
   |some f'=>
    rw[hd]at e;obtain⟨m,hm⟩:=opsD_den _ _ _ _ _ _ hd;refine⟨max n m,?_⟩;rw[VJ (DG tb (fo n m)) _ _ _ _ _ hn];simp only[aa];rw[Um (DG tb (fg n m)) _ _ _ _ _ _ hm];exact e
 |seq x y ihx ihy=>
  intro f h r e;simp only[Bp]at e ⊢;cases hx:Bp tb (C3 tb) x f h with
  |none=>rw[hx]at e;simp at e
  |some p=>
   rw[hx]at e;obtain⟨n,hn⟩:=ihx _ _ _ hx;obtain⟨q,f',h'⟩:=p;cases q with
   |normal=>
    obtain⟨m,hm⟩:=ihy _ _ _ e;refine⟨max n m,?_⟩;rw[Ur (DG tb (fo n m)) _ _ _ _ hn];exact Ur (DG tb (fg n m)) _ _ _ _ hm
   |exit id=>exact⟨n,by rw[hn];exact e⟩
   |ret=>exact⟨n,by rw[hn];exact e⟩
 |cond o x y ihx ihy=>
  intro f h r e;simp only[Bp]at e ⊢
  split at e
  ·rename_i t ht
   split at e
   ·rename_i hh;simp only[hh,uc];exact ihx _ _ _ e
   ·rename_i hh;simp only[hh];exact ihy _ _ _ e
  ·simp at e
 |blk id x ih=>
  intro f h r e;simp only[Bp]at e ⊢;cases hx:Bp tb (C3 tb) x f h with
  |none=>rw[hx]at e;simp at e
  |some p=>
   rw[hx]at e;obtain⟨n,hn⟩:=ih _ _ _ hx;exact⟨n,by rw[hn];exact e⟩
 |loop Bn x ih=>
  intro f h r e;simp only[Bp]at e ⊢;obtain⟨k,hk⟩:=lp_ex e;have hm: ∀n m,n≤m→ ∀f h r,MW Bn (Bp tb (run tb n) x) f h=some r→MW Bn (Bp tb (run tb m) x) f h=some r:=by
   intro n m hnm f h r e;simp only[MW]at e ⊢;cases hx:Bp tb (run tb n) x (keepL Bn f) h with
   |none=>rw[hx]at e;simp at e
   |some p=>rw[hx]at e;rw[Ur (DG tb hnm) _ _ _ _ hx];exact e
  have hg: ∀f h r,MW Bn (Bp tb (C3 tb) x) f h=some r→ ∃n,MW Bn (Bp tb (run tb n) x) f h=some r:=by
   intro f h r e;simp only[MW]at e ⊢;cases hx:Bp tb (C3 tb) x (keepL Bn f) h with
   |none=>rw[hx]at e;simp at e
   |some p=>
    rw[hx]at e;obtain⟨n,hn⟩:=ih _ _ _ hx;exact⟨n,by rw[hn];exact e⟩
  obtain⟨n,hn⟩:=lpN_den (F:=fun n=>MW Bn (Bp tb (run tb n) x)) hm hg _ _ _ _ hk;exact⟨n,lp_of _ hn⟩
 |exit id=>intro f h r e;exact⟨0,e⟩
 |ret=>intro f h r e;exact⟨0,e⟩
 |scope x ih=>intro f h r e;exact ih f h r e
 |stop=>intro f h r e;simp[Bp]at e
 |keep Bn x ih=>
  intro f h r e;simp only[Bp]at e ⊢;cases hx:Bp tb (C3 tb) x f h with
  |none=>rw[hx]at e;simp at e
  |some p=>
   rw[hx]at e;obtain⟨n,hn⟩:=ih _ _ _ hx;exact⟨n,by rw[hn];exact e⟩
theorem R8(tb:CV)(f:Nat)(a:List AV)(h:A6):C3 tb f a h=(tb.fns f).bind fun fn=>body tb (C3 tb) fn a h:=by
 cases hf:tb.fns f with
 |none=>
  cases hd:C3 tb f a h with
  |none=>rfl
  |some r=>
   obtain⟨n,hn⟩:=AaP hd;cases n with
   |zero=>simp[run]at hn
   |succ n=>rw[run,hf]at hn;simp at hn
 |some fn=>
  simp only[aa];cases hb:body tb (C3 tb) fn a h with
  |some r=>
   have: ∃n,body tb (run tb n) fn a h=some r:=by
    simp only[body]at hb ⊢
    split at hb
    ·rename_i hn;simp only[t6 hn];cases hx:Bp tb (C3 tb) fn.body (a.zipIdx.map fun p=>(p.2,p.1)) h with
     |none=>rw[hx]at hb;simp at hb
     |some p=>
      rw[hx]at hb;obtain⟨n,hn⟩:=exec_den _ _ _ _ hx;exact⟨n,by rw[hn];exact hb⟩
    ·simp at hb
   obtain⟨n,hn⟩:=this;exact den_of (n:=n+1) (by rw[run,hf];exact hn)
  |none=>
   cases hd:C3 tb f a h with
   |none=>rfl
   |some r=>
    obtain⟨n,hn⟩:=AaP hd;cases n with
    |zero=>simp[run]at hn
    |succ n=>
     rw[run,hf]at hn;have:=oJ (run_below tb n) hn;rw[hb]at this;simp at this
end
section
structure Place where
 blk:Nat
 base:Nat
 size:Nat
structure CG where
 φ:Nat→Place
 H:A6
 w:World
 res:List Nat
def CG.own(C:CG)(b:Nat):Prop:=(∃id,id<C.H.length∧(C.φ id).blk=b)∨b∈C.res
def E1(w:World)(b base:Nat)(vs:List Value):Prop:= ∀(j:Nat) (v:Value),vs[j]? =some v→w.cell? ⟨b,base+j,none⟩=some v
def scal:AV→Bool
 | .agg _=>false
 | .tup _=>false
 | .junk=>false
 |_=>true
def R3:BU→Bool
 | .row _ _ _ _=>false
 |_=>true
mutual
def Gk(C:CG):AV→Value→Prop
 | .b x,v=>v= .bool x
 | .i k n,v=>v= .int k n
 | .s l,v=>v= .string ⟨l.toArray⟩
 | .agg cs,v=> ∃vs:List Value,v= .agg vs.toArray∧cs.all scal=true∧Br C cs vs
 | .tup cs,v=> ∃vs:List Value,v= .tuple vs.toArray∧Br C cs vs
 | .nilp,v=>v= .pointer none
 | .ptr id off,v=>(∃o,C.H[id]? =some o∧R3 o=true)∧v= .pointer (some ⟨(C.φ id).blk,off,none⟩)
 | .pe id n i off,v=>(∃p,v= .pointer (some p))∧ ∃fz sz els,rowAt C.H id=some (fz,sz,els)∧n≤els.length∧
   (n=els.length→v= .pointer (some ⟨(C.φ id).blk,(C.φ id).base+i*sz+off,none⟩))
 | .ip cs off,v=> ∃b base vs,v= .pointer (some ⟨b,base+off,none⟩)∧b<C.w.heap.size∧ ¬C.own b∧E1 C.w b base vs∧cs.all scal=true∧Br C cs vs
 | .nils,v=>v= .slice none 0 0
 | .sl sz els,v=>(∃b base cap vss,v= .slice (some ⟨b,base,none⟩) els.length cap∧els.length≤cap∧b<C.w.heap.size∧ ¬C.own b∧
   E1 C.w b base vss.flatten∧(∀e∈els,e.length=sz∧e.all scal=true)∧Bl C els vss)∨(els=[]∧ ∃p cap,v= .slice (some p) 0 cap)
 | .orow id n lo len,v=>(∃p c,v= .slice (some p) len c)∧ ∃fz sz els,rowAt C.H id=some (fz,sz,els)∧n≤els.length∧
   (n=els.length→lo+len≤n∧ ∃off cap,v= .slice (some ⟨(C.φ id).blk,off,none⟩) len cap∧len≤cap∧(0<len→off=(C.φ id).base+lo*sz)∧off+cap*sz≤(C.φ id).size∧(C.φ id).base≤off)
 | .ocel sz id off len,v=>(∃o,C.H[id]? =some o∧R3 o=true)∧ ∃o cap,v= .slice (some ⟨(C.φ id).blk,o,none⟩) len cap∧len≤cap∧(0<len→o=off)∧0<sz
 | .nilm,v=>v= .map none
 | .mp id,v=>(∃o,C.H[id]? =some o∧R3 o=true)∧v= .map (some (C.φ id).blk)
 | .nilf,v=>v= .nilFunc
 | .fn f a b,v=> ∃x y:List Value,v= .func f x.toArray y.toArray∧Br C a x∧Br C b y
 | .nili,v=>v= .nilIface
 | .ifc _ a,v=> ∃u x,v= .iface u x∧Gk C a x
 | .junk,_=>True
def Br(C:CG):List AV→List Value→Prop
 |[],vs=>vs=[]
 |a::r,vs=> ∃v q,vs=v::q∧Gk C a v∧Br C r q
def Bl(C:CG):List (List AV)→List (List Value)→Prop
 |[],vss=>vss=[]
 |a::r,vss=> ∃v q,vss=v::q∧Br C a v∧Bl C r q
end
def Obj(C:CG)(p:Place):BU→Prop
 | .cells l cs=> ∃(vs:List Value) (arr:Array Value) (e:TypeId) (fr:Nat×Nat),(C.w.heap[p.blk]? =some (.cells arr e fr)∧ ∀k,l=some k→e=k)∧arr.size=cs.length∧cs.all scal=true∧Br C cs vs∧
   E1 C.w p.blk 0 vs∧(∀o,o<cs.length→C.w.frozen? ⟨p.blk,o,none⟩=false)
 | .row l fz sz els=> ∃(vss:List (List Value)) (arr:Array Value) (e:TypeId) (fr:Nat×Nat),(C.w.heap[p.blk]? =some (.cells arr e fr)∧fr.1≤fr.2∧ ∀k,l=some k→e=k)∧arr.size=p.size∧0<sz∧
   (∀x∈els,x.length=sz∧x.all scal=true)∧Bl C els vss∧p.base+els.length*sz≤p.size∧E1 C.w p.blk p.base vss.flatten∧
   (fz=false→ ∀o,o<p.size→C.w.frozen? ⟨p.blk,o,none⟩=false)∧(fz=false→ ∀o,p.base+els.length*sz≤o→o<p.size→C.w.frozen? ⟨p.blk,o,none⟩=false)
 | .map es=> ∃(ms:List MapEntry) (clock:Nat),C.w.heap[p.blk]? =some (.map ms.toArray clock)∧Br C (es.map (·.1)) (ms.map (·.key))∧Br C (es.map (·.2)) (ms.map (·.val))
 | .iter l pos=>C.w.heap[p.blk]? =some (.stringIter ⟨l.toArray⟩ pos)
structure Inv(tb:CV)(C:CG):Prop where
 obj: ∀id o,C.H[id]? =some o→Obj C (C.φ id) o
 inj: ∀i j,i<C.H.length→j<C.H.length→(C.φ i).blk=(C.φ j).blk→i=j
 lt: ∀i,i<C.H.length→(C.φ i).blk<C.w.heap.size
 gl: ∀g cs,tb.gl g=some cs→g<C.w.heap.size∧ ¬C.own g∧cs.all scal=true∧ ∃vs,E1 C.w g 0 vs∧Br C cs vs
 it: ∀g∈tb.it,¬C.own g∧ ∃m:Int,C.w.cell? ⟨g,0,none⟩=some (.int .i64 m)
 rs: ∀b∈C.res,b<C.w.heap.size∧ ∀id,id<C.H.length→(C.φ id).blk≠b
def Rest(w w':World):Prop:=w'.os=w.os∧w'.tape=w.tape∧w'.output=w.output
structure AbC(C D:CG):Prop where
 rest:Rest C.w D.w
 size:C.w.heap.size≤D.w.heap.size
 len:C.H.length≤D.H.length
 same: ∀b,b<C.w.heap.size→ ¬C.own b→D.w.heap[b]? =C.w.heap[b]? ∧ ¬D.own b
 fixed: ∀id o,C.H[id]? =some o→R3 o=true→(∃o',D.H[id]? =some o'∧R3 o'=true)∧D.φ id=C.φ id
 row: ∀id fz sz els,rowAt C.H id=some (fz,sz,els)→ ∃fz' els',rowAt D.H id=some (fz',sz,els')∧els.length≤els'.length∧(els.length=els'.length→D.φ id=C.φ id)
structure IV(C D:CG):Prop where
 rest:Rest C.w D.w
 size:C.w.heap.size≤D.w.heap.size
 len:C.H.length≤D.H.length
 same: ∀b,b<C.w.heap.size→ ¬C.own b→D.w.heap[b]? =C.w.heap[b]? ∧ ¬D.own b
 fixed: ∀id o,C.H[id]? =some o→R3 o=true→(∃o',D.H[id]? =some o'∧R3 o'=true)∧D.φ id=C.φ id
 row: ∀id fz sz els,rowAt C.H id=some (fz,sz,els)→ ∃fz' els',rowAt D.H id=some (fz',sz,els')∧els.length≤els'.length∧(els.length=els'.length→D.φ id=C.φ id)
 kept: ∀b∈C.res,b<C.w.heap.size→b∈D.res∧D.w.heap[b]? =C.w.heap[b]?
theorem IV.base{C D:CG}(X:IV C D):AbC C D:=⟨X.rest,X.size,X.len,X.same,X.fixed,X.row⟩
theorem IV.refl(C:CG):IV C C:=
 ⟨⟨rfl,rfl,rfl⟩,bc _,bc _,fun _ _ h=>⟨rfl,h⟩,fun _ o h f=>⟨⟨o,h,f⟩,rfl⟩,fun _ fz _ els h=>⟨fz,els,h,bc _,fun _=>rfl⟩,fun _ h _=>⟨h,rfl⟩⟩
theorem IV.trans{C D E:CG}(a:IV C D)(b:IV D E):IV C E:=by
 refine⟨⟨b.rest.1.trans a.rest.1,b.rest.2.1.trans a.rest.2.1,b.rest.2.2.trans a.rest.2.2⟩,dj a.size b.size,dj a.len b.len,?_,?_,?_,fun x hx hl=> ?_⟩
 ·intro x hx ho;obtain⟨h1,h2⟩:=a.same x hx ho;obtain⟨h3,h4⟩:=b.same x (dv hx a.size) h2;exact⟨h3.trans h1,h4⟩
 ·intro id o h f;obtain⟨⟨o',h',f'⟩,e⟩:=a.fixed id o h f;obtain⟨h2,e'⟩:=b.fixed id o' h' f';exact⟨h2,e'.trans e⟩
 ·intro id fz sz els h;obtain⟨fz',els',h',l,e⟩:=a.row id fz sz els h;obtain⟨fz'',els'',h'',l',e'⟩:=b.row id fz' sz els' h';exact⟨fz'',els'',h'',dj l l',fun q=>(e' (by omega)).trans (e (by omega))⟩
 ·obtain⟨h1,h2⟩:=a.kept x hx hl;obtain⟨h3,h4⟩:=b.kept x h1 (dv hl a.size);exact⟨h3,h4.trans h2⟩
theorem lt_of_cell{w:World}{b o:Nat}{v:Value}(h:w.cell? ⟨b,o,none⟩=some v):b<w.heap.size:=by
 refine Nat.lt_of_not_le fun hn=> ?_;simp only[gg]at h;rw[kz hn]at h;cases h
theorem RE{w w':World}{b o:Nat}(h:w'.heap[b]? =w.heap[b]?):w'.cell? ⟨b,o,none⟩=w.cell? ⟨b,o,none⟩:=by
 simp only[gg,h]
theorem E1.same{w w':World}{b base:Nat}{vs:List Value}(h:w'.heap[b]? =w.heap[b]?)(x:E1 w b base vs):E1 w' b base vs:=
 fun j v e=>by rw[RE h];exact x j v e
mutual
theorem XM{C D:CG}(X:AbC C D): ∀{a:AV} {v:Value},Gk C a v→Gk D a v
 | .b _,_,h=>h
 | .i _ _,_,h=>h
 | .s _,_,h=>h
 | .agg _,_,⟨vs,e,s,h⟩=>⟨vs,e,s,Gj X h⟩
 | .tup _,_,⟨vs,e,h⟩=>⟨vs,e,Gj X h⟩
 | .nilp,_,h=>h
 | .ptr _ _,_,⟨⟨o,h,f⟩,e⟩=>by
  obtain⟨h',e'⟩:=X.fixed _ o h f;exact⟨h',by rw[e'];exact e⟩
 | .pe _ _ _ _,_,⟨q0,fz,sz,els,h,l,e⟩=>by
  obtain⟨fz',els',h',l',e'⟩:=X.row _ fz sz els h;exact⟨q0,fz',sz,els',h',by omega,fun q=>by rw[e' (by omega)];exact e (by omega)⟩
 | .ip _ _,_,⟨b,base,vs,e,lt,ho,hh,s,r⟩=>by
  obtain⟨h1,h2⟩:=X.same b lt ho;exact⟨b,base,vs,e,dv lt X.size,h2,hh.same h1,s,Gj X r⟩
 | .nils,_,h=>h
 | .sl _ _,_, .inr h=> .inr h
 | .sl _ _,_, .inl ⟨b,base,cap,vss,e,l,lt,ho,hh,s,r⟩=>by
  obtain⟨h1,h2⟩:=X.same b lt ho;exact .inl ⟨b,base,cap,vss,e,l,dv lt X.size,h2,hh.same h1,s,Sc X r⟩
 | .orow _ _ _ _,_,⟨q0,fz,sz,els,h,l,e⟩=>by
  obtain⟨fz',els',h',l',e'⟩:=X.row _ fz sz els h;exact⟨q0,fz',sz,els',h',by omega,fun q=>by rw[e' (by omega)];exact e (by omega)⟩
 | .ocel _ _ _ _,_,⟨⟨o,h,f⟩,e⟩=>by
  obtain⟨h',e'⟩:=X.fixed _ o h f;exact⟨h',by rw[e'];exact e⟩
 | .nilm,_,h=>h
 | .mp _,_,⟨⟨o,h,f⟩,e⟩=>by
  obtain⟨h',e'⟩:=X.fixed _ o h f;exact⟨h',by rw[e'];exact e⟩
 | .nilf,_,h=>h
 | .fn _ _ _,_,⟨x,y,e,h1,h2⟩=>⟨x,y,e,Gj X h1,Gj X h2⟩
 | .nili,_,h=>h
 | .ifc _ _,_,⟨u,x,e,h⟩=>⟨u,x,e,XM X h⟩
 | .junk,_,_=>trivial
theorem Gj{C D:CG}(X:AbC C D): ∀{l:List AV} {vs:List Value},Br C l vs→Br D l vs
 |[],_,h=>h
 |_::_,_,⟨v,q,e,h,r⟩=>⟨v,q,e,XM X h,Gj X r⟩
theorem Sc{C D:CG}(X:AbC C D): ∀{l:List (List AV)} {vs:List (List Value)},Bl C l vs→Bl D l vs
 |[],_,h=>h
 |_::_,_,⟨v,q,e,h,r⟩=>⟨v,q,e,Gj X h,Sc X r⟩
end
theorem Gk.ext{C D:CG}(X:IV C D){a:AV}{v:Value}(h:Gk C a v):Gk D a v:=XM X.base h
theorem Br.ext{C D:CG}(X:IV C D){l:List AV}{vs:List Value}(h:Br C l vs):Br D l vs:=Gj X.base h
theorem Bl.ext{C D:CG}(X:IV C D){l:List (List AV)}{vs:List (List Value)}(h:Bl C l vs):Bl D l vs:=Sc X.base h
theorem OF{tb:CV}{C D:CG}(I:Inv tb C)(X:IV C D): ∀g∈tb.it,¬D.own g∧ ∃m:Int,D.w.cell? ⟨g,0,none⟩=some (.int .i64 m):=by
 intro g hg;obtain⟨h1,m,h2⟩:=I.it g hg;obtain⟨h3,h4⟩:=X.same g (lt_of_cell h2) h1;exact⟨h4,m,by rw[RE h3];exact h2⟩
def CG.cut(C:CG)(n:Nat):CG:=⟨C.φ,C.H.take n,C.w,C.res⟩
theorem Uv{C:CG}{n id:Nat}(h:id<n):(C.cut n).H[id]? =C.H[id]? :=by
 simp only[CG.cut];rw[dn];simp[h]
theorem rX{C:CG}{n id:Nat}(h:id<n):rowAt (C.cut n).H id=rowAt C.H id:=by
 simp only[rowAt,Uv h]
theorem Ks{H:A6}{id:Nat}{fz:Bool}{sz:Nat}{els:List (List AV)}(h:rowAt H id=some (fz,sz,els)): ∃t,H[id]? =some (.row t fz sz els)∧EQ H id=t:=by
 simp only[rowAt]at h
 split at h
 ·rename_i t fz' sz' els' e;cases h;exact⟨t,e,by simp only[EQ,e]⟩
 ·cases h
theorem QM{H:A6}{id:Nat}{cs:List AV}(h:BR H id=some cs): ∃t,H[id]? =some (.cells t cs)∧EQ H id=t:=by
 simp only[BR]at h
 split at h
 ·rename_i t cs' e;cases h;exact⟨t,e,by simp only[EQ,e]⟩
 ·cases h
theorem yQ{H G:A6}{id:Nat}(h:G[id]? =H[id]?):rowAt G id=rowAt H id:=by simp only[rowAt,h]
theorem yR{H:A6}{id:Nat}{t:Option Nat}{fz:Bool}{sz:Nat}{els:List (List AV)}(h:H[id]? =some (.row t fz sz els)):rowAt H id=some (fz,sz,els):=by
 simp only[rowAt,h]
theorem Uu{C:CG}{n b:Nat}(h: ¬C.own b): ¬(C.cut n).own b:=by
 rintro(⟨id,hl,e⟩|hr)
 ·exact h (.inl ⟨id,by simp only[CG.cut,aq]at hl;omega,e⟩)
 ·exact h (.inr hr)
mutual
theorem Gk.cut{C:CG}{n:Nat}: ∀{a:AV} {v:Value},ment a≤n→Gk C a v→Gk (C.cut n) a v
 | .b _,_,_,h=>h
 | .i _ _,_,_,h=>h
 | .s _,_,_,h=>h
 | .agg _,_,m,⟨vs,e,s,h⟩=>⟨vs,e,s,Br.cut (by simpa [ment]using m) h⟩
 | .tup _,_,m,⟨vs,e,h⟩=>⟨vs,e,Br.cut (by simpa [ment]using m) h⟩
 | .nilp,_,_,h=>h
 | .ptr _ _,_,m,⟨⟨o,h,f⟩,e⟩=>⟨⟨o,by rw[Uv (by simp only[ment]at m;omega)];exact h,f⟩,e⟩
 | .pe _ _ _ _,_,m,⟨q0,fz,sz,els,h,l,e⟩=>⟨q0,fz,sz,els,by rw[rX (by simp only[ment]at m;omega)];exact h,l,e⟩
 | .ip _ _,_,m,⟨b,base,vs,e,lt,ho,hh,s,r⟩=>⟨b,base,vs,e,lt,Uu ho,hh,s,Br.cut (by simpa [ment]using m) r⟩
 | .nils,_,_,h=>h
 | .sl _ _,_,_, .inr h=> .inr h
 | .sl _ _,_,m, .inl ⟨b,base,cap,vss,e,l,lt,ho,hh,s,r⟩=> .inl ⟨b,base,cap,vss,e,l,lt,Uu ho,hh,s,Bl.cut (by simpa [ment]using m) r⟩
 | .orow _ _ _ _,_,m,⟨q0,fz,sz,els,h,l,e⟩=>⟨q0,fz,sz,els,by rw[rX (by simp only[ment]at m;omega)];exact h,l,e⟩
 | .ocel _ _ _ _,_,m,⟨⟨o,h,f⟩,e⟩=>⟨⟨o,by rw[Uv (by simp only[ment]at m;omega)];exact h,f⟩,e⟩
 | .nilm,_,_,h=>h
 | .mp _,_,m,⟨⟨o,h,f⟩,e⟩=>⟨⟨o,by rw[Uv (by simp only[ment]at m;omega)];exact h,f⟩,e⟩
 | .nilf,_,_,h=>h
 | .fn _ _ _,_,m,⟨x,y,e,h1,h2⟩=>⟨x,y,e,Br.cut (by simp only[ment]at m;omega) h1,Br.cut (by simp only[ment]at m;omega) h2⟩
 | .nili,_,_,h=>h
 | .ifc _ _,_,m,⟨u,x,e,h⟩=>⟨u,x,e,Gk.cut (by simpa [ment]using m) h⟩
 | .junk,_,_,_=>trivial
theorem Br.cut{C:CG}{n:Nat}: ∀{l:List AV} {vs:List Value},Bv l≤n→Br C l vs→Br (C.cut n) l vs
 |[],_,_,h=>h
 |_::_,_,m,⟨v,q,e,h,r⟩=>⟨v,q,e,Gk.cut (by simp only[Bv]at m;omega) h,Br.cut (by simp only[Bv]at m;omega) r⟩
theorem Bl.cut{C:CG}{n:Nat}: ∀{l:List (List AV)} {vs:List (List Value)},CT l≤n→Bl C l vs→Bl (C.cut n) l vs
 |[],_,_,h=>h
 |_::_,_,m,⟨v,q,e,h,r⟩=>⟨v,q,e,Br.cut (by simp only[CT]at m;omega) h,Bl.cut (by simp only[CT]at m;omega) r⟩
end
theorem Br.length{C:CG}: ∀{l:List AV} {vs:List Value},Br C l vs→vs.length=l.length
 |[],_,h=>by rw[show _=[]from h];rfl
 |_::_,_,⟨v,q,e,_,r⟩=>by rw[e];simp[Br.length r]
theorem Bl.length{C:CG}: ∀{l:List (List AV)} {vs:List (List Value)},Bl C l vs→vs.length=l.length
 |[],_,h=>by rw[show _=[]from h];rfl
 |_::_,_,⟨v,q,e,_,r⟩=>by rw[e];simp[Bl.length r]
theorem Br.get{C:CG}: ∀{l:List AV} {vs:List Value} {i:Nat} {a:AV},Br C l vs→l[i]? =some a→ ∃v,vs[i]? =some v∧Gk C a v
 |[],_,_,_,_,h=>by simp at h
 |x::l,_,0,a,⟨v,q,e,h,r⟩,g=>by
  simp at g;subst g;exact⟨v,by rw[e];rfl,h⟩
 |x::l,_,i+1,a,⟨v,q,e,h,r⟩,g=>by
  obtain⟨u,h1,h2⟩:=Br.get r (i:=i) (a:=a) (by simpa using g);exact⟨u,by rw[e];simpa using h1,h2⟩
theorem Bl.get{C:CG}: ∀{l:List (List AV)} {vs:List (List Value)} {i:Nat} {a:List AV},Bl C l vs→l[i]? =some a→ ∃v,vs[i]? =some v∧Br C a v
 |[],_,_,_,_,h=>by simp at h
 |x::l,_,0,a,⟨v,q,e,h,r⟩,g=>by
  simp at g;subst g;exact⟨v,by rw[e];rfl,h⟩
 |x::l,_,i+1,a,⟨v,q,e,h,r⟩,g=>by
  obtain⟨u,h1,h2⟩:=Bl.get r (i:=i) (a:=a) (by simpa using g);exact⟨u,by rw[e];simpa using h1,h2⟩
theorem Br.app{C:CG}: ∀{l m:List AV} {vs us:List Value},Br C l vs→Br C m us→Br C (l++m) (vs++us)
 |[],_,_,_,h,g=>by rw[show _=[]from h];exact g
 |_::_,_,_,_,⟨v,q,e,h,r⟩,g=>⟨v,q++_,by rw[e];rfl,h,Br.app r g⟩
theorem Bl.app{C:CG}: ∀{l m:List (List AV)} {vs us:List (List Value)},Bl C l vs→Bl C m us→Bl C (l++m) (vs++us)
 |[],_,_,_,h,g=>by rw[show _=[]from h];exact g
 |_::_,_,_,_,⟨v,q,e,h,r⟩,g=>⟨v,q++_,by rw[e];rfl,h,Bl.app r g⟩
theorem Br.drop{C:CG}: ∀{n:Nat} {l:List AV} {vs:List Value},Br C l vs→Br C (l.drop n) (vs.drop n)
 |0,_,_,h=>h
 |n+1,[],_,h=>by rw[show _=[]from h];simp[Br]
 |n+1,_::_,_,⟨v,q,e,h,r⟩=>by rw[e];simpa using Br.drop (n:=n) r
theorem Br.take{C:CG}: ∀{n:Nat} {l:List AV} {vs:List Value},Br C l vs→Br C (l.take n) (vs.take n)
 |0,_,_,_=>by simp[Br]
 |n+1,[],_,h=>by rw[show _=[]from h];simp[Br]
 |n+1,_::_,_,⟨v,q,e,h,r⟩=>by rw[e];exact⟨v,q.take n,rfl,h,Br.take r⟩
theorem Bl.drop{C:CG}: ∀{n:Nat} {l:List (List AV)} {vs:List (List Value)},Bl C l vs→Bl C (l.drop n) (vs.drop n)
 |0,_,_,h=>h
 |n+1,[],_,h=>by rw[show _=[]from h];simp[Bl]
 |n+1,_::_,_,⟨v,q,e,h,r⟩=>by rw[e];simpa using Bl.drop (n:=n) r
theorem Bl.take{C:CG}: ∀{n:Nat} {l:List (List AV)} {vs:List (List Value)},Bl C l vs→Bl C (l.take n) (vs.take n)
 |0,_,_,_=>by simp[Bl]
 |n+1,[],_,h=>by rw[show _=[]from h];simp[Bl]
 |n+1,_::_,_,⟨v,q,e,h,r⟩=>by rw[e];exact⟨v,q.take n,rfl,h,Bl.take r⟩
theorem Bl.flat{C:CG}: ∀{l:List (List AV)} {vs:List (List Value)},Bl C l vs→Br C l.flatten vs.flatten
 |[],_,h=>by rw[show _=[]from h];simp[Br]
 |_::_,_,⟨v,q,e,h,r⟩=>by rw[e];exact Br.app h (Bl.flat r)
theorem Bl.set{C:CG}{a:List AV}{v:List Value}(ha:Br C a v): ∀{l:List (List AV)} {vs:List (List Value)} {i:Nat},Bl C l vs→Bl C (l.set i a) (vs.set i v)
 |[],_,_,h=>by rw[show _=[]from h];simp[Bl]
 |_::_,_,0,⟨_,q,e,_,r⟩=>by rw[e];exact⟨v,q,rfl,ha,r⟩
 |_::_,_,i+1,⟨u,q,e,h,r⟩=>by rw[e];exact⟨u,q.set i v,rfl,h,Bl.set ha r⟩
theorem Br.set{C:CG}{a:AV}{v:Value}(ha:Gk C a v): ∀{l:List AV} {vs:List Value} {i:Nat},Br C l vs→Br C (l.set i a) (vs.set i v)
 |[],_,_,h=>by rw[show _=[]from h];simp[Br]
 |_::_,_,0,⟨_,q,e,_,r⟩=>by rw[e];exact⟨v,q,rfl,ha,r⟩
 |_::_,_,i+1,⟨u,q,e,h,r⟩=>by rw[e];exact⟨u,q.set i v,rfl,h,Br.set ha r⟩
theorem Bl.lens{C:CG}{sz:Nat}: ∀{l:List (List AV)} {vs:List (List Value)},(∀x∈l,x.length=sz)→Bl C l vs→ ∀v∈vs,v.length=sz
 |[],_,_,h,v,hv=>by rw[show _=[]from h]at hv;cases hv
 |x::_,_,g,⟨u,q,e,h,r⟩,v,hv=>by
  rw[e]at hv;rcases bm.1 hv with e'|hv
  ·rw[e',h.length];exact g x bg
  ·exact Bl.lens (fun y hy=>g y (a8 _ hy)) r v hv
theorem Inv.cut{tb:CV}{C:CG}{n:Nat}(I:Inv tb C)(m:C7 (C.H.take n)≤n)(hg: ∀g cs,tb.gl g=some cs→Bv cs=0):Inv tb (C.cut n):=by
 have memH: ∀(l:A6) (o:BU),o∈l→DW o≤C7 l:=by
  intro l
  induction l with
  |nil=>intro o h;cases h
  |cons x l ih=>
   intro o h;simp only[C7];rcases bm.1 h with e|h
   ·subst e;omega
   ·have:=ih o h;omega
 have hl: ∀i,i<(C.cut n).H.length→i<C.H.length:=fun i h=>by simp only[CG.cut,aq]at h;omega
 refine⟨?_,fun i j hi hj e=>I.inj i j (hl i hi) (hl j hj) e,fun i hi=>I.lt i (hl i hi),?_,fun g h=>⟨Uu (I.it g h).1,(I.it g h).2⟩,fun b hb=>⟨(I.rs b hb).1,fun i hi=>(I.rs b hb).2 i (hl i hi)⟩⟩
 ·intro id o h;have hm:DW o≤n:=dj (memH _ o (d8 h)) m;have hid:id<n:=by
   rcases ef id n with h'|h'
   ·exact h'
   ·simp only[CG.cut]at h;rw[dn]at h;simp[Nat.not_lt.2 h']at h
  rw[Uv hid]at h;have x:=I.obj id o h;cases o with
  |cells t cs=>
   obtain⟨vs,arr,e,fr,h1,h2,h3,h4,h5⟩:=x;exact⟨vs,arr,e,fr,h1,h2,h3,Br.cut hm h4,h5⟩
  |row t fz sz els=>
   obtain⟨vss,arr,e,fr,h1,h2,h3,h4,h5,h6⟩:=x;exact⟨vss,arr,e,fr,h1,h2,h3,h4,Bl.cut hm h5,h6⟩
  |map es=>
   obtain⟨ms,c,h1,h2,h3⟩:=x;simp only[DW]at hm;exact⟨ms,c,h1,Br.cut (by omega) h2,Br.cut (by omega) h3⟩
  |iter l pos=>exact x
 ·intro g cs h;obtain⟨h1,h2,h3,vs,h4,h5⟩:=I.gl g cs h;exact⟨h1,Uu h2,h3,vs,h4,Br.cut (by rw[hg g cs h];omega) h5⟩
theorem IV.cut{C D:CG}{n:Nat}(X:IV C D)(h:C.H.length≤n):IV C (D.cut n):=by
 have lt: ∀{id:Nat} {o:BU},C.H[id]? =some o→id<n:=fun{id o} e=>by
  have:=(cg.1 e).1;omega
 refine⟨X.rest,X.size,by simp only[CG.cut,aq];have:=X.len;omega,fun b hb ho=>⟨(X.same b hb ho).1,Uu (X.same b hb ho).2⟩,?_,?_,X.kept⟩
 ·intro id o e f;obtain⟨⟨o',h',f'⟩,e'⟩:=X.fixed id o e f;exact⟨⟨o',by rw[Uv (lt e)];exact h',f'⟩,e'⟩
 ·intro id fz sz els e;obtain⟨fz',els',h',r⟩:=X.row id fz sz els e;obtain⟨t,e',_⟩:=Ks e;exact⟨fz',els',by rw[rX (lt e')];exact h',r⟩
theorem R1{w w':World}{b o:Nat}(h:w'.heap[b]? =w.heap[b]?):w'.frozen? ⟨b,o,none⟩=w.frozen? ⟨b,o,none⟩:=by
 simp only[j1,h]
theorem xY{C D:CG}(X:AbC C D){p:Place}{o:BU}(h:D.w.heap[p.blk]? =C.w.heap[p.blk]?)(x:Obj C p o):Obj D p o:=by
 cases o with
 |cells t cs=>
  obtain⟨vs,arr,e,fr,h1,h2,h3,h4,h5,h6⟩:=x;exact⟨vs,arr,e,fr,⟨h.trans h1.1,h1.2⟩,h2,h3,Gj X h4,h5.same h,fun o ho=>by rw[R1 h];exact h6 o ho⟩
 |row t fz sz els=>
  obtain⟨vss,arr,e,fr,h1,h2,h3,h4,h5,h6,h7,h8,h9⟩:=x;exact⟨vss,arr,e,fr,⟨h.trans h1.1,h1.2⟩,h2,h3,h4,Sc X h5,h6,h7.same h,fun f o ho=>by rw[R1 h];exact h8 f o ho,fun f o ho hs=>by rw[R1 h];exact h9 f o ho hs⟩
 |map es=>
  obtain⟨ms,c,h1,h2,h3⟩:=x;exact⟨ms,c,h.trans h1,Gj X h2,Gj X h3⟩
 |iter l pos=>exact h.trans x
theorem Obj.ext{C D:CG}(X:IV C D){p:Place}{o:BU}(h:D.w.heap[p.blk]? =C.w.heap[p.blk]?)(x:Obj C p o):Obj D p o:=xY X.base h x
theorem Bg{α:Type}{l:List α}{i:Nat}{x:α}(h:l[i]? =some x):i<l.length:=(cg.1 h).1
theorem upd{tb:CV}{C D:CG}(I:Inv tb C)(hrest:Rest C.w D.w){id:Nat}{o o':BU}(ho:C.H[id]? =some o)(hH:D.H=C.H.set id o')(hφ: ∀j,j≠id→D.φ j=C.φ j)
  (hs:C.w.heap.size≤D.w.heap.size) (hw: ∀b,b<C.w.heap.size→b≠(C.φ id).blk→D.w.heap[b]? =C.w.heap[b]?)
  (hb:(D.φ id).blk=(C.φ id).blk∨(C.w.heap.size≤(D.φ id).blk∧(D.φ id).blk<D.w.heap.size))
  (hf:R3 o=true→R3 o'=true∧D.φ id=C.φ id)
  (hr: ∀t fz sz els,o= .row t fz sz els→ ∃t' fz' els',o'= .row t' fz' sz els'∧els.length≤els'.length∧(els.length=els'.length→D.φ id=C.φ id)) (hres:D.res=C.res:=by rfl):
  IV C D∧(Obj D (D.φ id) o'→Inv tb D):=by
 have hid:=Bg ho;have hlen:D.H.length=C.H.length:=by rw[hH];simp
 have get: ∀j,j≠id→D.H[j]? =C.H[j]? :=fun j hj=>by rw[hH,d9 (iz hj)]
 have geti:D.H[id]? =some o':=by rw[hH,de hid]
 have hown: ∀b,b<C.w.heap.size→ ¬C.own b→ ¬D.own b:=by
  rintro b hlt hn (⟨j,hj,e⟩|hr)
  ·by_cases hji:j=id
   ·subst hji;rcases hb with h|h
    ·exact hn (.inl ⟨j,hid,by rw[←h];exact e⟩)
    ·omega
   ·exact hn (.inl ⟨j,by omega,by rw[←hφ j hji];exact e⟩)
  ·exact hn (.inr (hres▸hr))
 have X:IV C D:=by
  refine⟨hrest,hs,by omega,fun b hlt hn=>⟨hw b hlt fun e=>hn (.inl ⟨id,hid,e.symm⟩),hown b hlt hn⟩,?_,?_,fun b hb hl=>⟨by rw[hres];exact hb,hw b hl fun e=>(I.rs b hb).2 id hid e.symm⟩⟩
  ·intro j x hj hx
   by_cases hji:j=id
   ·subst hji;rw[ho]at hj;obtain rfl:=be hj;exact⟨⟨o',geti,(hf hx).1⟩,(hf hx).2⟩
   ·exact⟨⟨x,by rw[get j hji];exact hj,hx⟩,hφ j hji⟩
  ·intro j fz sz els hj
   by_cases hji:j=id
   ·subst hji;obtain⟨t,hj,_⟩:=Ks hj;rw[ho]at hj;obtain⟨t',fz',els',h1,h2,h3⟩:=hr t fz sz els (be hj);exact⟨fz',els',yR (t:=t') (by rw[geti,h1]),h2,h3⟩
   ·exact⟨fz,els,by rw[yQ (get j hji)];exact hj,bc _,fun _=>hφ j hji⟩
 refine⟨X,fun ob=>⟨?_,?_,?_,?_,?_,fun b hr=> ?_⟩⟩
 ·intro j x hj
  by_cases hji:j=id
  ·subst hji;rw[geti]at hj;obtain rfl:=be hj;exact ob
  ·rw[get j hji]at hj;rw[hφ j hji];have hjl:=Bg hj;exact Obj.ext X (hw _ (I.lt j hjl) fun e=>hji (I.inj j id hjl hid e)) (I.obj j x hj)
 ·intro i j hi hj e;rw[hlen]at hi hj
  by_cases hii:i=id<;>by_cases hji:j=id
  ·rw[hii,hji]
  ·subst hii;rw[hφ j hji]at e;rcases hb with h|h
   ·exact I.inj i j hi hj (h.symm.trans e)
   ·have:=I.lt j hj;omega
  ·subst hji;rw[hφ i hii]at e;rcases hb with h|h
   ·exact I.inj i j hi hj (e.trans h)
   ·have:=I.lt i hi;omega
  ·rw[hφ i hii,hφ j hji]at e;exact I.inj i j hi hj e
 ·intro i hi;rw[hlen]at hi
  by_cases hii:i=id
  ·subst hii;rcases hb with h|h
   ·rw[h];exact dv (I.lt i hi) hs
   ·exact h.2
  ·rw[hφ i hii];exact dv (I.lt i hi) hs
 ·intro g cs hg;obtain⟨h1,h2,h3,vs,h4,h5⟩:=I.gl g cs hg;obtain⟨h6,h7⟩:=X.same g h1 h2;exact⟨dv h1 hs,h7,h3,vs,h4.same h6,Br.ext X h5⟩
 ·exact OF I X
 ·rw[hres]at hr;obtain⟨h1,h2⟩:=I.rs b hr;refine⟨dv h1 hs,fun i hi=> ?_⟩;rw[hlen]at hi
  by_cases hii:i=id
  ·subst hii;rcases hb with h|h
   ·rw[h];exact h2 i hi
   ·omega
  ·rw[hφ i hii];exact h2 i hi
def CG.more(C:CG)(p:Place)(o:BU)(w:World):CG:=⟨fun j=>if j=C.H.length then p else C.φ j,C.H++[o],w,C.res⟩
theorem more{tb:CV}{C:CG}(I:Inv tb C){p:Place}{o:BU}{w:World}(hrest:Rest C.w w)(hs:C.w.heap.size<w.heap.size)(hp:p.blk=C.w.heap.size)
  (hw: ∀b,b<C.w.heap.size→w.heap[b]? =C.w.heap[b]?):IV C (C.more p o w)∧(Obj (C.more p o w) p o→Inv tb (C.more p o w))∧(C.more p o w).φ C.H.length=p:=by
 have hφ: ∀j,j<C.H.length→(C.more p o w).φ j=C.φ j:=fun j hj=>t7 (by omega);have hφn:(C.more p o w).φ C.H.length=p:=t6 rfl;have hlen:(C.more p o w).H.length=C.H.length+1:=by simp[CG.more]
 have get: ∀j,j<C.H.length→(C.more p o w).H[j]? =C.H[j]? :=fun j hj=>bq hj;have getn:(C.more p o w).H[C.H.length]? =some o:=by simp[CG.more]
 have X:IV C (C.more p o w):=by
  refine⟨hrest,ph hs,by omega,fun b hlt hn=>⟨hw b hlt,?_⟩,?_,?_,fun b hb hl=>⟨hb,hw b hl⟩⟩
  ·rintro(⟨j,hj,e⟩|hr)
   ·rw[hlen]at hj
    by_cases hji:j=C.H.length
    ·subst hji;rw[hφn,hp]at e;omega
    ·rw[hφ j (by omega)]at e;exact hn (.inl ⟨j,by omega,e⟩)
   ·exact hn (.inr hr)
  ·intro j x hj hx;have:=Bg hj;exact⟨⟨x,by rw[get j this];exact hj,hx⟩,hφ j this⟩
  ·intro j fz sz els hj;obtain⟨t,hj',_⟩:=Ks hj;have:=Bg hj';exact⟨fz,els,by rw[yQ (get j this)];exact hj,bc _,fun _=>hφ j this⟩
 refine⟨X,fun ob=>⟨?_,?_,?_,?_,?_,fun b hr=> ?_⟩,hφn⟩
 ·intro j x hj;have:=Bg hj;rw[hlen]at this
  by_cases hji:j=C.H.length
  ·subst hji;rw[getn]at hj;obtain rfl:=be hj;rw[hφn];exact ob
  ·have hl:j<C.H.length:=by omega
   rw[get j hl]at hj;rw[hφ j hl];exact Obj.ext X (hw _ (I.lt j hl)) (I.obj j x hj)
 ·intro i j hi hj e;rw[hlen]at hi hj
  by_cases hii:i=C.H.length<;>by_cases hji:j=C.H.length
  ·rw[hii,hji]
  ·subst hii;have hl:j<C.H.length:=by omega
   rw[hφ j hl,hφn,hp]at e;have:=I.lt j hl;omega
  ·subst hji;have hl:i<C.H.length:=by omega
   rw[hφ i hl,hφn,hp]at e;have:=I.lt i hl;omega
  ·rw[hφ i (by omega),hφ j (by omega)]at e;exact I.inj i j (by omega) (by omega) e
 ·intro i hi;rw[hlen]at hi
  by_cases hii:i=C.H.length
  ·subst hii;rw[hφn,hp];exact hs
  ·rw[hφ i (by omega)];exact mb (I.lt i (by omega)) hs
 ·intro g cs hg;obtain⟨h1,h2,h3,vs,h4,h5⟩:=I.gl g cs hg;obtain⟨h6,h7⟩:=X.same g h1 h2;exact⟨mb h1 hs,h7,h3,vs,h4.same h6,Br.ext X h5⟩
 ·exact OF I X
 ·obtain⟨h1,h2⟩:=I.rs b hr;refine⟨mb h1 hs,fun i hi=> ?_⟩;rw[hlen]at hi
  by_cases hii:i=C.H.length
  ·subst hii;rw[hφn,hp];omega
  ·rw[hφ i (by omega)];exact h2 i (by omega)
theorem drawn{tb:CV}{C:CG}(I:Inv tb C){w:World}(hrest:Rest C.w w)(hw:w.heap=C.w.heap):IV C ⟨C.φ,C.H,w,C.res⟩∧Inv tb ⟨C.φ,C.H,w,C.res⟩:=by
 have X:IV C ⟨C.φ,C.H,w,C.res⟩:=⟨hrest,by simp only[hw];omega,bc _,fun b _ hn=>⟨by simp only[hw],hn⟩,fun _ o h f=>⟨⟨o,h,f⟩,rfl⟩,fun _ fz _ els h=>⟨fz,els,h,bc _,fun _=>rfl⟩,fun b hb _=>⟨hb,by simp only[hw]⟩⟩;refine⟨X,fun j x hj=>Obj.ext X (by simp only[hw]) (I.obj j x hj),I.inj,fun i hi=>by simp only[hw];exact I.lt i hi,?_,OF I X,fun b hb=>by simp only[hw];exact I.rs b hb⟩;intro g cs hg;obtain⟨h1,h2,h3,vs,h4,h5⟩:=I.gl g cs hg;exact⟨by simp only[hw];exact h1,h2,h3,vs,h4.same (by simp only[hw]),Br.ext X h5⟩
theorem grown{tb:CV}{C:CG}(I:Inv tb C){w:World}(hrest:Rest C.w w)(hs:C.w.heap.size≤w.heap.size)(hw: ∀b,b<C.w.heap.size→w.heap[b]? =C.w.heap[b]?):IV C ⟨C.φ,C.H,w,C.res⟩∧Inv tb ⟨C.φ,C.H,w,C.res⟩:=by
 have X:IV C ⟨C.φ,C.H,w,C.res⟩:=⟨hrest,hs,bc _,fun b hb hn=>⟨hw b hb,hn⟩,fun _ o h f=>⟨⟨o,h,f⟩,rfl⟩,fun _ fz _ els h=>⟨fz,els,h,bc _,fun _=>rfl⟩,fun b hb hl=>⟨hb,hw b hl⟩⟩;refine⟨X,fun j x hj=>Obj.ext X (hw _ (I.lt j (Bg hj))) (I.obj j x hj),I.inj,fun i hi=>dv (I.lt i hi) hs,?_,OF I X,fun b hb=>⟨dv (I.rs b hb).1 hs,(I.rs b hb).2⟩⟩;intro g cs hg;obtain⟨h1,h2,h3,vs,h4,h5⟩:=I.gl g cs hg;exact⟨dv h1 hs,h2,h3,vs,h4.same (hw _ h1),Br.ext X h5⟩
end
section
theorem gE{h:A6}{n d:Nat}{v:AV}(hm:ment v≤n):frz h n d v=some v:=by
 cases d<;>simp[frz,hm]
theorem Ru{h:A6}{n d:Nat}: ∀{l:List AV},Bv l≤n→DU (frz h n d) l=some l
 |[],_=>rfl
 |v::l,hm=>by
  simp only[Bv]at hm;simp only[DU,gE (show ment v≤n by omega),aa,Ru (show Bv l≤n by omega),ak]
theorem Gs: ∀(a b:List AV),Bv (a++b)=max (Bv a) (Bv b)
 |[],b=>by simp[Bv]
 |x::a,b=>by simp only[cd,Bv,Gs a b];omega
theorem Rv{α:Type}{F:α→Option α}: ∀{a b a' b':List α},DU F a=some a'→DU F b=some b'→DU F (a++b)=some (a'++b')
 |[],b,a',b',h,g=>by simp only[DU,ae]at h;subst h;exact g
 |x::a,b,a',b',h,g=>by
  simp only[DU]at h;obtain⟨y,hy,h⟩:=ad.1 h;obtain⟨l,hl,rfl⟩:=aj.1 h;simp only[cd,DU,hy,aa,Rv hl g,ak]
structure T where
 α:Type
 sz:Nat
 agg:Bool
 dep:Nat
 R:(Nat→Prop)→A6→List AV→α→Prop
 zc:List AV
 z:α
 hz: ∀(P:Nat→Prop) (H:A6),R P H zc z
 one:agg=false→sz=1
 len: ∀{P:Nat→Prop} {H:A6} {cs:List AV} {x:α},R P H cs x→cs.length=sz
 sca: ∀{P:Nat→Prop} {H:A6} {cs:List AV} {x:α},R P H cs x→cs.all scal=true
 men: ∀{P:Nat→Prop} {H:A6} {cs:List AV} {x:α} {m:Nat},R P H cs x→(∀i,P i→i<m)→Bv cs≤m
 mono: ∀{P Q:Nat→Prop} {H G:A6} {cs:List AV} {x:α},(∀i,P i→Q i∧G[i]? =H[i]?)→R P H cs x→R Q G cs x
 cut: ∀{P Q:Nat→Prop} {H:A6} {cs:List AV} {x:α} {n:Nat},R P H cs x→Bv cs≤n→C7 (H.take n)≤n→(∀i,P i→i<n→Q i)→R Q (H.take n) cs x
 frz: ∀{P Q:Nat→Prop} {H:A6} {cs:List AV} {x:α} {n d:Nat},R P H cs x→dep≤d→d≤20→C7 (H.take n)≤n→(∀i,P i→i<n→Q i)→ ∃cs',DU (frz H n d) cs=some cs'∧R Q (H.take n) cs' x
def T.V(t:T)(P:Nat→Prop)(H:A6)(v:AV)(x:t.α):Prop:=(t.agg=true∧ ∃cs,v= .agg cs∧t.R P H cs x)∨(t.agg=false∧t.R P H [v] x)
section
variable{t:T}{P Q:Nat→Prop}{H G:A6}
theorem N5{v:AV}(h:scal v=true):cellsOf v=[v]:=by
 cases v<;>simp[scal]at h<;>rfl
theorem T.V.cells{v:AV}{x:t.α}(h:t.V P H v x):t.R P H (cellsOf v) x:=by
 rcases h with ⟨_,cs,rfl,h⟩|⟨_,h⟩
 ·exact h
 ·have:=t.sca h;simp only[fy,r9,lc]at this;rw[N5 this];exact h
theorem T.V.of{cs:List AV}{x:t.α}(h:t.R P H cs x): ∃v,I1 t.agg cs=some v∧t.V P H v x:=by
 cases ha:t.agg with
 |true=>exact⟨.agg cs,by simp[I1], .inl ⟨ha,cs,rfl,h⟩⟩
 |false=>
  have:=t.len h;rw[t.one ha]at this
  match cs,this with
  |[v],_=>exact⟨v,rfl, .inr ⟨ha,h⟩⟩
theorem T.V.mono{v:AV}{x:t.α}(m: ∀i,P i→Q i∧G[i]? =H[i]?)(h:t.V P H v x):t.V Q G v x:=by
 rcases h with ⟨a,cs,rfl,h⟩|⟨a,h⟩
 ·exact .inl ⟨a,cs,rfl,t.mono m h⟩
 ·exact .inr ⟨a,t.mono m h⟩
theorem T.V.men{v:AV}{x:t.α}{m:Nat}(h:t.V P H v x)(hp: ∀i,P i→i<m):ment v≤m:=by
 rcases h with ⟨a,cs,rfl,h⟩|⟨a,h⟩
 ·simpa [ment]using t.men h hp
 ·simpa [Bv]using t.men h hp
theorem T.V.frz{v:AV}{x:t.α}{n d:Nat}(h:t.V P H v x)(hd:t.dep≤d)(h20:d+1≤20)(hw:C7 (H.take n)≤n)(hp: ∀i,P i→i<n→Q i): ∃v',Am.frz H n (d+1) v=some v'∧t.V Q (H.take n) v' x:=by
 rcases h with ⟨a,cs,rfl,h⟩|⟨a,h⟩
 ·by_cases hm:Bv cs≤n
  ·exact⟨.agg cs,gE (by simpa [ment]using hm), .inl ⟨a,cs,rfl,t.cut h hm hw hp⟩⟩
  ·obtain⟨cs',e,r⟩:=t.frz h hd (by omega) hw hp;exact⟨.agg cs',by simp[Am.frz,ment,hm,e], .inl ⟨a,cs',rfl,r⟩⟩
 ·obtain⟨cs',e,r⟩:=t.frz h (show t.dep≤d+1 by omega) h20 hw hp;simp only[DU]at e;obtain⟨v',hv,e⟩:=ad.1 e;simp only[ak,ae]at e;subst e;exact⟨v',hv, .inr ⟨a,r⟩⟩
end
def Wi(α:Type)(c:α→AV)(z:α)(hs: ∀x,scal (c x)=true)(hm: ∀x,ment (c x)=0):T where
 α:=α
 sz:=1
 agg:=false
 dep:=0
 R:=fun _ _ cs x=>cs=[c x]
 zc:=[c z]
 z:=z
 hz:=fun _ _=>rfl
 one:=fun _=>rfl
 len:=fun h=>by rw[h];rfl
 sca:=fun{_ _ _ x} h=>by rw[h];simp[hs x]
 men:=fun{_ _ _ x _} h _=>by rw[h];simp[Bv,hm x]
 mono:=fun _ h=>h
 cut:=fun h _ _ _=>h
 frz:=fun{_ _ _ _ x _ _} h _ _ _ _=>⟨_,by rw[h,Ru (by simp[Bv,hm x])],rfl⟩
theorem TS{α:Type}{c:α→AV}{z:α}{hs: ∀x,scal (c x)=true}{hm: ∀x,ment (c x)=0}{P:Nat→Prop}{H:A6}{v:AV}{x:α}:(Wi α c z hs hm).V P H v x↔v=c x:=by
 constructor
 ·rintro(⟨a,_⟩|⟨_,h⟩)
  ·cases a
  ·exact(ia h).1
 ·rintro rfl;exact .inr ⟨rfl,rfl⟩
def T.b:T:=Wi Bool .b false (fun _=>rfl) (fun _=>rfl)
def T.int(k:IntKind):T:=Wi Int (.i k) 0 (fun _=>rfl) (fun _=>rfl)
def T.u8:T:=Wi UInt8 (fun x=> .i .u8 x.toNat) 0 (fun _=>rfl) (fun _=>rfl)
def T.u16:T:=Wi UInt16 (fun x=> .i .u16 x.toNat) 0 (fun _=>rfl) (fun _=>rfl)
def T.u32:T:=Wi UInt32 (fun x=> .i .u32 x.toNat) 0 (fun _=>rfl) (fun _=>rfl)
def T.u64:T:=Wi UInt64 (fun x=> .i .u64 x.toNat) 0 (fun _=>rfl) (fun _=>rfl)
abbrev AP:=List UInt8
def Au:T:=Wi AP .s [] (fun _=>rfl) (fun _=>rfl)
def T.prod(a b:T):T where
 α:=a.α×b.α
 sz:=a.sz+b.sz
 agg:=true
 dep:=max a.dep b.dep
 R:=fun P H cs x=> ∃c d,cs=c++d∧a.R P H c x.1∧b.R P H d x.2
 zc:=a.zc++b.zc
 z:=(a.z,b.z)
 hz:=fun P H=>⟨_,_,rfl,a.hz P H,b.hz P H⟩
 one:=fun h=>by cases h
 len:=fun⟨c,d,e,h,g⟩=>by rw[e,an,a.len h,b.len g]
 sca:=fun⟨c,d,e,h,g⟩=>by rw[e,ka,a.sca h,b.sca g];rfl
 men:=fun⟨c,d,e,h,g⟩ hp=>by rw[e,Gs];have:=a.men h hp;have:=b.men g hp;omega
 mono:=fun m ⟨c,d,e,h,g⟩=>⟨c,d,e,a.mono m h,b.mono m g⟩
 cut:=fun⟨c,d,e,h,g⟩ hm hw hp=>by
  rw[e,Gs]at hm;exact⟨c,d,e,a.cut h (by omega) hw hp,b.cut g (by omega) hw hp⟩
 frz:=fun⟨c,d,e,h,g⟩ hd h20 hw hp=>by
  have hd':=Nat.max_le.1 hd;obtain⟨c',h1,h2⟩:=a.frz h hd'.1 h20 hw hp;obtain⟨d',g1,g2⟩:=b.frz g hd'.2 h20 hw hp;exact⟨c'++d',by rw[e,Rv h1 g1],c',d',rfl,h2,g2⟩
def T.iso(t:T)(β:Type)(f:β→t.α)(g:t.α→β)(hfg: ∀y,f (g y)=y):T where
 α:=β
 sz:=t.sz
 agg:=true
 dep:=t.dep
 R:=fun P H cs y=>t.R P H cs (f y)
 zc:=t.zc
 z:=g t.z
 hz:=fun P H=>by rw[hfg];exact t.hz P H
 one:=fun h=>by cases h
 len:=t.len
 sca:=t.sca
 men:=t.men
 mono:=t.mono
 cut:=t.cut
 frz:=t.frz
def CM(t:T)(P:Nat→Prop)(H:A6):List (List AV)→List t.α→Prop
 |[],[]=>True
 |c::r,x::q=>t.R P H c x∧CM t P H r q
 |_,_=>False
section
variable{t:T}{P Q:Nat→Prop}{H G:A6}
theorem CM.length: ∀{l:List (List AV)} {xs:List t.α},CM t P H l xs→l.length=xs.length
 |[],[],_=>rfl
 |_::_,_::_,h=>by simp[CM.length h.2]
theorem CM.lens: ∀{l:List (List AV)} {xs:List t.α},CM t P H l xs→ ∀e∈l,e.length=t.sz
 |[],[],_,e,he=>by cases he
 |c::_,_::_,h,e,he=>by
  rcases bm.1 he with rfl|he
  ·exact t.len h.1
  ·exact CM.lens h.2 e he
theorem CM.sca: ∀{l:List (List AV)} {xs:List t.α},CM t P H l xs→l.flatten.all scal=true
 |[],[],_=>rfl
 |c::_,_::_,h=>by rw[bz,ka,t.sca h.1,CM.sca h.2];rfl
theorem Rr: ∀(l:List (List AV)),Bv l.flatten=CT l
 |[]=>rfl
 |c::l=>by rw[bz,Gs,Rr l,CT]
theorem CM.men{m:Nat}(hp: ∀i,P i→i<m): ∀{l:List (List AV)} {xs:List t.α},CM t P H l xs→CT l≤m
 |[],[],_=>by simp[CT]
 |c::_,_::_,h=>by simp only[CT];have:=t.men h.1 hp;have:=CM.men hp h.2;omega
theorem CM.mono(m: ∀i,P i→Q i∧G[i]? =H[i]?): ∀{l:List (List AV)} {xs:List t.α},CM t P H l xs→CM t Q G l xs
 |[],[],_=>trivial
 |_::_,_::_,h=>⟨t.mono m h.1,CM.mono m h.2⟩
theorem CM.cut{n:Nat}(hw:C7 (H.take n)≤n)(hp: ∀i,P i→i<n→Q i): ∀{l:List (List AV)} {xs:List t.α},CM t P H l xs→CT l≤n→CM t Q (H.take n) l xs
 |[],[],_,_=>trivial
 |_::_,_::_,h,hm=>by
  simp only[CT]at hm;exact⟨t.cut h.1 (by omega) hw hp,CM.cut hw hp h.2 (by omega)⟩
theorem CM.frz{n d:Nat}(hd:t.dep≤d)(h20:d≤20)(hw:C7 (H.take n)≤n)(hp: ∀i,P i→i<n→Q i): ∀{l:List (List AV)} {xs:List t.α},CM t P H l xs→ ∃l',DU (DU (Am.frz H n d)) l=some l'∧CM t Q (H.take n) l' xs
 |[],[],_=>⟨[],rfl,trivial⟩
 |_::_,_::_,h=>by
  obtain⟨c',e,r⟩:=t.frz h.1 hd h20 hw hp;obtain⟨l',e',r'⟩:=CM.frz hd h20 hw hp h.2;exact⟨c'::l',by simp[DU,e,e'],r,r'⟩
theorem CM.get: ∀{l:List (List AV)} {xs:List t.α} {i:Nat} {x:t.α},CM t P H l xs→xs[i]? =some x→ ∃c,l[i]? =some c∧t.R P H c x
 |[],[],_,_,_,h=>by simp at h
 |c::_,y::_,0,x,h,e=>by
  simp only[bw,ae]at e;subst e;exact⟨c,rfl,h.1⟩
 |c::_,y::_,i+1,x,h,e=>by
  simp only[di]at e;obtain⟨c',e',r⟩:=CM.get h.2 e;exact⟨c',by simpa using e',r⟩
theorem CM.drop: ∀{n:Nat} {l:List (List AV)} {xs:List t.α},CM t P H l xs→CM t P H (l.drop n) (xs.drop n)
 |0,_,_,h=>h
 |_+1,[],[],_=>trivial
 |n+1,_::_,_::_,h=>by simpa using CM.drop (n:=n) h.2
theorem CM.take: ∀{n:Nat} {l:List (List AV)} {xs:List t.α},CM t P H l xs→CM t P H (l.take n) (xs.take n)
 |0,_,_,_=>by simp[CM]
 |_+1,[],[],_=>trivial
 |n+1,_::_,_::_,h=>by simp only[i'];exact⟨h.1,CM.take (n:=n) h.2⟩
theorem CM.app: ∀{l m:List (List AV)} {xs ys:List t.α},CM t P H l xs→CM t P H m ys→CM t P H (l++m) (xs++ys)
 |[],_,[],_,_,g=>g
 |_::_,_,_::_,_,h,g=>⟨h.1,CM.app h.2 g⟩
theorem CM.set{c:List AV}{y:t.α}(hc:t.R P H c y): ∀{l:List (List AV)} {xs:List t.α} {i:Nat},CM t P H l xs→CM t P H (l.set i c) (xs.set i y)
 |[],[],_,_=>trivial
 |_::_,_::_,0,h=>⟨hc,h.2⟩
 |_::_,_::_,i+1,h=>⟨h.1,CM.set hc (i:=i) h.2⟩
theorem CM.rep{c:List AV}{y:t.α}(hc:t.R P H c y): ∀n,CM t P H (az n c) (az n y)
 |0=>trivial
 |n+1=>⟨hc,CM.rep hc n⟩
end
structure Ar(α:Type)(n:Nat) where
 l:List α
 len:l.length=n
theorem Ar.ext{α:Type}{n:Nat}: ∀{a b:Ar α n},a.l=b.l→a=b
 |⟨_,_⟩,⟨_,_⟩,rfl=>rfl
instance {α:Type} {n:Nat} [DecidableEq α]:DecidableEq (Ar α n):=fun a b=>if h:a.l=b.l then isTrue (Ar.ext h)else isFalse fun e=>h (by rw[e])
theorem YH{sz:Nat}: ∀{l:List (List AV)},(∀e∈l,e.length=sz)→l.flatten.length=l.length*sz
 |[],_=>by simp
 |c::l,h=>by
  rw[bz,an,h c bg,YH fun e he=>h e (a8 _ he),ba,ci];omega
theorem fB{α:Type}{F:α→Option α}: ∀{l l':List (List α)},DU (DU F) l=some l'→DU F l.flatten=some l'.flatten
 |[],_,h=>by simp only[DU,ae]at h;subst h;rfl
 |c::l,_,h=>by
  simp only[DU]at h;obtain⟨c',hc,h⟩:=ad.1 h;obtain⟨l',hl,rfl⟩:=aj.1 h;exact Rv hc (fB hl)
def T.arr(n:Nat)(t:T):T where
 α:=Ar t.α n
 sz:=n*t.sz
 agg:=true
 dep:=t.dep
 R:=fun P H cs x=> ∃css,cs=css.flatten∧CM t P H css x.l
 zc:=(az n t.zc).flatten
 z:=⟨az n t.z,by simp⟩
 hz:=fun P H=>⟨_,rfl,CM.rep (t.hz P H) n⟩
 one:=fun h=>by cases h
 len:=fun{_ _ _ x} ⟨css,e,h⟩=>by rw[e,YH h.lens,h.length,x.len]
 sca:=fun⟨css,e,h⟩=>by rw[e];exact h.sca
 men:=fun⟨css,e,h⟩ hp=>by rw[e,Rr];exact h.men hp
 mono:=fun m ⟨css,e,h⟩=>⟨css,e,h.mono m⟩
 cut:=fun⟨css,e,h⟩ hm hw hp=>⟨css,e,h.cut hw hp (by rwa [e,Rr]at hm)⟩
 frz:=fun⟨css,e,h⟩ hd h20 hw hp=>by
  obtain⟨l',e',r⟩:=h.frz hd h20 hw hp;exact⟨l'.flatten,by rw[e];exact fB e',l',rfl,r⟩
inductive GS(α:Type) where
 |nil
 |mk (l:List α)
 deriving DecidableEq,Inhabited
def GS.l{α:Type}:GS α→List α
 | .nil=>[]
 | .mk l=>l
def Nb(P:Nat→Prop):AV→Prop
 | .sl _ _=>True
 | .orow id _ _ _=>P id
 | .ocel _ id _ _=>P id
 |_=>False
def ST(t:T)(P:Nat→Prop)(H:A6)(v:AV):GS t.α→Prop
 | .nil=>v= .nils
 | .mk l=>Nb P v∧ ∃els,EX H t.sz v=some els∧CM t P H els l
theorem Rm{H G:A6}{id:Nat}(h:G[id]? =H[id]?):rowAt G id=rowAt H id:=by simp only[rowAt,h]
theorem RD{H G:A6}{id:Nat}(h:G[id]? =H[id]?):BR G id=BR H id:=by simp only[BR,h]
section
variable{t:T}{P Q:Nat→Prop}{H G:A6}{v:AV}
theorem els?_same{sz:Nat}(m: ∀i,P i→Q i∧G[i]? =H[i]?)(h:Nb P v):EX G sz v=EX H sz v:=by
 cases v<;>simp only[Nb]at h<;>simp only[EX]
 ·rw[Rm (m _ h).2]
 ·rw[RD (m _ h).2]
theorem Ab0(m: ∀i,P i→Q i)(h:Nb P v):Nb Q v:=by
 cases v<;>simp only[Nb]at h ⊢
 ·exact m _ h
 ·exact m _ h
theorem ST.mono(m: ∀i,P i→Q i∧G[i]? =H[i]?): ∀{g:GS t.α},ST t P H v g→ST t Q G v g
 | .nil,h=>h
 | .mk _,⟨b,els,e,h⟩=>⟨Ab0 (fun i hi=>(m i hi).1) b,els,by rw[els?_same m b];exact e,h.mono m⟩
theorem ST.sca: ∀{g:GS t.α},ST t P H v g→scal v=true
 | .nil,h=>by rw[show v=_ from h];rfl
 | .mk _,⟨b,_,_,_⟩=>by cases v<;>simp only[Nb]at b<;>rfl
theorem ST.men{m:Nat}(hp: ∀i,P i→i<m): ∀{g:GS t.α},ST t P H v g→ment v≤m
 | .nil,h=>by rw[show v=_ from h];simp[ment]
 | .mk _,⟨b,els,e,h⟩=>by
  cases v<;>simp only[Nb]at b
  ·simp only[EX]at e
   split at e
   ·simp only[ae]at e;subst e;simpa [ment]using h.men hp
   ·cases e
  ·simp only[ment];exact hp _ b
  ·simp only[ment];exact hp _ b
theorem V4{n id:Nat}(h:id<n):rowAt (H.take n) id=rowAt H id:=by
 simp only[rowAt];rw[dn];simp[h]
theorem N6{n id:Nat}(h:id<n):BR (H.take n) id=BR H id:=by
 simp only[BR];rw[dn];simp[h]
theorem Y3: ∀{l:A6} {o:BU},o∈l→DW o≤C7 l:=by
 intro l
 induction l with
 |nil=>intro o h;cases h
 |cons x l ih=>
  intro o h;simp only[C7];rcases bm.1 h with e|h
  ·subst e;omega
  ·have:=ih h;omega
theorem Z7: ∀(l:List (List AV)) (i:Nat),CT (l.drop i)≤CT l
 |[],i=>by simp
 |x::l,0=>by simp
 |x::l,i+1=>by simp only[jy,CT];have:=Z7 l i;omega
theorem Z6: ∀(l:List (List AV)) (i:Nat),CT (l.take i)≤CT l
 |[],i=>by simp
 |x::l,0=>by simp[CT]
 |x::l,i+1=>by simp only[i',CT];have:=Z6 l i;omega
theorem Kb: ∀(l:List AV) (i:Nat),Bv (l.drop i)≤Bv l
 |[],i=>by simp
 |x::l,0=>by simp
 |x::l,i+1=>by simp only[jy,Bv];have:=Kb l i;omega
theorem Mn: ∀(l:List AV) (i:Nat),Bv (l.take i)≤Bv l
 |[],i=>by simp
 |x::l,0=>by simp[Bv]
 |x::l,i+1=>by simp only[i',Bv];have:=Mn l i;omega
theorem Tn(sz:Nat): ∀(n:Nat) (l:List AV),CT (BV sz n l)≤Bv l
 |0,_=>by simp[BV,CT]
 |n+1,l=>by
  simp only[BV,CT];have h1:=Mn l sz;have h2:=Tn sz n (l.drop sz);have h3:=Kb l sz;omega
theorem eH{n id:Nat}{r:Bool×Nat×List (List AV)}(hw:C7 (H.take n)≤n)(h:id<n)(e:rowAt H id=some r):CT r.2.2≤n:=by
 rw[←V4 h]at e;simp only[rowAt]at e
 split at e
 ·rename_i fz sz els he;cases e;exact dj (Y3 (d8 he)) hw
 ·cases e
theorem Xy{n id:Nat}{cs:List AV}(hw:C7 (H.take n)≤n)(h:id<n)(e:BR H id=some cs):Bv cs≤n:=by
 rw[←N6 h]at e;simp only[BR]at e
 split at e
 ·rename_i els he;cases e;exact dj (Y3 (d8 he)) hw
 ·cases e
theorem ST.cut{n:Nat}(hw:C7 (H.take n)≤n)(hp: ∀i,P i→i<n→Q i)(hm:ment v≤n): ∀{g:GS t.α},ST t P H v g→ST t Q (H.take n) v g
 | .nil,h=>h
 | .mk _,⟨b,els,e,h⟩=>by
  cases v<;>simp only[Nb]at b
  ·rename_i sz' els';refine⟨trivial,els,e,h.cut hw hp ?_⟩;simp only[EX]at e
   split at e
   ·simp only[ae]at e;subst e;simpa [ment]using hm
   ·cases e
  ·rename_i id k lo len;simp only[ment]at hm;refine⟨hp _ b (by omega),els,?_,h.cut hw hp ?_⟩
   ·simp only[EX]at e ⊢;rw[V4 (by omega)];exact e
   ·simp only[EX]at e;obtain⟨r,hr,e⟩:=ad.1 e
    split at e
    ·simp only[ae]at e;subst e;exact dj (Z6 _ _) (dj (Z7 _ _) (eH hw (by omega) hr))
    ·cases e
  ·rename_i sz' id off len;simp only[ment]at hm;refine⟨hp _ b (by omega),els,?_,h.cut hw hp ?_⟩
   ·simp only[EX]at e ⊢;rw[N6 (by omega)];exact e
   ·simp only[EX]at e;obtain⟨r,hr,e⟩:=ad.1 e
    split at e
    ·simp only[ae]at e;subst e;exact dj (Tn _ _ _) (dj (Kb _ _) (Xy hw (by omega) hr))
    ·cases e
theorem ST.frz{n d:Nat}(hd:t.dep≤d)(h20:d≤20)(hw:C7 (H.take n)≤n)(hp: ∀i,P i→i<n→Q i){g:GS t.α}(h:ST t P H v g): ∃v',Am.frz H n (d+1) v=some v'∧ST t Q (H.take n) v' g:=by
 by_cases hm:ment v≤n
 ·exact⟨v,gE hm,h.cut hw hp hm⟩
 ·cases g with
  |nil=>rw[show v=_ from h]at hm;simp[ment]at hm
  |mk l=>
   obtain⟨b,els,e,h⟩:=h;obtain⟨els',e',r⟩:=h.frz hd h20 hw hp;refine⟨.sl t.sz els',?_,trivial,els',by simp[EX],r⟩;cases v<;>simp only[Nb]at b
   ·rename_i sz' els0;simp only[EX]at e
    split at e
    ·rename_i hsz;simp only[ae]at e;subst e;subst hsz;simp only[Am.frz,t7 hm,e',ak]
    ·cases e
   ·rename_i id k lo len;simp only[EX]at e;obtain⟨r0,hr,e⟩:=ad.1 e
    split at e
    ·rename_i hc;simp only[ae]at e;subst e;simp only[Am.frz,t7 hm,hr,aa,t6 (show k=r0.2.2.length∧lo+len≤k from⟨hc.1,hc.2.2⟩),e',ak,hc.2.1]
    ·cases e
   ·rename_i sz' id off len;simp only[EX]at e;obtain⟨r0,hr,e⟩:=ad.1 e
    split at e
    ·rename_i hc;have he:some (BV t.sz len (r0.drop off))=some els:=e;simp only[ae]at he;subst he;obtain⟨rfl,hc⟩:=hc;simp only[Am.frz,t7 hm,hr,aa,t6 hc,e',ak]
    ·cases e
end
def T.sl(t:T):T where
 α:=GS t.α
 sz:=1
 agg:=false
 dep:=t.dep+1
 R:=fun P H cs g=> ∃v,cs=[v]∧ST t P H v g
 zc:=[.nils]
 z:= .nil
 hz:=fun _ _=>⟨_,rfl,rfl⟩
 one:=fun _=>rfl
 len:=fun⟨v,e,_⟩=>by rw[e];rfl
 sca:=fun⟨v,e,h⟩=>by rw[e];simp[h.sca]
 men:=fun⟨v,e,h⟩ hp=>by rw[e];simpa [Bv]using h.men hp
 mono:=fun m ⟨v,e,h⟩=>⟨v,e,h.mono m⟩
 cut:=fun⟨v,e,h⟩ hm hw hp=>⟨v,e,h.cut hw hp (by rw[e]at hm;simpa [Bv]using hm)⟩
 frz:=fun{_ _ _ _ _ _ d} ⟨v,e,h⟩ hd h20 hw hp=>by
  obtain⟨d,rfl⟩: ∃k,d=k+1:=⟨d-1,by omega⟩;obtain⟨v',e',r⟩:=h.frz (d:=d) (by omega) (by omega) hw hp;exact⟨[v'],by rw[e];simp[DU,e'],v',rfl,r⟩
theorem JY{t:T}{P:Nat→Prop}{H:A6}{v:AV}{g:GS t.α}:(T.sl t).V P H v g↔ST t P H v g:=by
 constructor
 ·rintro(⟨a,_⟩|⟨_,w,h,r⟩)
  ·cases a
  ·cases h;exact r
 ·intro h;exact .inr ⟨rfl,v,rfl,h⟩
end
section
inductive AY:Type 1 where
 |val (t:T) (x:t.α)
 |rp (t:T) (x:t.α)
 |cp (j off:Nat)
 |own (j:Nat)
 |ep (j i off:Nat)
 |tup (l:List (Σ t:T,t.α))
 |junk
 |con (v:AV)
 |kv (j:Nat)
 |fnv (f:Fn) (js ks:List Nat)
 |aggk (js:List Nat)
 |tupk (js:List Nat)
 |oc (j off sz len:Nat)
structure Dom where
 α:Type
 R:(Nat→Prop)→(Nat→Prop)→A6→AV→α→Prop
 lt: ∀{F P:Nat→Prop} {H:A6} {v:AV} {x:α},R F P H v x→ ∀i,F i→i<H.length
 men: ∀{F P:Nat→Prop} {H:A6} {v:AV} {x:α} {m:Nat},R F P H v x→(∀i,P i→i<m)→(∀i,F i→i<m)→ment v≤m
 mono: ∀{F P Q:Nat→Prop} {H G:A6} {v:AV} {x:α},(∀i,P i→Q i∧G[i]? =H[i]?)→(∀i,F i→G[i]? =H[i]?)→R F P H v x→R F Q G v x
inductive Dj:Type 1 where
 |gone
 |cells (ps:List (Nat×AY))
 |row (t:T) (g:GS t.α)
 |dom (D:Dom) (x:D.α)
 |keep (φ:AY)
 |ghost (φ:AY)
 |rowk (sz:Nat) (els:List (List Nat))
abbrev Ts:=List (Nat×AY)
abbrev Ss:=List (Nat×Dj)
structure Cx:Type 1 where
 ts:Ts
 ss:Ss
def BP:Ts→Nat→Option AY
 |[],_=>none
 |(u,φ)::r,t=>if u=t then some φ else BP r t
def AQ:Ss→Nat→Option Dj
 |[],_=>none
 |(u,φ)::r,t=>if u=t then some φ else AQ r t
def liveO:Option Dj→Prop
 |none=>False
 |some .gone=>False
 |some (.ghost _)=>False
 |some _=>True
def Dw:Option Dj→Bool
 |some (.keep _)=>true
 |_=>false
def Bn(ss:Ss)(j:Nat):Prop:=liveO (AQ ss j)
structure QS where
 h:A6
 P0:Nat→Prop
 K:Nat→Prop
 lt: ∀i,P0 i→i<h.length
 pk: ∀i,P0 i→K i
 g:Nat→AV
abbrev Fp:=Nat→Nat→Prop
def Ld:Nat:=1000000
def Pf(E:QS)(ss:Ss)(fp:Fp)(H:A6)(i:Nat):Prop:=
 (i<E.h.length∧E.P0 i)∨(E.h.length≤i∧i<H.length∧ ∀j,Bn ss j→ ¬fp j i)
def aS(P:Nat→Prop):AV→Prop
 | .ptr id _=>P id
 | .pe id _ _ _=>P id
 | .ip _ _=>True
 |_=>False
def jM(t:T)(P:Nat→Prop)(H:A6)(v:AV)(x:t.α):Prop:=
 aS P v∧ ∃cs off,place H v=some (cs,off)∧off+t.sz≤cs.length∧t.R P H (sub cs off t.sz) x∧(∀m,(∀i,P i→i<m)→ment v≤m)
def XJ(P:Nat→Prop)(H:A6):List AV→List (Σ t:T,t.α)→Prop
 |[],[]=>True
 |v::r,p::q=>p.1.V P H v p.2∧XJ P H r q
 |_,_=>False
def Q1(ss:Ss)(l:List Nat):Prop:= ∀j∈l,Dw (AQ ss j)=true
def FR(rv:Nat→AV)(ss:Ss)(P:Nat→Prop)(H:A6):AY→AV→Prop
 | .val t x,v=>t.V P H v x
 | .rp t x,v=>jM t P H v x
 | .cp j off,v=>Bn ss j∧ ∃id,rv j= .ptr id 0∧v= .ptr id off
 | .own j,v=>Bn ss j∧v=rv j
 | .ep j i off,v=>Bn ss j∧ ∃id n,rv j= .orow id n 0 n∧i<n∧v= .pe id n i off
 | .tup l,v=> ∃vs,v= .tup vs∧XJ P H vs l
 | .junk,_=>True
 | .con c,v=>v=c∧ment c=0∧scal c=true
 | .kv j,v=>Q1 ss [j]∧v=rv j
 | .fnv f js ks,v=>Q1 ss (js++ks)∧v= .fn f (js.map rv) (ks.map rv)
 | .aggk js,v=>Q1 ss js∧v= .agg (js.flatMap fun j=>cellsOf (rv j))
 | .tupk js,v=>Q1 ss js∧v= .tup (js.map rv)
 | .oc j off sz len,v=>Bn ss j∧ ∃id,rv j= .ptr id 0∧v= .ocel sz id off len
def FC(rv:Nat→AV)(ss:Ss)(P:Nat→Prop)(H:A6):AY→List AV→Prop
 | .val t x,c=>t.R P H c x
 | .tup _,_=>False
 | .junk,c=>Bv c≤H.length
 |φ,c=> ∃v,c=[v]∧FR rv ss P H φ v
def PR(rv:Nat→AV)(ss:Ss)(P:Nat→Prop)(H:A6):List (Nat×AY)→List AV→Prop
 |[],cs=>cs=[]
 |(n,φ)::r,cs=> ∃c d,cs=c++d∧c.length=n∧FC rv ss P H φ c∧PR rv ss P H r d
def SR(rv:Nat→AV)(fp:Fp)(ss:Ss)(P:Nat→Prop)(H:A6)(j:Nat):Dj→Prop
 | .gone=>True
 | .cells ps=> ∃id cs,rv j= .ptr id 0∧(∀i,fp j i↔i=id)∧BR H id=some cs∧PR rv ss P H ps cs
 | .row t .nil=>rv j= .nils∧ ∀i,¬fp j i
 | .row t (.mk l)=> ∃id els,rv j= .orow id els.length 0 els.length∧(∀i,fp j i↔i=id)∧rowAt H id=some (false,t.sz,els)∧CM t P H els l
 | .dom D x=>D.R (fp j) P H (rv j) x
 | .keep φ=>FR rv ss P H φ (rv j)∧ ∀i,¬fp j i
 | .ghost _=>True
 | .rowk sz els=>Q1 ss els.flatten∧ ∃id,rv j= .orow id els.length 0 els.length∧(∀i,fp j i↔i=id)∧rowAt H id=some (false,sz,els.map fun js=>js.flatMap fun j=>cellsOf (rv j))
structure B5(E:QS)(Γ:Cx)(rv:Nat→AV)(fp:Fp)(f:Fr)(H:A6):Prop where
 le:E.h.length≤H.length
 base: ∀i,i<E.h.length→E.K i→H[i]? =E.h[i]?
 wf:C7 H≤H.length
 fplt: ∀j i,Bn Γ.ss j→fp j i→i<H.length∧(i<E.h.length→ ¬E.K i∧Ld≤j)
 rvlt: ∀j,Bn Γ.ss j→ment (rv j)≤H.length
 scal: ∀j,Bn Γ.ss j→Dw (AQ Γ.ss j)=true∨scal (rv j)=true
 inj: ∀j k i,Bn Γ.ss j→Bn Γ.ss k→fp j i→fp k i→j=k
 slots: ∀j S,AQ Γ.ss j=some S→SR rv fp Γ.ss (Pf E Γ.ss fp H) H j S
 temps: ∀t φ,BP Γ.ts t=some φ→FR rv Γ.ss (Pf E Γ.ss fp H) H φ (get f t)
 gh: ∀j φ,AQ Γ.ss j=some (.ghost φ)→FR rv Γ.ss (Pf E Γ.ss fp H) H φ (E.g j)
def Rel(E:QS)(Γ:Cx)(f:Fr)(H:A6):Prop:= ∃rv fp,B5 E Γ rv fp f H
theorem Pf.lt{E:QS}{ss:Ss}{fp:Fp}{H:A6}(le:E.h.length≤H.length){i:Nat}(h:Pf E ss fp H i):i<H.length:=by
 rcases h with h|h
 ·omega
 ·exact h.2.1
section
variable{rv rv':Nat→AV}{fp fp':Fp}{ss ss':Ss}{P Q:Nat→Prop}{H G:A6}
theorem XJ.mono(m: ∀i,P i→Q i∧G[i]? =H[i]?): ∀{vs:List AV} {l:List (Σ t:T,t.α)},XJ P H vs l→XJ Q G vs l
 |[],[],_=>trivial
 |_::_,_::_,h=>⟨h.1.mono m,XJ.mono m h.2⟩
theorem zB{v:AV}(m: ∀i,P i→Q i∧G[i]? =H[i]?)(h:aS P v):place G v=place H v:=by
 cases v<;>simp only[aS]at h<;>simp only[place]
 ·rw[RD (m _ h).2]
 ·rw[Rm (m _ h).2]
theorem ptrP_mono{v:AV}(m: ∀i,P i→Q i)(h:aS P v):aS Q v:=by
 cases v<;>simp only[aS]at h ⊢
 ·exact m _ h
 ·exact m _ h
theorem jM.mono{t:T}{v:AV}{x:t.α}(m: ∀i,P i→Q i∧G[i]? =H[i]?)(h:jM t P H v x):jM t Q G v x:=by
 obtain⟨hp,cs,off,e,l,r,hm⟩:=h;exact⟨ptrP_mono (fun i hi=>(m i hi).1) hp,cs,off,by rw[zB m hp];exact e,l,t.mono m r,fun k hk=>hm k fun i hi=>hk i (m i hi).1⟩
def EP(j:Nat):AY→Prop
 | .cp k _=>k≠j
 | .oc k _ _ _=>k≠j
 | .own k=>k≠j
 | .ep k _ _=>k≠j
 | .kv k=>k≠j
 | .fnv _ js ks=>j∉js++ks
 | .aggk js=>j∉js
 | .tupk js=>j∉js
 |_=>True
def XL(rv rv':Nat→AV)(ss ss':Ss)(φ:AY):Prop:= ∀j,¬EP j φ→Bn ss j→(Bn ss' j∧(Dw (AQ ss j)=true→Dw (AQ ss' j)=true))∧rv' j=rv j
theorem NB{ss:Ss}{j:Nat}(h:Dw (AQ ss j)=true):Bn ss j:=by
 simp only[Bn];cases e:AQ ss j with
 |none=>rw[e]at h;cases h
 |some S=>rw[e]at h;cases S<;>simp only[Dw,ah]at h<;>trivial
theorem L4{ss ss':Ss}{l:List Nat}(h:Q1 ss l)(s: ∀j∈l,Bn ss j→(Bn ss' j∧(Dw (AQ ss j)=true→Dw (AQ ss' j)=true))∧rv' j=rv j):Q1 ss' l∧l.map rv'=l.map rv∧(l.flatMap fun j=>cellsOf (rv' j))=l.flatMap fun j=>cellsOf (rv j):=by
 induction l with
 |nil=>exact⟨fun j hj=>(by cases hj),rfl,rfl⟩
 |cons k l ih=>
  obtain⟨h1,h2,h3⟩:=ih (fun j hj=>h j (a8 _ hj)) (fun j hj=>s j (a8 _ hj));have hk:=h k bg;obtain⟨⟨_,a⟩,b⟩:=s k bg (NB hk);refine⟨fun j hj=> ?_,by simp only[bh,b,h2],by simp only[d5,b,h3]⟩;rcases bm.1 hj with rfl|hj
  ·exact a hk
  ·exact h1 j hj
theorem FR.mono{φ:AY}{v:AV}(m: ∀i,P i→Q i∧G[i]? =H[i]?)(s:XL rv rv' ss ss' φ)(h:FR rv ss P H φ v):FR rv' ss' Q G φ v:=by
 cases φ with
 |val t x=>exact T.V.mono m h
 |rp t x=>exact jM.mono m h
 |cp j off=>
  obtain⟨l,id,e,hv⟩:=h;obtain⟨⟨l',_⟩,e'⟩:=s j (by simp[EP]) l;exact⟨l',id,e'.trans e,hv⟩
 |oc j off sz len=>
  obtain⟨l,id,e,hv⟩:=h;obtain⟨⟨l',_⟩,e'⟩:=s j (by simp[EP]) l;exact⟨l',id,e'.trans e,hv⟩
 |own j=>
  obtain⟨l,h⟩:=h;obtain⟨⟨l',_⟩,e'⟩:=s j (by simp[EP]) l;exact⟨l',h.trans e'.symm⟩
 |ep j i off=>
  obtain⟨l,id,n,e,hi,hv⟩:=h;obtain⟨⟨l',_⟩,e'⟩:=s j (by simp[EP]) l;exact⟨l',id,n,e'.trans e,hi,hv⟩
 |tup l=>
  obtain⟨vs,e,h⟩:=h;exact⟨vs,e,h.mono m⟩
 |junk=>trivial
 |con c=>exact h
 |kv j=>
  obtain⟨h1,h2⟩:=h;obtain⟨a,b,c⟩:=L4 (rv:=rv) (rv':=rv') (ss':=ss') h1 fun k hk=>by
   obtain rfl:=ct.1 hk;exact s k (by simp[EP])
  exact⟨a,h2.trans (by simpa using b.symm)⟩
 |fnv f js ks=>
  obtain⟨h1,h2⟩:=h;obtain⟨a,b,c⟩:=L4 (rv:=rv) (rv':=rv') (ss':=ss') h1 fun k hk=>s k (fun hn=>hn hk);have hj:js.map rv'=js.map rv∧ks.map rv'=ks.map rv:=by
   rw[df,df]at b;exact List.append_inj b (by simp)
  exact⟨a,by rw[h2,hj.1,hj.2]⟩
 |aggk js=>
  obtain⟨h1,h2⟩:=h;obtain⟨a,b,c⟩:=L4 (rv:=rv) (rv':=rv') (ss':=ss') h1 fun k hk=>s k (fun hn=>hn hk);exact⟨a,by rw[h2,c]⟩
 |tupk js=>
  obtain⟨h1,h2⟩:=h;obtain⟨a,b,c⟩:=L4 (rv:=rv) (rv':=rv') (ss':=ss') h1 fun k hk=>s k (fun hn=>hn hk);exact⟨a,by rw[h2,b]⟩
theorem FC.mono{φ:AY}{c:List AV}(m: ∀i,P i→Q i∧G[i]? =H[i]?)(hl:H.length≤G.length)(s:XL rv rv' ss ss' φ)(h:FC rv ss P H φ c):FC rv' ss' Q G φ c:=by
 cases φ with
 |val t x=>exact t.mono m h
 |rp t x=>obtain⟨v,e,h⟩:=h;exact⟨v,e,FR.mono m s h⟩
 |cp j off=>obtain⟨v,e,h⟩:=h;exact⟨v,e,FR.mono m s h⟩
 |oc j off sz len=>obtain⟨v,e,h⟩:=h;exact⟨v,e,FR.mono m s h⟩
 |own j=>obtain⟨v,e,h⟩:=h;exact⟨v,e,FR.mono m s h⟩
 |ep j i off=>obtain⟨v,e,h⟩:=h;exact⟨v,e,FR.mono m s h⟩
 |tup l=>exact h
 |junk=>exact dj h hl
 |con c=>obtain⟨v,e,h⟩:=h;exact⟨v,e,FR.mono m s h⟩
 |kv j=>obtain⟨v,e,h⟩:=h;exact⟨v,e,FR.mono m s h⟩
 |fnv f js ks=>obtain⟨v,e,h⟩:=h;exact⟨v,e,FR.mono m s h⟩
 |aggk js=>obtain⟨v,e,h⟩:=h;exact⟨v,e,FR.mono m s h⟩
 |tupk js=>obtain⟨v,e,h⟩:=h;exact⟨v,e,FR.mono m s h⟩
theorem PR.mono(m: ∀i,P i→Q i∧G[i]? =H[i]?)(hl:H.length≤G.length): ∀{ps:List (Nat×AY)} {cs:List AV},(∀p∈ps,XL rv rv' ss ss' p.2)→PR rv ss P H ps cs→PR rv' ss' Q G ps cs
 |[],_,_,h=>h
 |(n,φ)::r,cs,s,⟨c,d,e,l,h,g⟩=>⟨c,d,e,l,FC.mono m hl (s _ bg) h,PR.mono m hl (fun p hp=>s p (a8 _ hp)) g⟩
theorem XJ.men{n:Nat}(hp: ∀i,P i→i<n): ∀{vs:List AV} {l:List (Σ t:T,t.α)},XJ P H vs l→Bv vs≤n
 |[],[],_=>by simp[Bv]
 |_::_,_::_,h=>by simp only[Bv];have:=h.1.men hp;have:=XJ.men hp h.2;omega
theorem uL(v:AV):Bv (cellsOf v)≤ment v:=by
 cases v<;>simp[cellsOf,Bv,ment]
theorem Q0{n:Nat}(hi: ∀j,Bn ss j→ment (rv j)≤n): ∀{l:List Nat},Q1 ss l→Bv (l.map rv)≤n∧Bv (l.flatMap fun j=>cellsOf (rv j))≤n
 |[],_=>by simp[Bv]
 |k::l,h=>by
  obtain⟨h1,h2⟩:=Q0 hi (l:=l) fun j hj=>h j (a8 _ hj);have h3:=hi k (NB (h k bg));have h4:=uL (rv k);simp only[bh,Bv,d5,Gs];omega
theorem FR.men{φ:AY}{v:AV}{n:Nat}(hp: ∀i,P i→i<n)(hi: ∀j,Bn ss j→ment (rv j)≤n)(hj:φ≠ .junk)(h:FR rv ss P H φ v):ment v≤n:=by
 cases φ with
 |val t x=>exact T.V.men h hp
 |rp t x=>exact h.2.choose_spec.choose_spec.2.2.2 n hp
 |cp j off=>obtain⟨l,id,e,rfl⟩:=h;have:=hi j l;rw[e]at this;simpa [ment]using this
 |oc j off sz len=>obtain⟨l,id,e,rfl⟩:=h;have:=hi j l;rw[e]at this;simpa [ment]using this
 |own j=>obtain⟨l,rfl⟩:=h;exact hi j l
 |ep j i off=>obtain⟨l,id,m,e,_,rfl⟩:=h;have:=hi j l;rw[e]at this;simpa [ment]using this
 |tup l=>obtain⟨vs,rfl,h⟩:=h;simpa [ment]using h.men hp
 |junk=>exact absurd rfl hj
 |con c=>obtain⟨rfl,h,_⟩:=h;omega
 |kv j=>obtain⟨h,rfl⟩:=h;exact hi j (NB (h j (by simp)))
 |fnv f js ks=>
  obtain⟨h,rfl⟩:=h;have h1:=(Q0 hi (l:=js) fun j hj=>h j (by simp[hj])).1;have h2:=(Q0 hi (l:=ks) fun j hj=>h j (by simp[hj])).1;simp only[ment];omega
 |aggk js=>obtain⟨h,rfl⟩:=h;simpa [ment]using (Q0 hi h).2
 |tupk js=>obtain⟨h,rfl⟩:=h;simpa [ment]using (Q0 hi h).1
theorem FC.men{φ:AY}{c:List AV}(hp: ∀i,P i→i<H.length)(hi: ∀j,Bn ss j→ment (rv j)≤H.length)(h:FC rv ss P H φ c):Bv c≤H.length:=by
 have one: ∀{ψ:AY},ψ≠ .junk→(∃v,c=[v]∧FR rv ss P H ψ v)→Bv c≤H.length:=by
  rintro ψ hj ⟨v,rfl,h'⟩;simpa [Bv]using FR.men hp hi hj h'
 cases φ with
 |val t x=>exact t.men h hp
 |tup l=>exact h.elim
 |junk=>exact h
 |rp t x=>exact one (by simp) h
 |cp j off=>exact one (by simp) h
 |oc j off sz len=>exact one (by simp) h
 |own j=>exact one (by simp) h
 |ep j i off=>exact one (by simp) h
 |con c=>exact one (by simp) h
 |kv j=>exact one (by simp) h
 |fnv f js ks=>exact one (by simp) h
 |aggk js=>exact one (by simp) h
 |tupk js=>exact one (by simp) h
theorem PR.men(hp: ∀i,P i→i<H.length)(hi: ∀j,Bn ss j→ment (rv j)≤H.length): ∀{ps:List (Nat×AY)} {cs:List AV},PR rv ss P H ps cs→Bv cs≤H.length
 |[],_,h=>by rw[show _=[]from h];simp[Bv]
 |(n,φ)::r,cs,⟨c,d,e,l,h,g⟩=>by
  rw[e,Gs];have:=FC.men hp hi h;have:=PR.men hp hi g;omega
def Zx:List (Nat×AY)→Nat
 |[]=>0
 |(n,_)::r=>n+Zx r
theorem PR.length: ∀{ps:List (Nat×AY)} {cs:List AV},PR rv ss P H ps cs→cs.length=Zx ps
 |[],_,h=>by rw[show _=[]from h];rfl
 |(n,φ)::r,cs,⟨c,d,e,l,h,g⟩=>by rw[e,an,l,PR.length g];rfl
theorem SR.keep{k:Nat}{S:Dj}(h:SR rv fp ss P H k S)(hrv:rv' k=rv k)(hfp:fp' k=fp k)(m: ∀i,P i→Q i∧G[i]? =H[i]?)(hl:H.length≤G.length)
  (hg: ∀i,fp k i→G[i]? =H[i]?) (hs: ∀ps,S= .cells ps→ ∀p∈ps,XL rv rv' ss ss' p.2) (hsk: ∀φ,S= .keep φ→XL rv rv' ss ss' φ) (hse: ∀sz els,S= .rowk sz els→XL rv rv' ss ss' (.aggk els.flatten)):SR rv' fp' ss' Q G k S:=by
 cases S with
 |rowk sz els=>
  obtain⟨h0,id,h1,h2,h3⟩:=h;have hs:=hse sz els rfl;have h4:=(L4 (rv:=rv) (rv':=rv') (ss':=ss') h0 fun j hj=>hs j (fun hn=>hn hj)).1;have h5:(els.map fun js=>js.flatMap fun j=>cellsOf (rv' j))=els.map fun js=>js.flatMap fun j=>cellsOf (rv j):=by
   apply rb;intro js hjs;exact(L4 (rv:=rv) (rv':=rv') (ss':=ss') (fun j hj=>h0 j (o4.2 ⟨js,hjs,hj⟩)) fun j hj=>hs j (fun hn=>hn (o4.2 ⟨js,hjs,hj⟩))).2.2
  exact⟨h4,id,hrv.trans h1,by rw[hfp];exact h2,by rw[h5,Rm (hg id ((h2 id).2 rfl))];exact h3⟩
 |gone=>trivial
 |ghost φ=>trivial
 |keep φ=>
  obtain⟨h1,h2⟩:=h;exact⟨by rw[hrv];exact FR.mono m (hsk φ rfl) h1,by rw[hfp];exact h2⟩
 |cells ps=>
  obtain⟨id,cs,h1,h0,h2,h3⟩:=h;exact⟨id,cs,hrv.trans h1,by rw[hfp];exact h0,by rw[RD (hg id ((h0 id).2 rfl))];exact h2,h3.mono m hl (hs ps rfl)⟩
 |row t g=>
  cases g with
  |nil=>exact⟨hrv.trans h.1,by rw[hfp];exact h.2⟩
  |mk l=>
   obtain⟨id,els,h1,h0,h2,h3⟩:=h;exact⟨id,els,hrv.trans h1,by rw[hfp];exact h0,by rw[Rm (hg id ((h0 id).2 rfl))];exact h2,h3.mono m⟩
 |dom D x=>
  show D.R _ _ _ _ _;rw[hrv,hfp];exact D.mono m hg h
end
def Cx.push(Γ:Cx)(d:Nat)(φ:AY):Cx:=⟨(d,φ)::Γ.ts,Γ.ss⟩
def Cx.all(Γ:Cx)(p:AY→Prop):Prop:=(∀t φ,BP Γ.ts t=some φ→p φ)∧(∀k ps,AQ Γ.ss k=some (.cells ps)→ ∀q∈ps,p q.2)∧(∀k φ,(AQ Γ.ss k=some (.keep φ)∨AQ Γ.ss k=some (.ghost φ))→p φ)∧ ∀k sz els,AQ Γ.ss k=some (.rowk sz els)→p (.aggk els.flatten)
theorem Y5{ss:Ss}{j k:Nat}{S:Dj}(hk:k≠j):Bn ((j,S)::ss) k↔Bn ss k:=by simp only[Bn,AQ,t7 (iz hk)]
def Tw:Dj→Bool
 | .gone=>true
 | .ghost _=>true
 |_=>false
theorem live_self{ss:Ss}{j:Nat}{S:Dj}(hS:Tw S=false):Bn ((j,S)::ss) j:=by
 simp only[Bn,AQ,uc];cases S<;>first|(simp[Tw]at hS;done)|trivial
theorem Kz{ss:Ss}{j:Nat}{S:Dj}(h:AQ ss j=some S)(hS:Tw S=false):Bn ss j:=by
 simp only[Bn,h];cases S<;>first|(simp[Tw]at hS;done)|trivial
theorem GO{ss:Ss}{j:Nat}(h:AQ ss j=none): ¬Bn ss j:=by simp only[Bn,h];exact fun l=>l
theorem Uo(a b:A6):C7 (a++b)=max (C7 a) (C7 b):=by
 induction a with
 |nil=>simp[C7]
 |cons x a ih=>simp only[cd,C7,ih];omega
theorem IC{o:BU}{m:Nat}: ∀{l:A6} {i:Nat},C7 l≤m→DW o≤m→C7 (l.set i o)≤m
 |[],i,h1,h2=>by simpa using h1
 |x::l,0,h1,h2=>by simp only[jo,C7]at h1 ⊢;omega
 |x::l,i+1,h1,h2=>by
  simp only[j4,C7]at h1 ⊢;have:=IC (l:=l) (i:=i) (o:=o) (m:=m) (by omega) h2;omega
section
variable{E:QS}{Γ:Cx}{rv:Nat→AV}{fp:Fp}{f:Fr}{H:A6}
theorem B5.ltP(I:B5 E Γ rv fp f H): ∀i,Pf E Γ.ss fp H i→i<H.length:=fun _ h=>h.lt I.le
theorem B5.push(I:B5 E Γ rv fp f H){d:Nat}{φ:AY}{v:AV}(h:FR rv Γ.ss (Pf E Γ.ss fp H) H φ v):B5 E (Γ.push d φ) rv fp (put f (some d) v) H:=by
 refine⟨I.le,I.base,I.wf,I.fplt,I.rvlt,I.scal,I.inj,I.slots,?_,I.gh⟩;intro t ψ e;simp only[Cx.push,BP]at e;simp only[put,get]
 split at e
 ·rename_i hd;rw[t6 hd];cases e;exact h
 ·rename_i hd;rw[t7 hd];exact I.temps t ψ e
theorem B5.fr(I:B5 E Γ rv fp f H){f':Fr}(h: ∀t φ,BP Γ.ts t=some φ→get f' t=get f t):B5 E Γ rv fp f' H:=
 ⟨I.le,I.base,I.wf,I.fplt,I.rvlt,I.scal,I.inj,I.slots,fun t φ e=>by rw[h t φ e];exact I.temps t φ e,I.gh⟩
theorem B5.chgP(I:B5 E Γ rv fp f H){j:Nat}{S:Dj}{v:AV}{F:Nat→Prop}{G:A6}(hnk:Dw (AQ Γ.ss j)=false)(hS:Tw S=false)(hl:H.length≤G.length)(hG: ∀i,i<H.length→(Bn Γ.ss j→ ¬fp j i)→G[i]? =H[i]?)
  (hF: ∀i,F i→(Bn Γ.ss j∧fp j i)∨(H.length≤i∧i<G.length)) (hk:Bn Γ.ss j→v=rv j∨Γ.all (EP j)) (hw:C7 G≤G.length) (hv:ment v≤G.length) (hsc:Dw (some S)=true∨Am.scal v=true)
  (hs: ∀(rv':Nat→AV) (fp':Fp),rv' j=v→fp' j=F→(∀i,Pf E Γ.ss fp H i→Pf E ((j,S)::Γ.ss) fp' G i∧G[i]? =H[i]?)→(∀φ,(Bn Γ.ss j→v=rv j∨EP j φ)→XL rv rv' Γ.ss ((j,S)::Γ.ss) φ)→
   SR rv' fp' ((j,S)::Γ.ss) (Pf E ((j,S)::Γ.ss) fp' G) G j S):
  ∃rv' fp',rv' j=v∧(∀i,Pf E Γ.ss fp H i→Pf E ((j,S)::Γ.ss) fp' G i∧G[i]? =H[i]?)∧Bn ((j,S)::Γ.ss) j∧B5 E ⟨Γ.ts,(j,S)::Γ.ss⟩ rv' fp' f G:=by
 let rv':Nat→AV:=fun k=>if k=j then v else rv k
 let fp':Fp:=fun k=>if k=j then F else fp k
 have hrj:rv' j=v:=t6 rfl;have hfj:fp' j=F:=t6 rfl;have hr: ∀k,k≠j→rv' k=rv k:=fun k hk=>t7 hk;have hf: ∀k,k≠j→fp' k=fp k:=fun k hk=>t7 hk;have hlj:Bn ((j,S)::Γ.ss) j:=live_self hS;have hlv: ∀k,k≠j→(Bn ((j,S)::Γ.ss) k↔Bn Γ.ss k):=fun k hk=>Y5 hk;have hnot: ∀i,Pf E Γ.ss fp H i→Bn Γ.ss j→ ¬fp j i:=by
  rintro i (⟨h1,h2⟩|⟨_,_,h⟩) l e
  ·exact((I.fplt j i l e).2 h1).1 (E.pk i h2)
  ·exact h j l e
 have hP: ∀i,Pf E Γ.ss fp H i→Pf E ((j,S)::Γ.ss) fp' G i∧G[i]? =H[i]? :=by
  intro i h;refine⟨?_,hG i (h.lt I.le) (hnot i h)⟩;rcases h with h|⟨h1,h2,h3⟩
  ·exact .inl h
  ·refine .inr ⟨h1,by omega,fun k l e=> ?_⟩
   by_cases hkj:k=j
   ·subst hkj;rw[hfj]at e;rcases hF i e with ⟨l',e'⟩|⟨h4,_⟩
    ·exact h3 k l' e'
    ·omega
   ·rw[hf k hkj]at e;exact h3 k ((hlv k hkj).1 l) e
 have hsame: ∀φ,(Bn Γ.ss j→v=rv j∨EP j φ)→XL rv rv' Γ.ss ((j,S)::Γ.ss) φ:=by
  intro φ hφ k hkr l
  by_cases hkj:k=j
  ·subst hkj;rcases hφ l with h|h
   ·exact⟨⟨hlj,fun e=>by rw[hnk]at e;cases e⟩,hrj.trans h⟩
   ·exact absurd h hkr
  ·exact⟨⟨(hlv k hkj).2 l,fun e=>by simp only[AQ,t7 (iz hkj)];exact e⟩,hr k hkj⟩
 refine⟨rv',fp',hrj,hP,hlj,?_,?_,hw,?_,?_,?_,?_,?_,?_,?_⟩
 ·have:=I.le;omega
 ·intro i hi hK;have hnf:Bn Γ.ss j→ ¬fp j i:=fun l e=>((I.fplt j i l e).2 hi).1 hK;rw[hG i (by have:=I.le;omega) hnf];exact I.base i hi hK
 ·intro k i l e
  by_cases hkj:k=j
  ·subst hkj;rw[hfj]at e;rcases hF i e with ⟨l',e'⟩|⟨h1,h2⟩
   ·have:=I.fplt k i l' e';exact⟨by omega,this.2⟩
   ·exact⟨h2,fun h=>absurd h (by have:=I.le;omega)⟩
  ·rw[hf k hkj]at e;have:=I.fplt k i ((hlv k hkj).1 l) e;exact⟨by omega,this.2⟩
 ·intro k l
  by_cases hkj:k=j
  ·subst hkj;rw[hrj];exact hv
  ·rw[hr k hkj];have:=I.rvlt k ((hlv k hkj).1 l);omega
 ·intro k l
  by_cases hkj:k=j
  ·subst hkj;rw[hrj];exact hsc.imp (fun h=>by simp only[AQ,uc];exact h) id
  ·rw[hr k hkj];exact(I.scal k ((hlv k hkj).1 l)).imp (fun h=>by simp only[AQ,t7 (iz hkj)];exact h) id
 ·intro k k' i l l' e e'
  by_cases hkj:k=j<;>by_cases hkj':k'=j
  ·rw[hkj,hkj']
  ·subst hkj;rw[hfj]at e;rw[hf k' hkj']at e';rcases hF i e with ⟨l1,e1⟩|⟨h1,_⟩
   ·exact I.inj k k' i l1 ((hlv k' hkj').1 l') e1 e'
   ·have:=(I.fplt k' i ((hlv k' hkj').1 l') e').1;omega
  ·subst hkj';rw[hfj]at e';rw[hf k hkj]at e;rcases hF i e' with ⟨l1,e1⟩|⟨h1,_⟩
   ·exact I.inj k k' i ((hlv k hkj).1 l) l1 e e1
   ·have:=(I.fplt k i ((hlv k hkj).1 l) e).1;omega
  ·rw[hf k hkj]at e;rw[hf k' hkj']at e';exact I.inj k k' i ((hlv k hkj).1 l) ((hlv k' hkj').1 l') e e'
 ·intro k S' e;rw[AQ]at e
  split at e
  ·rename_i hkj;cases e;subst hkj;exact hs rv' fp' hrj hfj hP hsame
  ·rename_i hkj
   by_cases hg:Tw S'=true
   ·cases S'<;>first|trivial|(simp[Tw]at hg;done)
   ·have hlk:=Kz e (by simpa using hg);refine(I.slots k S' e).keep (hr k (iz hkj)) (hf k (iz hkj)) hP hl (fun i hi=>hG i (I.fplt k i hlk hi).1 fun l e'=>hkj (I.inj j k i l hlk e' hi)) (fun ps hps p hp=>hsame p.2 fun l=> ?_) (fun φ hφ=>hsame φ fun l=> ?_) fun sz els he=>hsame _ fun l=> ?_
    ·subst hps;exact(hk l).imp (fun h=>h) fun h=>h.2.1 k ps e p hp
    ·subst hφ;exact(hk l).imp (fun h=>h) fun h=>h.2.2.1 k φ (.inl e)
    ·subst he;exact(hk l).imp (fun h=>h) fun h=>h.2.2.2 k sz els e
 ·intro t φ e;exact(I.temps t φ e).mono hP (hsame φ fun l=>(hk l).imp (fun h=>h) fun h=>h.1 t φ e)
 ·intro k φ e;rw[AQ]at e
  split at e
  ·rename_i hkj;cases e;simp[Tw]at hS
  ·exact(I.gh k φ e).mono hP (hsame φ fun l=>(hk l).imp (fun h=>h) fun h=>h.2.2.1 k φ (.inr e))
theorem B5.chg(I:B5 E Γ rv fp f H){j:Nat}{S:Dj}{v:AV}{F:Nat→Prop}{G:A6}(hnk:Dw (AQ Γ.ss j)=false)(hS:Tw S=false)(hl:H.length≤G.length)(hG: ∀i,i<H.length→(Bn Γ.ss j→ ¬fp j i)→G[i]? =H[i]?)
  (hF: ∀i,F i→(Bn Γ.ss j∧fp j i)∨(H.length≤i∧i<G.length)) (hk:Bn Γ.ss j→v=rv j∨Γ.all (EP j)) (hw:C7 G≤G.length) (hv:ment v≤G.length) (hsc:Dw (some S)=true∨Am.scal v=true)
  (hs: ∀(rv':Nat→AV) (fp':Fp),rv' j=v→fp' j=F→(∀i,Pf E Γ.ss fp H i→Pf E ((j,S)::Γ.ss) fp' G i∧G[i]? =H[i]?)→(∀φ,(Bn Γ.ss j→v=rv j∨EP j φ)→XL rv rv' Γ.ss ((j,S)::Γ.ss) φ)→
   SR rv' fp' ((j,S)::Γ.ss) (Pf E ((j,S)::Γ.ss) fp' G) G j S):
  ∃rv' fp',rv' j=v∧Bn ((j,S)::Γ.ss) j∧B5 E ⟨Γ.ts,(j,S)::Γ.ss⟩ rv' fp' f G:=
 let ⟨rv',fp',h1,_,h2,h3⟩:=I.chgP hnk hS hl hG hF hk hw hv hsc hs
 ⟨rv',fp',h1,h2,h3⟩
theorem B5.more(I:B5 E Γ rv fp f H){j:Nat}{S:Dj}{v:AV}{o:BU}(hj: ¬Bn Γ.ss j)(hm:DW o≤H.length+1)(hS:Tw S=false)(hv:ment v≤H.length+1)(hsc:Am.scal v=true)
  (hr: ∀(rv':Nat→AV) (fp':Fp),rv' j=v→(∀i,fp' j i↔i=H.length)→(∀i,Pf E Γ.ss fp H i→Pf E ((j,S)::Γ.ss) fp' (H++[o]) i∧(H++[o])[i]? =H[i]?)→
   (∀φ,XL rv rv' Γ.ss ((j,S)::Γ.ss) φ)→SR rv' fp' ((j,S)::Γ.ss) (Pf E ((j,S)::Γ.ss) fp' (H++[o])) (H++[o]) j S):
  ∃rv' fp',rv' j=v∧Bn ((j,S)::Γ.ss) j∧B5 E ⟨Γ.ts,(j,S)::Γ.ss⟩ rv' fp' f (H++[o]):=
 I.chg (F:=fun i=>i=H.length) (by
   cases e:Dw (AQ Γ.ss j)with
   |false=>rfl
   |true=>exact absurd (NB e) hj) hS (by simp) (fun i hi _=>bq hi) (fun i hi=> .inr ⟨by omega,by simp;omega⟩) (fun l=>absurd l hj)
  (by rw[Uo];have:=I.wf;simp only[C7,an,ba,bu];omega) (by simpa using hv) (.inr hsc)
  fun rv' fp' h1 h2 hP hs=>hr rv' fp' h1 (fun i=>by rw[h2]) hP fun φ=>hs φ fun l=>absurd l hj
theorem B5.set(I:B5 E Γ rv fp f H){j id:Nat}{S:Dj}{v:AV}{o:BU}(hnk:Dw (AQ Γ.ss j)=false)(hl:Bn Γ.ss j)(hid: ∀i,fp j i↔i=id)(hm:DW o≤H.length)(hS:Tw S=false)(hv:ment v≤H.length)(hk:v=rv j∨Γ.all (EP j))
  (hsc:Dw (AQ Γ.ss j)=true∨Am.scal v=true)
  (hs: ∀(rv':Nat→AV) (fp':Fp),rv' j=v→(∀i,fp' j i↔i=id)→(∀i,Pf E Γ.ss fp H i→Pf E ((j,S)::Γ.ss) fp' (H.set id o) i∧(H.set id o)[i]? =H[i]?)→
   (∀φ,v=rv j∨EP j φ→XL rv rv' Γ.ss ((j,S)::Γ.ss) φ)→SR rv' fp' ((j,S)::Γ.ss) (Pf E ((j,S)::Γ.ss) fp' (H.set id o)) (H.set id o) j S):
  ∃rv' fp',rv' j=v∧Bn ((j,S)::Γ.ss) j∧B5 E ⟨Γ.ts,(j,S)::Γ.ss⟩ rv' fp' f (H.set id o):=
 I.chg (F:=fp j) hnk hS (by simp) (fun i _ hn=>d9 fun e=>hn hl ((hid i).2 e.symm)) (fun i hi=> .inl ⟨hl,hi⟩) (fun _=>hk) (by simpa using IC I.wf hm) (by simpa using hv) (hsc.elim (fun h=>by rw[hnk]at h;cases h) .inr)
  fun rv' fp' h1 h2 hP hs'=>hs rv' fp' h1 (fun i=>by rw[h2];exact hid i) hP fun φ h=>hs' φ fun _=>h
end
end
section
def WT(F:AY→AY):Dj→Dj
 | .cells ps=> .cells (ps.map fun p=>(p.1,F p.2))
 | .keep φ=> .keep (F φ)
 | .ghost φ=> .ghost (F φ)
 |s=>s
theorem Y9{F:AY→AY}(o:Option Dj):Dw (o.map (WT F))=Dw o:=by
 cases o with
 |none=>rfl
 |some S=>cases S<;>rfl
theorem YJ{F:AY→AY}: ∀{ts:Ts} {t:Nat},BP (ts.map fun p=>(p.1,F p.2)) t=(BP ts t).map F
 |[],_=>rfl
 |(u,φ)::r,t=>by
  simp only[bh,BP]
  split
  ·rfl
  ·exact YJ
theorem HM{F:AY→AY}: ∀{ss:Ss} {j:Nat},AQ (ss.map fun p=>(p.1,WT F p.2)) j=(AQ ss j).map (WT F)
 |[],_=>rfl
 |(u,φ)::r,t=>by
  simp only[bh,AQ]
  split
  ·rfl
  ·exact HM
theorem WV{F:AY→AY}{ss:Ss}{j:Nat}:Bn (ss.map fun p=>(p.1,WT F p.2)) j↔Bn ss j:=by
 simp only[Bn,HM];cases AQ ss j with
 |none=>exact q7
 |some S=>cases S<;>exact q7
theorem PR.map{rv rv':Nat→AV}{ss ss':Ss}{P Q:Nat→Prop}{H:A6}{F:AY→AY}: ∀{ps:List (Nat×AY)} {cs:List AV},(∀p∈ps,∀c,FC rv ss P H p.2 c→FC rv' ss' Q H (F p.2) c)→PR rv ss P H ps cs→
  PR rv' ss' Q H (ps.map fun p=>(p.1,F p.2)) cs
 |[],_,_,h=>h
 |(n,φ)::r,cs,s,⟨c,d,e,l,h,g⟩=>⟨c,d,e,l,s _ bg c h,PR.map (fun p hp=>s p (a8 _ hp)) g⟩
section
variable{E:QS}{Γ:Cx}{rv:Nat→AV}{fp:Fp}{f:Fr}{H:A6}
theorem Pf.same{ss ss':Ss}(h: ∀k,Bn ss' k→Bn ss k){i:Nat}:Pf E ss fp H i→Pf E ss' fp H i
 | .inl h=> .inl h
 | .inr ⟨h1,h2,h3⟩=> .inr ⟨h1,h2,fun j l=>h3 j (h j l)⟩
theorem B5.map(I:B5 E Γ rv fp f H){F:AY→AY}{ss':Ss}(hf: ∀k S,AQ ss' k=some S→S≠ .gone→ ∃S0,AQ Γ.ss k=some S0∧S=WT F S0)(hag: ∀l,F (.aggk l)= .aggk l)
  (hFR:(∀i,Pf E Γ.ss fp H i→Pf E ss' fp H i)→ ∀φ v,FR rv Γ.ss (Pf E Γ.ss fp H) H φ v→FR rv ss' (Pf E ss' fp H) H (F φ) v)
  (hFC:(∀i,Pf E Γ.ss fp H i→Pf E ss' fp H i)→ ∀φ c,FC rv Γ.ss (Pf E Γ.ss fp H) H φ c→FC rv ss' (Pf E ss' fp H) H (F φ) c):B5 E ⟨Γ.ts.map fun p=>(p.1,F p.2),ss'⟩ rv fp f H:=by
 have hlv: ∀k,Bn ss' k→Bn Γ.ss k:=by
  intro k l;simp only[Bn]at l;cases h:AQ ss' k with
  |none=>rw[h]at l;exact l.elim
  |some S=>
   rw[h]at l;have hg:S≠ .gone:=by rintro rfl;exact l
   obtain⟨S0,h0,rfl⟩:=hf k S h hg;exact Kz h0 (by cases S0<;>first|rfl|exact l.elim)
 have hP: ∀i,Pf E Γ.ss fp H i→Pf E ss' fp H i:=fun i=>Pf.same hlv;refine⟨I.le,I.base,I.wf,fun k i l e=>I.fplt k i (hlv k l) e,fun k l=>I.rvlt k (hlv k l),fun k l=>(I.scal k (hlv k l)).imp (fun h=> ?_) id,fun k k' i l l' e e'=>I.inj k k' i (hlv k l) (hlv k' l') e e',?_,?_,?_⟩
 ·simp only[Bn]at l;cases e:AQ ss' k with
  |none=>rw[e]at l;exact l.elim
  |some S=>
   rw[e]at l;obtain⟨S0,h0,rfl⟩:=hf k S e (by rintro rfl;exact l);rw[h0]at h;cases S0<;>first|rfl|exact h
 ·intro k S e
  by_cases hg:S= .gone
  ·subst hg;trivial
  ·obtain⟨S0,h0,rfl⟩:=hf k S e hg;have h:=I.slots k S0 h0;cases S0 with
   |gone=>trivial
   |cells ps=>
    obtain⟨id,cs,h1,h2,h3,h4⟩:=h;exact⟨id,cs,h1,h2,h3,h4.map fun p _ c=>hFC hP p.2 c⟩
   |row t g=>
    cases g with
    |nil=>exact h
    |mk l=>
     obtain⟨id,els,h1,h2,h3,h4⟩:=h;exact⟨id,els,h1,h2,h3,h4.mono fun i hi=>⟨hP i hi,rfl⟩⟩
   |dom D x=>exact D.mono (fun i hi=>⟨hP i hi,rfl⟩) (fun _ _=>rfl) h
   |keep φ=>
    obtain⟨h1,h2⟩:=h;exact⟨hFR hP φ _ h1,h2⟩
   |ghost φ=>trivial
   |rowk sz els=>
    obtain⟨g0,id,g1,g2,g3⟩:=h;have:=hFR hP (.aggk els.flatten) _ ⟨g0,rfl⟩;rw[hag]at this;exact⟨this.1,id,g1,g2,g3⟩
 ·intro t φ e;simp only[YJ]at e;obtain⟨ψ,h,rfl⟩:=aj.1 e;exact hFR hP ψ _ (I.temps t ψ h)
 ·intro k φ e;obtain⟨S0,h0,e'⟩:=hf k _ e (by simp);cases S0<;>simp only[WT,Dj.ghost.injEq,reduceCtorEq]at e';subst e';exact hFR hP _ _ (I.gh k _ h0)
theorem FR.weak{ss ss':Ss}{P Q:Nat→Prop}{φ:AY}{v:AV}(hP: ∀i,P i→Q i)(hl: ∀j,¬EP j φ→Bn ss j→Bn ss' j∧(Dw (AQ ss j)=true→Dw (AQ ss' j)=true))(h:FR rv ss P H φ v):FR rv ss' Q H φ v:=
 h.mono (fun i hi=>⟨hP i hi,rfl⟩) fun j hj l=>⟨hl j hj l,rfl⟩
theorem FC.weak{ss ss':Ss}{P Q:Nat→Prop}{φ:AY}{c:List AV}(hP: ∀i,P i→Q i)(hl: ∀j,¬EP j φ→Bn ss j→Bn ss' j∧(Dw (AQ ss j)=true→Dw (AQ ss' j)=true))(h:FC rv ss P H φ c):FC rv ss' Q H φ c:=
 h.mono (fun i hi=>⟨hP i hi,rfl⟩) (bc _) fun j hj l=>⟨hl j hj l,rfl⟩
def SX(j:Nat)(F:AY→AY):AY→AY
 | .own k=>if k=j then F (.own k)else .own k
 | .ep k i o=>if k=j then F (.ep k i o)else .ep k i o
 | .cp k o=>if k=j then F (.cp k o)else .cp k o
 | .oc k o s n=>if k=j then F (.oc k o s n)else .oc k o s n
 |φ=>φ
def Rp(j:Nat):AY→Prop
 | .kv k=>k≠j
 | .fnv _ js ks=>j∉js++ks
 | .aggk js=>j∉js
 | .tupk js=>j∉js
 |_=>True
theorem FR.noKeep{rv:Nat→AV}{ss:Ss}{P:Nat→Prop}{H:A6}{φ:AY}{v:AV}{j:Nat}(hj:Dw (AQ ss j)=false)(h:FR rv ss P H φ v):Rp j φ:=by
 have no: ∀{l:List Nat},Q1 ss l→j∉l:=fun h hm=>by have:=h j hm;rw[hj]at this;cases this
 cases φ<;>try exact trivial
 ·exact fun e=>no h.1 (by simp[e])
 ·exact no h.1
 ·exact no h.1
 ·exact no h.1
theorem SW{j:Nat}{F:AY→AY}{φ:AY}(h:EP j φ):SX j F φ=φ:=by
 cases φ<;>simp only[EP]at h<;>simp only[SX]<;>first|rfl|(rw[t7 h])
theorem Qe{j:Nat}{F:AY→AY}{φ:AY}(hk:Rp j φ)(h: ¬EP j φ):SX j F φ=F φ:=by
 cases φ<;>first
  |(simp only[EP,not_true_eq_false,ne_eq,jv]at h;simp only[SX,t6 h];done)
  |exact absurd hk h
  |exact absurd trivial h
def Cx.kill(Γ:Cx)(j:Nat):Cx:=⟨Γ.ts.map fun p=>(p.1,SX j (fun _=> .junk) p.2),Γ.ss.map fun p=>(p.1,WT (SX j fun _=> .junk) p.2)⟩
theorem QV(j:Nat)(φ:AY)(hk:Rp j φ):EP j (SX j (fun _=> .junk) φ):=by
 by_cases h:EP j φ
 ·rw[SW h];exact h
 ·rw[Qe hk h];trivial
theorem B5.noKeepT(I:B5 E Γ rv fp f H){j:Nat}(hj:Dw (AQ Γ.ss j)=false):Γ.all (Rp j):=by
 refine⟨fun t φ e=>FR.noKeep hj (I.temps t φ e),fun k ps e p hp=> ?_,fun k φ e=> ?_,fun k sz els e=> ?_⟩
 ·obtain⟨id,cs,_,_,_,h⟩:=I.slots k _ e;have key: ∀{ps:List (Nat×AY)} {cs:List AV},PR rv Γ.ss (Pf E Γ.ss fp H) H ps cs→ ∀p∈ps,Rp j p.2:=by
   intro ps
   induction ps with
   |nil=>intro cs _ p hp;cases hp
   |cons q ps ih=>
    rintro cs ⟨c,d,_,_,h1,h2⟩ p hp;rcases bm.1 hp with rfl|hp
    ·obtain⟨n,φ⟩:=p;cases φ<;>first|trivial|exact h1.elim|(obtain⟨v,_,h1⟩:=h1;exact FR.noKeep hj h1)
    ·exact ih h2 p hp
  exact key h p hp
 ·rcases e with e|e
  ·exact FR.noKeep hj (I.slots k _ e).1
  ·exact FR.noKeep hj (I.gh k φ e)
 ·have h0:=(I.slots k _ e).1;exact fun hm=>by have:=h0 j hm;rw[hj]at this;cases this
theorem yA(I:B5 E Γ rv fp f H){j:Nat}(hj:Dw (AQ Γ.ss j)=false):(Γ.kill j).all (EP j):=by
 have hn:=I.noKeepT hj;refine⟨fun t φ e=> ?_,fun k ps e p hp=> ?_,fun k φ e=> ?_,fun k sz els e=> ?_⟩
 ·simp only[Cx.kill,YJ]at e;obtain⟨ψ,h,rfl⟩:=aj.1 e;exact QV j ψ (hn.1 t ψ h)
 ·simp only[Cx.kill,HM]at e;obtain⟨S,h,e⟩:=aj.1 e;cases S<;>simp only[WT,Dj.cells.injEq,reduceCtorEq]at e;subst e;obtain⟨q,hq,rfl⟩:=eh.1 hp;exact QV j q.2 (hn.2.1 k _ h q hq)
 ·simp only[Cx.kill,HM]at e;rcases e with e|e
  ·obtain⟨S,h,e⟩:=aj.1 e;cases S<;>simp only[WT,Dj.keep.injEq,reduceCtorEq]at e;subst e;exact QV j _ (hn.2.2.1 k _ (.inl h))
  ·obtain⟨S,h,e⟩:=aj.1 e;cases S<;>simp only[WT,Dj.ghost.injEq,reduceCtorEq]at e;subst e;exact QV j _ (hn.2.2.1 k _ (.inr h))
 ·simp only[Cx.kill,HM]at e;obtain⟨S,h,e⟩:=aj.1 e;cases S<;>simp only[WT,Dj.rowk.injEq,reduceCtorEq]at e;obtain⟨rfl,rfl⟩:=e;exact hn.2.2.2 k _ _ h
theorem B5.kill(I:B5 E Γ rv fp f H)(j:Nat)(hj:Dw (AQ Γ.ss j)=false):B5 E (Γ.kill j) rv fp f H:=by
 have hl: ∀k,Bn Γ.ss k→Bn (Γ.kill j).ss k∧(Dw (AQ Γ.ss k)=true→Dw (AQ (Γ.kill j).ss k)=true):=fun k h=>⟨WV.2 h,fun e=>by rw[Cx.kill];simp only[HM,Y9];exact e⟩;refine I.map (F:=SX j fun _=> .junk) (fun k S e _=> ?_) (fun l=> ?_) (fun hP φ v h=> ?_) (fun hP φ c h=> ?_)
 ·rw[HM]at e;obtain⟨S0,h0,rfl⟩:=aj.1 e;exact⟨S0,h0,rfl⟩
 ·rfl
 ·by_cases hk:EP j φ
  ·rw[SW hk];exact h.weak hP fun k _=>hl k
  ·rw[Qe (FR.noKeep hj h) hk];trivial
 ·by_cases hk:EP j φ
  ·rw[SW hk];exact h.weak hP fun k _=>hl k
  ·have hk':Rp j φ:=by
    cases φ<;>first|trivial|exact h.elim|(obtain⟨v,_,h⟩:=h;exact FR.noKeep hj h)
   rw[Qe hk' hk];exact FC.men I.ltP I.rvlt h
def Cx.turn(Γ:Cx)(j:Nat)(F:AY→AY):Cx:=⟨Γ.ts.map fun p=>(p.1,SX j F p.2),(j, .gone)::Γ.ss.map fun p=>(p.1,WT (SX j F) p.2)⟩
theorem Pf.gone(I:B5 E Γ rv fp f H){j id:Nat}(hl:Bn Γ.ss j)(hid:fp j id){ss':Ss}(h: ∀k,Bn ss' k→k≠j∧Bn Γ.ss k)(hn:E.h.length≤id):Pf E ss' fp H id:=
 .inr ⟨hn,(I.fplt j id hl hid).1,fun k l e=>(h k l).1 (I.inj k j id (h k l).2 hl e hid)⟩
theorem Up{F:AY→AY}{ss:Ss}{j:Nat}: ∀k,Bn ((j, .gone)::ss.map fun p=>(p.1,WT F p.2)) k↔k≠j∧Bn ss k:=by
 intro k
 by_cases hk:k=j
 ·subst hk;simp only[Bn,AQ,uc,liveO,false_iff];exact fun h=>h.1 rfl
 ·rw[Y5 hk,WV];exact⟨fun h=>⟨hk,h⟩,fun h=>h.2⟩
theorem gone_keep{F:AY→AY}{ss:Ss}{j k:Nat}(hk:k≠j)(h:Dw (AQ ss k)=true):Dw (AQ ((j, .gone)::ss.map fun p=>(p.1,WT F p.2)) k)=true:=by
 simp only[AQ,t7 (iz hk),HM,Y9];exact h
theorem B5.turn(I:B5 E Γ rv fp f H){j:Nat}{F:AY→AY}(hj:Dw (AQ Γ.ss j)=false)
  (hF:(∀i,Pf E Γ.ss fp H i→Pf E (Γ.turn j F).ss fp H i)→ ∀φ v,¬EP j φ→FR rv Γ.ss (Pf E Γ.ss fp H) H φ v→FR rv (Γ.turn j F).ss (Pf E (Γ.turn j F).ss fp H) H (F φ) v∧FC rv (Γ.turn j F).ss (Pf E (Γ.turn j F).ss fp H) H (F φ) [v]):
  B5 E (Γ.turn j F) rv fp f H:=by
 have hlv: ∀k,Bn (Γ.turn j F).ss k↔k≠j∧Bn Γ.ss k:=Up;have keep: ∀φ,EP j φ→ ∀k,¬EP k φ→Bn Γ.ss k→Bn (Γ.turn j F).ss k∧(Dw (AQ Γ.ss k)=true→Dw (AQ (Γ.turn j F).ss k)=true):=fun φ h k hk l=>
  have hkj:k≠j:=fun e=>hk (e▸h)
  ⟨(hlv k).2 ⟨hkj,l⟩,gone_keep hkj⟩
 refine I.map (F:=SX j F) (fun k S e hg=> ?_) (fun _=>rfl) (fun hP φ v h=> ?_) (fun hP φ c h=> ?_)
 ·simp only[Cx.turn,AQ]at e
  split at e
  ·cases e;exact absurd rfl hg
  ·rw[HM]at e;obtain⟨S0,h0,rfl⟩:=aj.1 e;exact⟨S0,h0,rfl⟩
 ·by_cases hn:EP j φ
  ·rw[SW hn];exact h.weak hP (keep φ hn)
  ·rw[Qe (FR.noKeep hj h) hn];exact(hF hP φ v hn h).1
 ·by_cases hn:EP j φ
  ·rw[SW hn];exact h.weak hP (keep φ hn)
  ·have: ∃v,c=[v]∧FR rv Γ.ss (Pf E Γ.ss fp H) H φ v:=by
    cases φ<;>first|exact h|exact h.elim|exact absurd trivial hn
   obtain⟨v,rfl,h'⟩:=this;rw[Qe (FR.noKeep hj h') hn];exact(hF hP φ v hn h').2
theorem FR.one{ss:Ss}{P:Nat→Prop}(hi: ∀j,Bn ss j→ment (rv j)≤H.length){φ:AY}{v:AV}{j:Nat}(hp: ∀i,P i→i<H.length)(hn: ¬EP j φ)(h:FR rv ss P H φ v):Bv [v]≤H.length:=by
 simpa [Bv]using FR.men hp hi (by rintro rfl;exact hn trivial) h
def rowF(t:T)(g:GS t.α):AY→AY
 | .own _=> .val (T.sl t) g
 |_=> .junk
theorem B5.new(I:B5 E Γ rv fp f H){j:Nat}(hl:Bn Γ.ss j)(hn:kh j Ld=true)(i:Nat)(h:fp j i):E.h.length≤i:=by
 rcases ef i E.h.length with h'|h'
 ·have h1:=((I.fplt j i hl h).2 h').2;have h2:j<Ld:=by rw[kh,Nat.ble_eq]at hn;exact hn
  omega
 ·exact h'
theorem B5.frzRow(I:B5 E Γ rv fp f H){j:Nat}{t:T}{g:GS t.α}(hj:AQ Γ.ss j=some (.row t g))(hnb:kh j Ld=true):B5 E (Γ.turn j (rowF t g)) rv fp f H:=by
 have hl:Bn Γ.ss j:=Kz hj rfl;have hn:=I.new hl hnb;have hs:=I.slots j _ hj;have hlv: ∀k,Bn (Γ.turn j (rowF t g)).ss k↔k≠j∧Bn Γ.ss k:=Up;refine I.turn (by rw[hj];rfl) fun hP φ v hr h=> ?_;have hnk:Rp j φ:=FR.noKeep (by rw[hj];rfl) h;have hone:=FR.one I.rvlt I.ltP hr h;cases φ with
 |own k=>
  simp only[EP,ne_eq,jv]at hr;subst hr;obtain⟨_,rfl⟩:=h;have:ST t (Pf E (Γ.turn k (rowF t g)).ss fp H) H (rv k) g:=by
   cases g with
   |nil=>exact hs.1
   |mk l=>
    obtain⟨id,els,h1,h0,h2,h3⟩:=hs;rw[h1];have hk:=(h0 id).2 rfl;refine⟨Pf.gone I hl hk (fun k lk=>(hlv k).1 lk) (hn id hk),els,?_,h3.mono fun i hi=>⟨hP i hi,rfl⟩⟩;simp[EX,h2]
  exact⟨JY.2 this,_,rfl,this⟩
 |ep k i o=>exact⟨trivial,hone⟩
 |cp k o=>exact⟨trivial,hone⟩
 |oc k o s n=>exact⟨trivial,hone⟩
 |val t x=>exact absurd trivial hr
 |rp t x=>exact absurd trivial hr
 |tup l=>exact absurd trivial hr
 |junk=>exact absurd trivial hr
 |con c=>exact absurd trivial hr
 |kv k=>exact absurd hnk hr
 |fnv g js ks=>exact absurd hnk hr
 |aggk js=>exact absurd hnk hr
 |tupk js=>exact absurd hnk hr
def sC(t:T)(x:t.α):AY→AY
 | .cp _ 0=> .rp t x
 |_=> .junk
theorem B5.frzCell(I:B5 E Γ rv fp f H){j n:Nat}{t:T}{x:t.α}(hj:AQ Γ.ss j=some (.cells [(n, .val t x)]))(hnb:kh j Ld=true):B5 E (Γ.turn j (sC t x)) rv fp f H:=by
 have hl:Bn Γ.ss j:=Kz hj rfl;have hn:=I.new hl hnb;have hs:=I.slots j _ hj;have hlv: ∀k,Bn (Γ.turn j (sC t x)).ss k↔k≠j∧Bn Γ.ss k:=Up;refine I.turn (by rw[hj];rfl) fun hP φ v hr h=> ?_;have hnk:Rp j φ:=FR.noKeep (by rw[hj];rfl) h;have hone:=FR.one I.rvlt I.ltP hr h;cases φ with
 |cp k o=>
  simp only[EP,ne_eq,jv]at hr;subst hr;cases o with
  |succ o=>exact⟨trivial,hone⟩
  |zero=>
   obtain⟨_,id,e,rfl⟩:=h;obtain⟨id',cs,h1,h0,h2,c,d,h3,h4,h5,h6⟩:=hs;rw[e]at h1;cases h1;have h6':d=[]:=h6;subst h6';simp only[ei]at h3;subst h3;have hk:=(h0 id).2 rfl;have hp:=Pf.gone I hl hk (fun k lk=>(hlv k).1 lk) (hn id hk);have hlen:=t.len h5;have:jM t (Pf E (Γ.turn k (sC t x)).ss fp H) H (.ptr id 0) x:=by
    refine⟨hp,cs,0,by simp[place,h2],by omega,?_,fun m hm=>by simp only[ment];exact hm _ hp⟩;have:sub cs 0 t.sz=cs:=by simp only[sub,dq];exact au (by omega)
    rw[this];exact t.mono (fun i hi=>⟨hP i hi,rfl⟩) h5
   exact⟨this,_,rfl,this⟩
 |own k=>exact⟨trivial,hone⟩
 |oc k o s n=>exact⟨trivial,hone⟩
 |ep k i o=>exact⟨trivial,hone⟩
 |val t x=>exact absurd trivial hr
 |rp t x=>exact absurd trivial hr
 |tup l=>exact absurd trivial hr
 |junk=>exact absurd trivial hr
 |con c=>exact absurd trivial hr
 |kv k=>exact absurd hnk hr
 |fnv g js ks=>exact absurd hnk hr
 |aggk js=>exact absurd hnk hr
 |tupk js=>exact absurd hnk hr
def keepP:Option Dj→Prop
 |some (.keep _)=>True
 |_=>False
def Tt(ss:Ss):List Nat→Prop
 |[]=>True
 |j::r=>keepP (AQ ss j)∧Tt ss r
theorem Aa5{o:Option Dj}(h:keepP o):Dw o=true:=by
 unfold keepP at h
 split at h
 ·rfl
 ·exact h.elim
theorem Tr{ss:Ss}: ∀{l:List Nat},Tt ss l→Q1 ss l
 |[],_,j,hj=>by cases hj
 |k::l,h,j,hj=>by
  rcases bm.1 hj with rfl|hj
  ·exact Aa5 h.1
  ·exact Tr h.2 j hj
def OV(ss:Ss):AY→Prop
 | .own k=>Bn ss k
 | .ep k _ _=>Bn ss k
 | .cp k _=>Bn ss k
 | .oc k _ _ _=>Bn ss k
 | .kv k=>Tt ss [k]
 | .fnv _ js ks=>Tt ss (js++ks)
 | .aggk js=>Tt ss js
 | .tupk js=>Tt ss js
 |_=>True
def yU(ss:Ss):List (Nat×AY)→Prop
 |[]=>True
 |p::r=>OV ss p.2∧yU ss r
def refS(ss:Ss):Dj→Prop
 | .cells ps=>yU ss ps
 | .keep φ=>OV ss φ
 | .ghost φ=>OV ss φ
 | .rowk _ els=>Tt ss els.flatten
 |_=>True
def subT(Γ:Cx)(ss:Ss):Ts→Prop
 |[]=>True
 |(t,φ)::r=>(BP Γ.ts t=some φ∧OV ss φ)∧subT Γ ss r
def subS(Γ:Cx)(ss:Ss):Ss→Prop
 |[]=>True
 |(j,S)::r=>(AQ Γ.ss j=some S∧refS ss S)∧subS Γ ss r
def Sub(Γ' Γ:Cx):Prop:=subT Γ Γ'.ss Γ'.ts∧subS Γ Γ'.ss Γ'.ss
theorem mE{ss:Ss}: ∀{ts:Ts} {t:Nat} {φ:AY},subT Γ ss ts→BP ts t=some φ→BP Γ.ts t=some φ∧OV ss φ
 |[],_,_,_,e=>by simp[BP]at e
 |(u,ψ)::r,t,φ,h,e=>by
  simp only[BP]at e
  split at e
  ·rename_i hu;cases e;subst hu;exact h.1
  ·exact mE h.2 e
theorem Ka{ss:Ss}: ∀{l:Ss} {j:Nat} {S:Dj},subS Γ ss l→AQ l j=some S→AQ Γ.ss j=some S∧refS ss S
 |[],_,_,_,e=>by simp[AQ]at e
 |(u,ψ)::r,t,φ,h,e=>by
  simp only[AQ]at e
  split at e
  ·rename_i hu;cases e;subst hu;exact h.1
  ·exact Ka h.2 e
theorem eM{ss:Ss}{φ:AY}(h:OV ss φ): ∀j,¬EP j φ→Bn ss j∧(¬Rp j φ→Dw (AQ ss j)=true):=by
 intro j hj;have key: ∀{l:List Nat},Tt ss l→j∈l→Bn ss j∧Dw (AQ ss j)=true:=fun h hm=>⟨NB (Tr h j hm),Tr h j hm⟩;cases φ<;>first
  |exact absurd trivial hj
  |(simp only[EP,ne_eq,jv]at hj;subst hj;exact⟨h,fun hn=>absurd trivial hn⟩)
  |(simp only[EP,ne_eq,jv]at hj;exact⟨(key h (by simp[hj])).1,fun _=>(key h (by simp[hj])).2⟩)
  |exact⟨(key h (jv.1 hj)).1,fun _=>(key h (jv.1 hj)).2⟩
theorem eL{ss:Ss}: ∀{ps:List (Nat×AY)},yU ss ps→ ∀p∈ps,OV ss p.2
 |[],_,p,hp=>by cases hp
 |q::r,h,p,hp=>by
  rcases bm.1 hp with rfl|hp
  ·exact h.1
  ·exact eL h.2 p hp
theorem B5.sub{Γ':Cx}(I:B5 E Γ rv fp f H)(h:Sub Γ' Γ):B5 E Γ' rv fp f H:=by
 have hlv: ∀k,Bn Γ'.ss k→Bn Γ.ss k:=by
  intro k l;cases e:AQ Γ'.ss k with
  |none=>simp only[Bn,e]at l;exact l.elim
  |some S=>
   have:=(Ka h.2 e).1;simp only[Bn,e]at l;simp only[Bn,this];exact l
 have hP: ∀i,Pf E Γ.ss fp H i→Pf E Γ'.ss fp H i:=fun i=>Pf.same hlv;have hsame: ∀φ,OV Γ'.ss φ→XL rv rv Γ.ss Γ'.ss φ:=fun φ r j hj l=>by
  have hl:=(eM r j hj).1;refine⟨⟨hl,fun e=> ?_⟩,rfl⟩;cases e':AQ Γ'.ss j with
  |none=>simp only[Bn,e']at hl;exact hl.elim
  |some S=>rw[(Ka h.2 e').1]at e;exact e
 refine⟨I.le,I.base,I.wf,fun k i l e=>I.fplt k i (hlv k l) e,fun k l=>I.rvlt k (hlv k l),fun k l=>(I.scal k (hlv k l)).imp (fun e=> ?_) id,fun k k' i l l' e e'=>I.inj k k' i (hlv k l) (hlv k' l') e e',?_,?_,?_⟩
 ·cases e':AQ Γ'.ss k with
  |none=>simp only[Bn,e']at l;exact l.elim
  |some S=>rw[(Ka h.2 e').1]at e;exact e
 ·intro k S e;obtain⟨e',r⟩:=Ka h.2 e;refine(I.slots k S e').keep rfl rfl (fun i hi=>⟨hP i hi,rfl⟩) (bc _) (fun _ _=>rfl) (fun ps hps p hp=> ?_) (fun φ hφ=> ?_) fun sz els he=> ?_
  ·subst hps;exact hsame p.2 (eL r p hp)
  ·subst hφ;exact hsame φ r
  ·subst he;exact hsame (.aggk els.flatten) r
 ·intro t φ e;obtain⟨e',r⟩:=mE h.1 e;exact(I.temps t φ e').mono (fun i hi=>⟨hP i hi,rfl⟩) (hsame φ r)
 ·intro k φ e;obtain⟨e',r⟩:=Ka h.2 e;exact(I.gh k φ e').mono (fun i hi=>⟨hP i hi,rfl⟩) (hsame φ r)
end
end
section
def Jo{σ β:Type}(F:σ→Option (σ⊕β)):Nat→σ→Option β
 |0,_=>none
 |n+1,s=>(F s).bind fun
  | .inl s'=>Jo F n s'
  | .inr b=>some b
open Classical in
def iter{σ β:Type}(F:σ→Option (σ⊕β))(s:σ):Option β:=
 if h: ∃n,(Jo F n s).isSome=true then Jo F (fk h) s else none
section
variable{σ β:Type}{F:σ→Option (σ⊕β)}
theorem VF: ∀{n m:Nat} {s:σ} {b:β},n≤m→Jo F n s=some b→Jo F m s=some b
 |0,_,_,_,_,h=>by simp[Jo]at h
 |n+1,0,_,_,hm,_=>by omega
 |n+1,m+1,s,b,hm,h=>by
  simp only[Jo]at h ⊢;obtain⟨r,hr,h⟩:=ad.1 h;rw[hr];cases r with
  |inl s'=>exact VF (by omega) h
  |inr b'=>exact h
theorem Ry{n:Nat}{s:σ}{b:β}(h:Jo F n s=some b):iter F s=some b:=by
 unfold iter;have hx: ∃n,(Jo F n s).isSome=true:=⟨n,by rw[h];rfl⟩;rw[dif_pos hx];obtain⟨b',hb⟩:=bn.1 (m9 hx);have h1:=VF (fo n (fk hx)) h;have h2:=VF (fg n (fk hx)) hb;rw[hb,←h2,h1]
theorem YA{s:σ}{b:β}(h:iter F s=some b): ∃n,Jo F n s=some b:=by
 unfold iter at h
 split at h
 ·exact⟨_,h⟩
 ·cases h
theorem Fd{s s':σ}(h:F s=some (.inl s')):iter F s=iter F s':=by
 apply Option.ext;intro b;constructor
 ·intro e;obtain⟨n,hn⟩:=YA e;cases n with
  |zero=>simp[Jo]at hn
  |succ n=>simp only[Jo,h,aa]at hn;exact Ry hn
 ·intro e;obtain⟨n,hn⟩:=YA e;exact Ry (n:=n+1) (by simp only[Jo,h,aa];exact hn)
theorem CQ{s:σ}{b:β}(h:F s=some (.inr b)):iter F s=some b:=
 Ry (n:=1) (by simp only[Jo,h,aa])
end
inductive Kf where
 |seq (y:AC)
 |blk (id:Nat)
def I9(tb:CV):List Kf→Ex×Fr×A6→Option (Ex×Fr×A6)
 |[],r=>some r
 | .seq y::ks,(.normal,f,h)=>(Bp tb (C3 tb) y f h).bind (I9 tb ks)
 | .seq _::ks,r=>I9 tb ks r
 | .blk id::ks,(.exit id',f,h)=>if id'=id then I9 tb ks (.normal,f,h)else I9 tb ks (.exit id',f,h)
 | .blk _::ks,r=>I9 tb ks r
abbrev OC(ρ:Type):=QS→ρ→Ex→Fr→A6→Prop
structure Aa(tb:CV)(Γ:Cx)(c:AC)(ks:List Kf){ρ:Type}(Q:OC ρ) where
 m:Option ρ
 ok: ∀E f H,Rel E Γ f H→ ∀r,m=some r→ ∃e f' H',(Bp tb (C3 tb) c f H).bind (I9 tb ks)=some (e,f',H')∧Q E r e f' H'
def rg(q:Bool)(l:List Bh):AC:=if q then .regq l else .reg l
section
variable{tb:CV}{Γ:Cx}{ks:List Kf}{ρ:Type}{Q:OC ρ}
def Aa.of{c c':AC}{ks':List Kf}(h: ∀f H,(Bp tb (C3 tb) c' f H).bind (I9 tb ks')=(Bp tb (C3 tb) c f H).bind (I9 tb ks))(s:Aa tb Γ c ks Q):Aa tb Γ c' ks' Q:=
 ⟨s.m,fun E f H R r hr=>by rw[h];exact s.ok E f H R r hr⟩
def Aa.weak{c:AC}{Γ':Cx}(s:Aa tb Γ' c ks Q)(h:Sub Γ' Γ):Aa tb Γ c ks Q:=
 ⟨s.m,fun E f H ⟨rv,fp,I⟩ r hr=>s.ok E f H ⟨rv,fp,I.sub h⟩ r hr⟩
def Aa.turn{c:AC}{Γ':Cx}(h: ∀E f H,Rel E Γ f H→Rel E Γ' f H)(s:Aa tb Γ' c ks Q):Aa tb Γ c ks Q:=
 ⟨s.m,fun E f H R r hr=>s.ok E f H (h E f H R) r hr⟩
def Aa.frzRow{c:AC}(j:Nat){t:T}{g:GS t.α}(h:AQ Γ.ss j=some (.row t g))(hn:kh j Ld=true)(s:Aa tb (Γ.turn j (rowF t g)) c ks Q):Aa tb Γ c ks Q:=
 s.turn fun _ _ _ ⟨rv,fp,I⟩=>⟨rv,fp,I.frzRow h hn⟩
theorem DL{q:Bool}{f:Fr}{H:A6}:Bp tb (C3 tb) (rg q []) f H=some (.normal,f,H):=by
 cases q<;>simp[rg,Bp,ops,Jm]
def Ad{x y:AC}(s:Aa tb Γ x (.seq y::ks) Q):Aa tb Γ (.seq x y) ks Q:=
 s.of fun f H=>by
  simp only[Bp];cases Bp tb (C3 tb) x f H with
  |none=>rfl
  |some p=>obtain⟨e,f',H'⟩:=p;cases e<;>simp[I9]
def AF{id:Nat}{x:AC}(s:Aa tb Γ x (.blk id::ks) Q):Aa tb Γ (.blk id x) ks Q:=
 s.of fun f H=>by
  simp only[Bp];cases Bp tb (C3 tb) x f H with
  |none=>rfl
  |some p=>
   obtain⟨e,f',H'⟩:=p;cases e<;>simp[I9]
   split<;>simp
def Ac{q:Bool}{y:AC}(s:Aa tb Γ y ks Q):Aa tb Γ (rg q []) (.seq y::ks) Q:=
 s.of fun f H=>by simp[DL,I9]
def AX{q:Bool}{id:Nat}(s:Aa tb Γ (rg q []) ks Q):Aa tb Γ (rg q []) (.blk id::ks) Q:=
 s.of fun f H=>by simp[DL,I9]
def Aa.skip(s:Aa tb Γ (rg false []) ks Q):Aa tb Γ .skip ks Q:=
 s.of fun f H=>by simp[DL,Bp]
def Bi{id:Nat}{y:AC}(s:Aa tb Γ (.exit id) ks Q):Aa tb Γ (.exit id) (.seq y::ks) Q:=
 s.of fun f H=>by simp[Bp,I9]
def Bm{id:Nat}(s:Aa tb Γ (rg false []) ks Q):Aa tb Γ (.exit id) (.blk id::ks) Q:=
 s.of fun f H=>by simp[Bp,I9,DL]
def oU{id id':Nat}(h:fx id id'=false)(s:Aa tb Γ (.exit id) ks Q):Aa tb Γ (.exit id) (.blk id'::ks) Q:=
 s.of fun f H=>by
  have:id≠id':=by rintro rfl;simp[mc]at h
  simp[Bp,I9,this]
theorem eE{f:Fr}{H:A6}: ∀ks:List Kf,I9 tb ks (.ret,f,H)=some (.ret,f,H)
 |[]=>rfl
 | .seq _::ks=>by simp[I9,eE ks]
 | .blk _::ks=>by simp[I9,eE ks]
def C4(tb:CV)(Γ:Cx)(a:AO)(φ:AY):Prop:= ∀E rv fp f H,B5 E Γ rv fp f H→FR rv Γ.ss (Pf E Γ.ss fp H) H φ (eval tb f a)
def EG(tb:CV)(Γ:Cx)(o:GI){β:Type}(a:Option β)(φ:β→AY):Prop:=
 ∀E rv fp f H,B5 E Γ rv fp f H→ ∀b,a=some b→ ∃v u,BA tb (C3 tb) (eval tb f) H o=some (v,u)∧u.getD H=H∧FR rv Γ.ss (Pf E Γ.ss fp H) H (φ b) v
theorem EM{q:Bool}{d:Option Nat}{o:GI}{l:List Bh}{f:Fr}{H:A6}{v:AV}{u:Option A6}(h:BA tb (C3 tb) (eval tb f) H o=some (v,u))(hu:u.getD H=H):
  Bp tb (C3 tb) (rg q (⟨d,none,o⟩::l)) f H=Bp tb (C3 tb) (rg q l) (put f d v) H:=by
 cases q<;>simp[rg,Bp,ops,Jm,wanted,h,hu]
theorem Mc{d:Option Nat}{o:GI}{l:List Bh}{f:Fr}{H:A6}{v:AV}{u:Option A6}(h:BA tb (C3 tb) (eval tb f) H o=some (v,u)):
  Bp tb (C3 tb) (rg false (⟨d,none,o⟩::l)) f H=Bp tb (C3 tb) (rg false l) (put f d v) (u.getD H):=by
 simp[rg,Bp,ops,wanted,h]
def Aa.op{q:Bool}{d:Nat}{o:GI}{l:List Bh}{β:Type}{a:Option β}{φ:β→AY}(h:EG tb Γ o a φ)(k:(b:β)→Aa tb (Γ.push d (φ b)) (rg q l) ks Q):Aa tb Γ (rg q (⟨some d,none,o⟩::l)) ks Q:=
 ⟨a.bind fun b=>(k b).m,fun E f H ⟨rv,fp,I⟩ r hr=>by
  obtain⟨b,hb,hr⟩:=ad.1 hr;obtain⟨v,u,h1,h2,h3⟩:=h E rv fp f H I b hb;obtain⟨e,f',H',h4,h5⟩:=(k b).ok E (put f (some d) v) H ⟨rv,fp,I.push h3⟩ r hr;exact⟨e,f',H',by rw[EM h1 h2];exact h4,h5⟩⟩
def Ah{q:Bool}{d:Nat}{o:GI}{l:List Bh}{φ:AY}(h:EG tb Γ o (some ()) fun _=>φ)(k:Aa tb (Γ.push d φ) (rg q l) ks Q):Aa tb Γ (rg q (⟨some d,none,o⟩::l)) ks Q:=
 ⟨k.m,fun E f H ⟨rv,fp,I⟩ r hr=>by
  obtain⟨v,u,h1,h2,h3⟩:=h E rv fp f H I () rfl;obtain⟨e,f',H',h4,h5⟩:=k.ok E (put f (some d) v) H ⟨rv,fp,I.push h3⟩ r hr;exact⟨e,f',H',by rw[EM h1 h2];exact h4,h5⟩⟩
def An{q:Bool}{d:Nat}{o:GI}{l:List Bh}{t:T}{x:t.α}(h:EG tb Γ o (some ()) fun _=> .val t x)(k:(y:t.α)→Aa tb (Γ.push d (.val t y)) (rg q l) ks Q):Aa tb Γ (rg q (⟨some d,none,o⟩::l)) ks Q:=
 Ah h (k x)
def Aa.opr{q:Bool}{d:Nat}{o:GI}{l:List Bh}{t:T}{x:t.α}(h:EG tb Γ o (some ()) fun _=> .rp t x)(k:(y:t.α)→Aa tb (Γ.push d (.rp t y)) (rg q l) ks Q):Aa tb Γ (rg q (⟨some d,none,o⟩::l)) ks Q:=
 Ah h (k x)
def UP(tb:CV)(Γ:Cx)(d:Option Nat)(o:GI){β:Type}(a:Option β)(Γ':β→Cx):Prop:=
 ∀E rv fp f H,B5 E Γ rv fp f H→ ∀b,a=some b→ ∃v u,BA tb (C3 tb) (eval tb f) H o=some (v,u)∧ ∃rv' fp',B5 E (Γ' b) rv' fp' (put f d v) (u.getD H)
def B2{d:Option Nat}{o:GI}{l:List Bh}{β:Type}{a:Option β}{Γ':β→Cx}(h:UP tb Γ d o a Γ')(k:(b:β)→Aa tb (Γ' b) (rg false l) ks Q):Aa tb Γ (rg false (⟨d,none,o⟩::l)) ks Q:=
 ⟨a.bind fun b=>(k b).m,fun E f H ⟨rv,fp,I⟩ r hr=>by
  obtain⟨b,hb,hr⟩:=ad.1 hr;obtain⟨v,u,h1,rv',fp',h3⟩:=h E rv fp f H I b hb;obtain⟨e,f',H',h4,h5⟩:=(k b).ok E _ _ ⟨rv',fp',h3⟩ r hr;exact⟨e,f',H',by rw[Mc h1];exact h4,h5⟩⟩
def Aa.stop{c:AC}:Aa tb Γ c ks Q:=⟨Option.none,fun _ _ _ _ _ h=>(by cases h)⟩
def Aa.scope{x:AC}(s:Aa tb Γ x ks Q):Aa tb Γ (.scope x) ks Q:=Aa.of (c:=x) (fun f H=>by simp only[Bp]) s
def J2{c:AC}{τ:Type}(Γj:τ→Cx)(k:(p:τ)→Aa tb (Γj p) (rg false []) ks Q)(main:((p:τ)→Aa tb (Γj p) (rg false []) ks Q)→Aa tb Γ c ks Q):Aa tb Γ c ks Q:=main k
theorem FW{P:Nat→Prop}{H:A6}{v:AV}{x:Bool}:T.b.V P H v x↔v= .b x:=TS
theorem BZ{k:IntKind}{P:Nat→Prop}{H:A6}{v:AV}{x:Int}:(T.int k).V P H v x↔v= .i k x:=TS
theorem Ek{P:Nat→Prop}{H:A6}{v:AV}{x:AP}:Au.V P H v x↔v= .s x:=TS
theorem Zk{P:Nat→Prop}{H:A6}{v:AV}{x:UInt8}:T.u8.V P H v x↔v= .i .u8 x.toNat:=TS
theorem sK{P:Nat→Prop}{H:A6}{v:AV}{x:UInt16}:T.u16.V P H v x↔v= .i .u16 x.toNat:=TS
theorem sJ{P:Nat→Prop}{H:A6}{v:AV}{x:UInt32}:T.u32.V P H v x↔v= .i .u32 x.toNat:=TS
theorem sI{P:Nat→Prop}{H:A6}{v:AV}{x:UInt64}:T.u64.V P H v x↔v= .i .u64 x.toNat:=TS
def Aa.cond{a:AO}{b:Bool}{x y:AC}(h:C4 tb Γ a (.val T.b b))(s:Aa tb Γ x ks Q)(s':Aa tb Γ y ks Q):Aa tb Γ (.cond a x y) ks Q:=
 ⟨if b=true then s.m else s'.m,fun E f H ⟨rv,fp,I⟩ r hr=>by
  have hv:=FW.1 (h E rv fp f H I);cases b with
  |true=>
   obtain⟨e,f',H',h4,h5⟩:=s.ok E f H ⟨rv,fp,I⟩ r (by simpa using hr);exact⟨e,f',H',by simp only[Bp,hv,uc];exact h4,h5⟩
  |false=>
   obtain⟨e,f',H',h4,h5⟩:=s'.ok E f H ⟨rv,fp,I⟩ r (by simpa using hr);exact⟨e,f',H',by simp only[Bp,hv,ah,ud];exact h4,h5⟩⟩
def xW(tb:CV){σ τ:Type}(Γl:σ→Cx)(Γx:τ→Cx)(id:Nat)(ks:List Kf)(Q:OC ρ):OC (σ⊕(τ⊕ρ)):=fun E r e f H=>
 match r with
 | .inl s=>e= .normal∧Rel E (Γl s) f H
 | .inr (.inl p)=>e= .exit id∧Rel E (Γx p) f H
 | .inr (.inr r)=>e≠ .normal∧ ∃e' f' H',I9 tb ks (e,f,H)=some (e',f',H')∧Q E r e' f' H'
theorem fG: ∀{l:List Nat} {f:Fr} {t:Nat},t∈l→get (keepL l f) t=get f t
 |u::l,f,t,h=>by
  simp only[keepL,bh,get]
  by_cases e:u=t
  ·subst e;rw[t6 rfl]
  ·rw[t7 e];rcases bm.1 h with e'|h
   ·exact absurd e'.symm e
   ·exact fG h
def liveT(l:List Nat)(ts:Ts):Bool:=ts.all fun p=>l.any (fx p.1)
theorem fC{l:List Nat}: ∀{ts:Ts} {t:Nat} {φ:AY},liveT l ts=true→BP ts t=some φ→t∈l
 |[],_,_,_,e=>by simp[BP]at e
 |(u,ψ)::r,t,φ,h,e=>by
  simp only[liveT,fy,af]at h;simp only[BP]at e
  split at e
  ·rename_i hu;subst hu;obtain⟨x,hx,hb⟩:=jp.1 h.1;have hb':u=x:=cm hb;exact hb'▸hx
  ·exact fC h.2 e
theorem Rel.keep{E:QS}{f:Fr}{H:A6}{l:List Nat}(h:liveT l Γ.ts=true):Rel E Γ f H→Rel E Γ (keepL l f) H
 |⟨rv,fp,I⟩=>⟨rv,fp,I.fr fun _ _ e=>fG (fC h e)⟩
def Aa.loop{σ τ:Type}{lv:List Nat}{x:AC}{id:Nat}(Γl:σ→Cx)(Γx:τ→Cx)(s0:σ)(h0:Sub (Γl s0) Γ)(hl: ∀s,liveT lv (Γl s).ts=true)
  (body:(s:σ)→Aa tb (Γl s) x [] (xW tb Γl Γx id ks Q)) (k:(p:τ)→Aa tb (Γx p) (.exit id) ks Q):Aa tb Γ (.loop lv x) ks Q:=
 ⟨(iter (fun s=>(body s).m) s0).bind (bd (fun p=>(k p).m) some),fun E f H ⟨rv,fp,I⟩ r hr=>by
  obtain⟨b,hb,hr⟩:=ad.1 hr;obtain⟨n,hn⟩:=YA hb;have key: ∀n s f H,Rel E (Γl s) f H→Jo (fun s=>(body s).m) n s=some b→ ∃e f' H',aT (MW lv (Bp tb (C3 tb) x)) n f H=some (e,f',H')∧e≠ .normal∧xW tb Γl Γx id ks Q E (.inr b) e f' H':=by
   intro n
   induction n with
   |zero=>intro s f H _ h;simp[Jo]at h
   |succ n ih=>
    intro s f H R h;simp only[Jo]at h;obtain⟨r1,h1,h⟩:=ad.1 h;obtain⟨e,f',H',h2,h3⟩:=(body s).ok E (keepL lv f) H (R.keep (hl s)) r1 h1;have h2':Bp tb (C3 tb) x (keepL lv f) H=some (e,f',H'):=by
     obtain⟨p,hp,h2⟩:=ad.1 h2;rw[hp,←h2];rfl
    cases r1 with
    |inl s'=>
     obtain⟨rfl,R'⟩:=h3;obtain⟨e2,f2,H2,h4,h5⟩:=ih s' (keepL lv f') H' (R'.keep (hl s')) h;exact⟨e2,f2,H2,by simp only[aT,MW,h2',ak];exact h4,h5⟩
    |inr b'=>
     simp only[ae]at h;subst h;have hne:e≠ .normal:=by
      cases b' with
      |inl p=>rw[h3.1];simp
      |inr r=>exact h3.1
     refine⟨e,f',H',?_,hne,h3⟩;simp only[aT,MW,h2',ak];cases e<;>first|exact absurd rfl hne|rfl
  obtain⟨e,f1,H1,h1,h2,h3⟩:=key n s0 f H ⟨rv,fp,I.sub h0⟩ hn;have hlp:Bp tb (C3 tb) (.loop lv x) f H=some (e,f1,H1):=by
   simp only[Bp];exact lp_of _ h1
  rw[hlp];cases b with
  |inr r'=>
   simp only[pl,ae]at hr;subst hr;exact h3.2
  |inl p=>
   obtain⟨rfl,R⟩:=h3;simp only[dw]at hr;obtain⟨e2,f2,H2,h4,h5⟩:=(k p).ok E f1 H1 R r hr;exact⟨e2,f2,H2,by simpa [Bp]using h4,h5⟩⟩
def Aa.next{q:Bool}{σ τ:Type}{Γl:σ→Cx}{Γx:τ→Cx}{id:Nat}(s:σ)(h:Sub (Γl s) Γ):Aa tb Γ (rg q []) [] (xW tb Γl Γx id ks Q):=
 ⟨some (.inl s),fun E f H ⟨rv,fp,I⟩ r hr=>by
  cases hr;exact⟨.normal,f,H,by simp[DL,I9],rfl,rv,fp,I.sub h⟩⟩
def BF{σ τ:Type}{Γl:σ→Cx}{Γx:τ→Cx}{id:Nat}(p:τ)(h:Sub (Γx p) Γ):Aa tb Γ (.exit id) [] (xW tb Γl Γx id ks Q):=
 ⟨some (.inr (.inl p)),fun E f H ⟨rv,fp,I⟩ r hr=>by
  cases hr;exact⟨.exit id,f,H,by simp[Bp,I9],rfl,rv,fp,I.sub h⟩⟩
def TT(s:Aa tb Γ .ret [] Q):Aa tb Γ .ret ks Q:=
 s.of fun f H=>by simp[Bp,eE,I9]
def Bq{σ τ:Type}{Γl:σ→Cx}{Γx:τ→Cx}{id:Nat}{ks':List Kf}(s:Aa tb Γ .ret ks Q):Aa tb Γ .ret ks' (xW tb Γl Γx id ks Q):=
 TT ⟨s.m.map fun r=> .inr (.inr r),fun E f H R r hr=>by
  obtain⟨r',h1,rfl⟩:=aj.1 hr;obtain⟨e,f',H',h2,h3⟩:=s.ok E f H R r' h1;refine⟨.ret,f,H,by simp[Bp,I9],by simp,e,f',H',?_,h3⟩;simpa [Bp]using h2⟩
end
end
section
def BG:List T→Type
 |[]=>Unit
 |[a]=>a.α
 |a::b::r=>a.α×BG (b::r)
def Vl(P:Nat→Prop)(H:A6):(l:List T)→List AV→BG l→Prop
 |[],vs,_=>vs=[]
 |[a],vs,x=> ∃v,vs=[v]∧a.V P H v x
 |a::b::r,vs,x=> ∃v q,vs=v::q∧a.V P H v x.1∧Vl P H (b::r) q x.2
def OutR(P:Nat→Prop)(H:A6)(l:List T)(v:AV)(x:BG l):Prop:= ∃vs,v=Gg vs∧Vl P H l vs x
structure CallR(tb:CV)(g:Nat)(P:Nat→Prop)(h:A6)(args:List AV)(Rs:List T)(r:BG Rs):Prop where
 call: ∃v u,BD tb (C3 tb) h g args=some (v,u)∧u.getD h=h∧OutR P h Rs v r
def Spec(tb:CV)(g:Nat)(As Rs:List T)(F:BG As→Option (BG Rs)):Prop:=
 ∀(P:Nat→Prop) (h:A6) (args:List AV) (xs:BG As),(∀i,P i→i<h.length)→C7 h≤h.length→Vl P h As args xs→ ∀r,F xs=some r→CallR tb g P h args Rs r
section
variable{tb:CV}
theorem Vl.mono{P Q:Nat→Prop}{H G:A6}(m: ∀i,P i→Q i∧G[i]? =H[i]?): ∀{l:List T} {vs:List AV} {x:BG l},Vl P H l vs x→Vl Q G l vs x
 |[],_,_,h=>h
 |[a],_,_,⟨v,e,h⟩=>⟨v,e,h.mono m⟩
 |_::_::_,_,_,⟨v,q,e,h,g⟩=>⟨v,q,e,h.mono m,Vl.mono m g⟩
theorem Vl.frz{P Q:Nat→Prop}{H:A6}{n:Nat}(hw:C7 (H.take n)≤n)(hp: ∀i,P i→i<n→Q i): ∀{l:List T} {vs:List AV} {x:BG l},(∀t∈l,t.dep≤11)→Vl P H l vs x→
  ∃vs',rB H n vs=some vs'∧Vl Q (H.take n) l vs' x
 |[],_,_,_,h=>by rw[show _=[]from h];exact⟨[],rfl,rfl⟩
 |[a],_,_,hd,⟨v,e,h⟩=>by
  obtain⟨v',e',r⟩:=h.frz (d:=11) (hd a bg) (by omega) hw hp;exact⟨[v'],by rw[e];simp[rB,DU,e'],v',rfl,r⟩
 |a::b::l,_,_,hd,⟨v,q,e,h,g⟩=>by
  obtain⟨v',e',r⟩:=h.frz (d:=11) (hd a bg) (by omega) hw hp;obtain⟨q',e2,r2⟩:=Vl.frz hw hp (fun t ht=>hd t (a8 _ ht)) g;refine⟨v'::q',?_,v',q',rfl,r,r2⟩;have e2':DU (Am.frz H n 12) q=some q':=e2;rw[e];simp[rB,DU,e',e2']
def ResR(E:QS)(Rs:List T)(res:List KZ)(r:BG Rs)(f:Fr)(H:A6):Prop:=
 ∃P vs,(∀i,P i→i<E.h.length→E.P0 i)∧results f H res=some vs∧Vl P H Rs vs r∧E.h.length≤H.length∧ ∀i,i<E.h.length→E.K i→H[i]? =E.h[i]?
def QRes(Rs:List T)(res:List KZ):OC (BG Rs):=fun E r e f H=>(e= .ret∨e= .normal)∧ResR E Rs res r f H
def ResF(Γ:Cx)(a:KZ)(t:T)(x:t.α):Prop:=
 ∀E rv fp f H,B5 E Γ rv fp f H→ ∀r vs,results f H r=some vs→ ∃v,results f H (a::r)=some (v::vs)∧t.V (Pf E Γ.ss fp H) H v x
inductive lT(Γ:Cx):(Rs:List T)→List KZ→BG Rs→Type 1 where
 |nil:lT Γ [] [] ()
 |one {a:KZ} {t:T} {x:t.α}:ResF Γ a t x→lT Γ [t] [a] x
 |cons {a:KZ} {t u:T} {x:t.α} {Rs:List T} {l:List KZ} {y:BG (u::Rs)}:ResF Γ a t x→lT Γ (u::Rs) l y→lT Γ (t::u::Rs) (a::l) (x,y)
theorem lT.spec{Γ:Cx}{E:QS}{rv:Nat→AV}{fp:Fp}{f:Fr}{H:A6}(I:B5 E Γ rv fp f H): ∀{Rs:List T} {l:List KZ} {y:BG Rs},lT Γ Rs l y→ ∃vs,results f H l=some vs∧Vl (Pf E Γ.ss fp H) H Rs vs y
 |_,_,_, .nil=>⟨[],rfl,rfl⟩
 |_,_,_, .one h=>by
  obtain⟨v,h1,h2⟩:=h E rv fp f H I [] [] rfl;exact⟨[v],h1,v,rfl,h2⟩
 |_,_,_, .cons h r=>by
  obtain⟨vs,g1,g2⟩:=r.spec I;obtain⟨v,h1,h2⟩:=h E rv fp f H I _ vs g1;exact⟨v::vs,h1,v,vs,rfl,h2,g2⟩
def Aa.ret{Γ:Cx}{ks:List Kf}{Rs:List T}{res:List KZ}{r:BG Rs}(h:lT Γ Rs res r):Aa tb Γ .ret ks (QRes Rs res):=
 TT ⟨some r,fun E f H ⟨rv,fp,I⟩ r' hr=>by
  cases hr;obtain⟨vs,h1,h2⟩:=h.spec I;refine⟨.ret,f,H,by simp[Bp,I9], .inl rfl,Pf E Γ.ss fp H,vs,?_,h1,h2,I.le,I.base⟩;rintro i (h|h) hi
  ·exact h.2
  ·omega⟩
def Aa.fin{Γ:Cx}{q:Bool}{Rs:List T}{res:List KZ}{r:BG Rs}(h:lT Γ Rs res r):Aa tb Γ (rg q []) [] (QRes Rs res):=
 ⟨some r,fun E f H ⟨rv,fp,I⟩ r' hr=>by
  cases hr;obtain⟨vs,h1,h2⟩:=h.spec I;refine⟨.normal,f,H,by simp[DL,I9], .inr rfl,Pf E Γ.ss fp H,vs,?_,h1,h2,I.le,I.base⟩;rintro i (h|h) hi
  ·exact h.2
  ·omega⟩
theorem A7{Γ:Cx}{n:Nat}{t:T}{x:t.α}(h:BP Γ.ts n=some (.val t x)):ResF Γ (.tmp n) t x:=by
 intro E rv fp f H I r vs hr;exact⟨_,by simp[results,hr],I.temps n _ h⟩
def Vk:(l:List T)→Nat→BG l→Ts
 |[],_,_=>[]
 |[a],k,x=>[(k, .val a x)]
 |a::b::r,k,x=>(k, .val a x.1)::Vk (b::r) (k+1) x.2
theorem Zf{P:Nat→Prop}{H:A6}{rv:Nat→AV}{ss:Ss}: ∀{l:List T} {vs:List AV} {k:Nat} {x:BG l},Vl P H l vs x→ ∀t φ,BP (Vk l k x) t=some φ→k≤t∧FR rv ss P H φ (get ((vs.zipIdx k).map fun p=>(p.2,p.1)) t)
 |[],_,_,_,_,t,φ,e=>by simp[Vk,BP]at e
 |[a],_,k,x,⟨v,rfl,h⟩,t,φ,e=>by
  simp only[Vk,BP]at e
  split at e
  ·rename_i hk;cases e;subst hk;exact⟨bc _,by simpa [get,FR]using h⟩
  ·cases e
 |a::b::r,_,k,x,⟨v,q,rfl,h,g⟩,t,φ,e=>by
  simp only[Vk,BP]at e;simp only[kn,bh,get]
  split at e
  ·rename_i hk;cases e;subst hk;exact⟨bc _,by rw[t6 rfl];exact h⟩
  ·rename_i hk;obtain⟨h1,h2⟩:=Zf g t φ e;exact⟨by omega,by rw[t7 hk];exact h2⟩
theorem Vl.length{P:Nat→Prop}{H:A6}: ∀{l:List T} {vs:List AV} {x:BG l},Vl P H l vs x→vs.length=l.length
 |[],_,_,h=>by rw[show _=[]from h];rfl
 |[a],_,_,⟨v,rfl,h⟩=>rfl
 |a::b::r,_,_,⟨v,q,rfl,h,g⟩=>by simp[Vl.length g]
theorem Spec.of{g:Nat}{fn:Cv}{As Rs:List T}(hf:tb.prim g=none∧tb.fns g=some fn)(hw:fn.warm=false)(hn:fn.np=As.length)(hd:Rs.all (fun t=>ou t.dep 11)=true)
  (s:(xs:BG As)→Aa tb ⟨Vk As 0 xs,[]⟩ fn.body [] (QRes Rs fn.res)):Spec tb g As Rs fun xs=>(s xs).m:=by
 intro P h args xs hP hwf hargs r hr
 let E:QS:=⟨h,P,fun _=>True,hP,fun _ _=>trivial,fun _=> .junk⟩
 have hPf: ∀i,P i→Pf E [] (fun _ _=>False) h i∧h[i]? =h[i]? :=fun i hi=>⟨.inl ⟨hP i hi,hi⟩,rfl⟩;have I:B5 E ⟨Vk As 0 xs,[]⟩ (fun _=> .junk) (fun _ _=>False) (args.zipIdx.map fun p=>(p.2,p.1)) h:=by
  refine⟨bc _,fun _ _ _=>rfl,hwf,fun j id l=>l.elim,fun j l=>l.elim,fun j l=>l.elim,fun j k id l=>l.elim,fun j S e=>by simp[AQ]at e,fun t φ e=> ?_,fun j φ e=>by simp[AQ]at e⟩;exact(Zf (hargs.mono hPf) t φ e).2
 obtain⟨e,f',H',h1,he,P',vs,hP',h2,h3,hle,hbase⟩:=(s xs).ok E _ h ⟨_,_,I⟩ r hr;have h4:H'.take h.length=h:=by
  apply ew;intro i;rw[dn]
  split
  ·rename_i hi;exact hbase i hi trivial
  ·rename_i hi;rw[dk (by omega)]
 have h1':Bp tb (C3 tb) fn.body (args.zipIdx.map fun p=>(p.2,p.1)) h=some (e,f',H'):=by
  obtain⟨p,hp,h1⟩:=ad.1 h1;rw[hp,←h1];rfl
 have hwf':C7 (H'.take h.length)≤h.length:=by rw[h4];exact hwf
 obtain⟨vs',h5,h6⟩:=h3.frz hwf' hP' fun t ht=>gz (cb.1 hd t ht);have hbody:body tb (C3 tb) fn args h=some (Gg vs',some h):=by
  have hnp:args.length=fn.np:=by rw[hn,hargs.length]
  simp only[body,hnp,uc,h1',aa];have hq:Yx fn.warm h.length H' vs=(Gg vs',some h):=by
   rw[hw];simp only[Yx,Z9,h5];rw[t6 hwf',h4]
  rcases he with rfl|rfl
  ·simp[h2,hq]
  ·simp[h2,hq]
 refine⟨Gg vs',some h,?_,rfl,vs',rfl,by rw[h4]at h6;exact h6⟩;simp only[BD,hf.1];rw[R8,hf.2];simp only[aa];exact hbody
end
end
section
section
variable{tb:CV}{Γ:Cx}
theorem Cq{n:Nat}{φ:AY}(h:BP Γ.ts n=some φ):C4 tb Γ (.t n) φ:=fun _ _ _ _ _ I=>I.temps n φ h
def findD(ts:Ts)(n:Nat):AY:=match BP ts n with
 |some φ=>φ
 |none=> .junk
theorem Af{n:Nat}:C4 tb Γ (.t n) (findD Γ.ts n):=fun E rv fp f H I=>by
 unfold findD;cases h:BP Γ.ts n with
 |none=>trivial
 |some φ=>exact I.temps n φ h
theorem r_{α:Sort _}{a:α}:a=a:=rfl
theorem AS{k:IntKind}{n:Int}:C4 tb Γ (.k (.i k n)) (.val (T.int k) n):=fun _ _ _ _ _ _=>BZ.2 rfl
theorem DT{x:Bool}:C4 tb Γ (.k (.b x)) (.val T.b x):=fun _ _ _ _ _ _=>FW.2 rfl
theorem EN{x:AP}:C4 tb Γ (.k (.s x)) (.val Au x):=fun _ _ _ _ _ _=>Ek.2 rfl
theorem UF{n:Int}(x:UInt8)(h:n=x.toNat):C4 tb Γ (.k (.i .u8 n)) (.val T.u8 x):=fun _ _ _ _ _ _=>Zk.2 (by rw[h];rfl)
theorem Z3{n:Int}(x:UInt16)(h:n=x.toNat):C4 tb Γ (.k (.i .u16 n)) (.val T.u16 x):=fun _ _ _ _ _ _=>sK.2 (by rw[h];rfl)
theorem GN{n:Int}(x:UInt32)(h:n=x.toNat):C4 tb Γ (.k (.i .u32 n)) (.val T.u32 x):=fun _ _ _ _ _ _=>sJ.2 (by rw[h];rfl)
theorem Cm{n:Int}(x:UInt64)(h:n=x.toNat):C4 tb Γ (.k (.i .u64 n)) (.val T.u64 x):=fun _ _ _ _ _ _=>sI.2 (by rw[h];rfl)
theorem Fj{t:T}:C4 tb Γ (.k .nils) (.val (T.sl t) .nil):=fun _ _ _ _ _ _=>JY.2 rfl
theorem Ay{a:AO}{φ:AY}(h:C4 tb Γ a φ):EG tb Γ (.mv a) (some ()) fun _=>φ:=
 fun E rv fp f H I _ _=>⟨_,none,rfl,rfl,h E rv fp f H I⟩
structure IT where
 t:T
 k:IntKind
 toI:t.α→Int
 ofI:Int→t.α
 V: ∀{P:Nat→Prop} {H:A6} {v:AV} {x:t.α},t.V P H v x↔v= .i k (toI x)
 h: ∀n,toI (ofI n)=k.wrap n
theorem AbF(n:Int):IntKind.u8.wrap n=n%256:=by simp[tx,gc,ko]
theorem sT(n:Int):IntKind.u16.wrap n=n%65536:=by simp[tx,gc,ko]
theorem sS(n:Int):IntKind.u32.wrap n=n%4294967296:=by simp[tx,gc,ko]
theorem sR(n:Int):IntKind.u64.wrap n=n%18446744073709551616:=by simp[tx,gc,ko]
def IT.int(k:IntKind):IT:=⟨T.int k,k,fun x=>x,k.wrap,BZ,fun _=>rfl⟩
def IT.u8:IT:=⟨T.u8, .u8,fun x:UInt8=>(x.toNat:Int),fun n=>bb (n%256).toNat,Zk,fun n=>by
 rw[AbF,gi];omega⟩
def IT.u16:IT:=⟨T.u16, .u16,fun x:UInt16=>(x.toNat:Int),fun n=>ca (n%65536).toNat,sK,fun n=>by
 rw[sT,ja];omega⟩
def IT.u32:IT:=⟨T.u32, .u32,fun x:UInt32=>(x.toNat:Int),fun n=>pm (n%4294967296).toNat,sJ,fun n=>by
 rw[sS,nw];omega⟩
def IT.u64:IT:=⟨T.u64, .u64,fun x:UInt64=>(x.toNat:Int),fun n=>d7 (n%18446744073709551616).toNat,sI,fun n=>by
 rw[sR,jb];omega⟩
theorem Nn{rv:Nat→AV}{ss:Ss}{P:Nat→Prop}{H:A6}{I:IT}{x:I.t.α}{v:AV}(h:FR rv ss P H (.val I.t x) v):v= .i I.k (I.toI x):=I.V.1 h
theorem Vf{rv:Nat→AV}{ss:Ss}{P:Nat→Prop}{H:A6}(I:IT){n:Int}:FR rv ss P H (.val I.t (I.ofI n)) (.i I.k (I.k.wrap n)):=I.V.2 (by rw[I.h])
section
variable{I J:IT}{x y:I.t.α}{a b:AO}
theorem B8(ha:C4 tb Γ a (.val I.t x))(hb:C4 tb Γ b (.val I.t y)):EG tb Γ (.bin .add a b) (some (I.ofI (I.toI x+I.toI y))) fun z=> .val I.t z:=by
 rintro E rv fp f H R z ⟨⟩;exact⟨_,none,by simp only[BA,Nn (ha E rv fp f H R),Nn (hb E rv fp f H R),bin,uc];rfl,rfl,Vf I⟩
theorem Es(ha:C4 tb Γ a (.val I.t x))(hb:C4 tb Γ b (.val I.t y)):EG tb Γ (.bin .sub a b) (some (I.ofI (I.toI x-I.toI y))) fun z=> .val I.t z:=by
 rintro E rv fp f H R z ⟨⟩;exact⟨_,none,by simp only[BA,Nn (ha E rv fp f H R),Nn (hb E rv fp f H R),bin,uc];rfl,rfl,Vf I⟩
theorem MY(ha:C4 tb Γ a (.val I.t x))(hb:C4 tb Γ b (.val I.t y)):EG tb Γ (.bin .mul a b) (some (I.ofI (I.toI x*I.toI y))) fun z=> .val I.t z:=by
 rintro E rv fp f H R z ⟨⟩;exact⟨_,none,by simp only[BA,Nn (ha E rv fp f H R),Nn (hb E rv fp f H R),bin,uc];rfl,rfl,Vf I⟩
theorem Q5(ha:C4 tb Γ a (.val I.t x))(hb:C4 tb Γ b (.val I.t y)):EG tb Γ (.bin .quo a b) (if I.toI y=0 then none else some (I.ofI ((I.toI x).tdiv (I.toI y)))) fun z=> .val I.t z:=by
 intro E rv fp f H R z hz
 split at hz
 ·cases hz
 ·rename_i h0;cases hz;exact⟨_,none,by simp only[BA,Nn (ha E rv fp f H R),Nn (hb E rv fp f H R),bin,uc,t7 h0];rfl,rfl,Vf I⟩
def FF(op:BinOp)(k:IntKind)(x y:Int):Int:=
 match op with
 | .and=>(cr k.bits x&&&cr k.bits y).toNat
 | .or=>(cr k.bits x|||cr k.bits y).toNat
 | .xor=>(cr k.bits x^^^cr k.bits y).toNat
 |_=>(cr k.bits x&&& ~~~(cr k.bits y)).toNat
theorem h_and(ha:C4 tb Γ a (.val I.t x))(hb:C4 tb Γ b (.val I.t y)):EG tb Γ (.bin .and a b) (some (I.ofI (FF .and I.k (I.toI x) (I.toI y)))) fun z=> .val I.t z:=by
 rintro E rv fp f H R z ⟨⟩;exact⟨_,none,by simp only[BA,Nn (ha E rv fp f H R),Nn (hb E rv fp f H R),bin,uc];rfl,rfl,Vf I⟩
theorem Aa8(ha:C4 tb Γ a (.val I.t x))(hb:C4 tb Γ b (.val I.t y)):EG tb Γ (.bin .or a b) (some (I.ofI (FF .or I.k (I.toI x) (I.toI y)))) fun z=> .val I.t z:=by
 rintro E rv fp f H R z ⟨⟩;exact⟨_,none,by simp only[BA,Nn (ha E rv fp f H R),Nn (hb E rv fp f H R),bin,uc];rfl,rfl,Vf I⟩
theorem fW{y:J.t.α}(ha:C4 tb Γ a (.val I.t x))(hb:C4 tb Γ b (.val J.t y)):EG tb Γ (.bin .shl a b) (if J.toI y<0 then none else some (I.ofI (I.toI x*2^(min (J.toI y).toNat I.k.bits)))) fun z=> .val I.t z:=by
 intro E rv fp f H R z hz
 split at hz
 ·cases hz
 ·rename_i h0;cases hz;exact⟨_,none,by simp only[BA,Nn (ha E rv fp f H R),Nn (hb E rv fp f H R),bin,t7 h0];rfl,rfl,Vf I⟩
def cmpI:BinOp→Int→Int→Bool
 | .eql,x,y=>decide (x=y)
 | .neq,x,y=> !decide (x=y)
 | .lss,x,y=>decide (x<y)
 | .leq,x,y=>decide (x≤y)
 | .gtr,x,y=>decide (y<x)
 |_,x,y=>decide (y≤x)
def isCmp:BinOp→Bool
 | .eql| .neq| .lss| .leq| .gtr| .geq=>true
 |_=>false
theorem bin_cmp{op:BinOp}{k:IntKind}{x y:Int}(h:isCmp op=true):bin op (.i k x) (.i k y)=some (.b (cmpI op x y)):=by
 cases op<;>simp only[isCmp,ah]at h<;>simp only[bin,uc,cmpI]<;>rfl
theorem DZ{op:BinOp}(h:isCmp op=true)(ha:C4 tb Γ a (.val I.t x))(hb:C4 tb Γ b (.val I.t y)):EG tb Γ (.bin op a b) (some (cmpI op (I.toI x) (I.toI y))) fun z=> .val T.b z:=by
 rintro E rv fp f H R z ⟨⟩;exact⟨_,none,by simp only[BA,Nn (ha E rv fp f H R),Nn (hb E rv fp f H R),bin_cmp h];rfl,rfl,FW.2 rfl⟩
theorem E8{k:IntKind}(hk:k=J.k)(ha:C4 tb Γ a (.val I.t x)):EG tb Γ (.cvi k a) (some (J.ofI (I.toI x))) fun z=> .val J.t z:=by
 rintro E rv fp f H R z ⟨⟩;subst hk;exact⟨_,none,by simp only[BA,Nn (ha E rv fp f H R)],rfl,Vf J⟩
theorem h_max{mx:Bool}(ha:C4 tb Γ a (.val I.t x))(hb:C4 tb Γ b (.val I.t y)):EG tb Γ (.mnx mx a b) (some (if mx then(if I.toI y>I.toI x then y else x)else(if I.toI y<I.toI x then y else x))) fun z=> .val I.t z:=by
 rintro E rv fp f H R z ⟨⟩;refine⟨_,none,by simp only[BA,Nn (ha E rv fp f H R),Nn (hb E rv fp f H R),uc];rfl,rfl,I.V.2 ?_⟩;cases mx<;>simp only[uc,ah,ud]<;>split<;>rfl
end
theorem h_rem{k:IntKind}{x y:Int}{a b:AO}(ha:C4 tb Γ a (.val (T.int k) x))(hb:C4 tb Γ b (.val (T.int k) y)):EG tb Γ (.bin .rem a b) (if y=0 then none else some (x.tmod y)) fun z=> .val (T.int k) z:=by
 intro E rv fp f H R z hz
 split at hz
 ·cases hz
 ·rename_i h0;cases hz;exact⟨_,none,by simp only[BA,BZ.1 (ha E rv fp f H R),BZ.1 (hb E rv fp f H R),bin,uc,t7 h0];rfl,rfl,BZ.2 rfl⟩
theorem h_shr{k:IntKind}{J:IT}{x:Int}{y:J.t.α}{a b:AO}(ha:C4 tb Γ a (.val (T.int k) x))(hb:C4 tb Γ b (.val J.t y)):EG tb Γ (.bin .shr a b) (if J.toI y<0 then none else some (x.fdiv (2^(min (J.toI y).toNat k.bits)))) fun z=> .val (T.int k) z:=by
 intro E rv fp f H R z hz
 split at hz
 ·cases hz
 ·rename_i h0;cases hz;exact⟨_,none,by simp only[BA,BZ.1 (ha E rv fp f H R),Nn (hb E rv fp f H R),bin,t7 h0];rfl,rfl,BZ.2 rfl⟩
structure NT extends IT where
 lt: ∀x,0≤toI x∧toI x<2^k.bits
 w: ∀n,0≤n→n<2^k.bits→k.wrap n=n
def NT.u8:NT:=⟨IT.u8,fun x=>⟨by simp[IT.u8],by have:x.toNat<256:=UInt8.toNat_lt x;simp only[IT.u8,gc];omega⟩,fun n h0 h1=>by simp only[IT.u8,gc]at*;rw[AbF];omega⟩
def NT.u16:NT:=⟨IT.u16,fun x=>⟨by simp[IT.u16],by have:x.toNat<65536:=UInt16.toNat_lt x;simp only[IT.u16,gc];omega⟩,fun n h0 h1=>by simp only[IT.u16,gc]at*;rw[sT];omega⟩
def NT.u32:NT:=⟨IT.u32,fun x=>⟨by simp[IT.u32],by have:x.toNat<4294967296:=UInt32.toNat_lt x;simp only[IT.u32,gc];omega⟩,fun n h0 h1=>by simp only[IT.u32,gc]at*;rw[sS];omega⟩
def NT.u64:NT:=⟨IT.u64,fun x=>⟨by simp[IT.u64],by have:x.toNat<18446744073709551616:=UInt64.toNat_lt x;simp only[IT.u64,gc];omega⟩,fun n h0 h1=>by simp only[IT.u64,gc]at*;rw[sR];omega⟩
theorem VK{I:NT}{x y:I.t.α}{a b:AO}(ha:C4 tb Γ a (.val I.t x))(hb:C4 tb Γ b (.val I.t y)):EG tb Γ (.bin .rem a b) (if I.toI y=0 then none else some (I.ofI ((I.toI x).tmod (I.toI y)))) fun z=> .val I.t z:=by
 intro E rv fp f H R z hz
 split at hz
 ·cases hz
 ·rename_i h0;cases hz;have h1:=I.lt x;have h2:=I.lt y;have hm:(I.toI x).tmod (I.toI y)=(I.toI x)%(I.toI y):=Int.tmod_eq_emod_of_nonneg h1.1;have hw:=I.w ((I.toI x).tmod (I.toI y)) (by rw[hm];exact Int.emod_nonneg _ h0) (by rw[hm];exact Int.lt_of_lt_of_le (Int.emod_lt_of_pos _ (by omega)) (by omega));refine⟨_,none,by simp only[BA,Nn (I:=I.toIT) (ha E rv fp f H R),Nn (I:=I.toIT) (hb E rv fp f H R),bin,uc,t7 h0];rfl,rfl,?_⟩;have:=Vf (rv:=rv) (ss:=Γ.ss) (P:=Pf E Γ.ss fp H) (H:=H) I.toIT (n:=(I.toI x).tmod (I.toI y))
  rwa [hw]at this
theorem YD{I:NT}{J:IT}{x:I.t.α}{y:J.t.α}{a b:AO}(ha:C4 tb Γ a (.val I.t x))(hb:C4 tb Γ b (.val J.t y)):EG tb Γ (.bin .shr a b) (if J.toI y<0 then none else some (I.ofI ((I.toI x).fdiv (2^(min (J.toI y).toNat I.k.bits))))) fun z=> .val I.t z:=by
 intro E rv fp f H R z hz
 split at hz
 ·cases hz
 ·rename_i h0;cases hz;have h1:=I.lt x;have hp:(0:Int)<2^(min (J.toI y).toNat I.k.bits):=by exact_mod_cast Nat.two_pow_pos _
  have hm:(I.toI x).fdiv (2^(min (J.toI y).toNat I.k.bits))=(I.toI x)/(2^(min (J.toI y).toNat I.k.bits)):=n9 _ (by omega);have hw:=I.w ((I.toI x).fdiv (2^(min (J.toI y).toNat I.k.bits))) (by rw[hm];exact Int.ediv_nonneg h1.1 (by omega)) (by rw[hm];exact Int.lt_of_le_of_lt (Int.ediv_le_self _ h1.1) h1.2);refine⟨_,none,by simp only[BA,Nn (I:=I.toIT) (ha E rv fp f H R),Nn (hb E rv fp f H R),bin,t7 h0];rfl,rfl,?_⟩;have:=Vf (rv:=rv) (ss:=Γ.ss) (P:=Pf E Γ.ss fp H) (H:=H) I.toIT (n:=(I.toI x).fdiv (2^(min (J.toI y).toNat I.k.bits)))
  rwa [hw]at this
section
variable{a b:AO}
theorem Df{x:Bool}(ha:C4 tb Γ a (.val T.b x)):EG tb Γ (.un .not a) (some (!x)) fun z=> .val T.b z:=by
 rintro E rv fp f H R z ⟨⟩;exact⟨_,none,by simp only[BA,FW.1 (ha E rv fp f H R),un];rfl,rfl,FW.2 rfl⟩
def DN{α:Type}(l:List α)(i:Int):Option α:=if 0≤i then l[i.toNat]? else none
def SV(len:Nat)(lo hi:Option Int):Option (Nat×Nat):=
 (match hi with
  |none=>some len
  |some n=>if 0≤n∧n≤len then some n.toNat else none).bind fun h=>
 (match lo with
  |none=>some 0
  |some n=>if 0≤n∧n≤h then some n.toNat else none).bind fun l=>some (l,h)
def IW{α:Type}(l:List α)(lo hi:Option Int):Option (List α):=(SV l.length lo hi).map fun p=>(l.take p.2).drop p.1
inductive OpO(tb:CV)(Γ:Cx):Option AO→Option Int→Prop where
 |none:OpO tb Γ none none
 |some {a:AO} {k:IntKind} {n:Int}:C4 tb Γ a (.val (T.int k) n)→OpO tb Γ (some a) (some n)
theorem Zd{lo hi:Option AO}{l h:Option Int}(hl:OpO tb Γ lo l)(hh:OpO tb Γ hi h){E:QS}{rv:Nat→AV}{fp:Fp}{f:Fr}{H:A6}(R:B5 E Γ rv fp f H)(len:Nat):HW (eval tb f) len lo hi=SV len l h:=by
 cases hl with
 |none=>
  cases hh with
  |none=>rfl
  |some hh=>simp only[HW,SV,LI,BZ.1 (hh E rv fp f H R),Ir,aa]
 |some hl=>
  cases hh with
  |none=>simp only[HW,SV,LI,BZ.1 (hl E rv fp f H R),Ir,aa]
  |some hh=>simp only[HW,SV,LI,BZ.1 (hl E rv fp f H R),BZ.1 (hh E rv fp f H R),Ir,aa]
variable{x y:AP}
theorem MA(ha:C4 tb Γ a (.val Au x))(hb:C4 tb Γ b (.val Au y)):EG tb Γ (.bin .add a b) (if x.length+y.length≤2*Ci then some (x++y)else none) fun z=> .val Au z:=by
 intro E rv fp f H R z hz
 split at hz
 ·rename_i h0;cases hz;exact⟨_,none,by simp only[BA,Ek.1 (ha E rv fp f H R),Ek.1 (hb E rv fp f H R),bin,t6 h0];rfl,rfl,Ek.2 rfl⟩
 ·cases hz
theorem M9(ha:C4 tb Γ a (.val Au x))(hb:C4 tb Γ b (.val Au y)):EG tb Γ (.bin .eql a b) (some (decide (x=y))) fun z=> .val T.b z:=by
 rintro E rv fp f H R z ⟨⟩;exact⟨_,none,by simp only[BA,Ek.1 (ha E rv fp f H R),Ek.1 (hb E rv fp f H R),bin];rfl,rfl,FW.2 (by congr 1;rw[gq];simp)⟩
theorem qW(ha:C4 tb Γ a (.val Au x))(hb:C4 tb Γ b (.val Au y)):EG tb Γ (.bin .neq a b) (some (!decide (x=y))) fun z=> .val T.b z:=by
 rintro E rv fp f H R z ⟨⟩;exact⟨_,none,by simp only[BA,Ek.1 (ha E rv fp f H R),Ek.1 (hb E rv fp f H R),bin];rfl,rfl,FW.2 (by congr 2;rw[gq];simp)⟩
abbrev tv:=T.int .i64
theorem CC(ha:C4 tb Γ a (.val Au x)):EG tb Γ (.lens a) (some (x.length:Int)) fun z=> .val tv z:=by
 rintro E rv fp f H R z ⟨⟩;exact⟨_,none,by simp only[BA,Ek.1 (ha E rv fp f H R)],rfl,BZ.2 rfl⟩
theorem ES{k:IntKind}{n:Int}(ha:C4 tb Γ a (.val Au x))(hb:C4 tb Γ b (.val (T.int k) n)):EG tb Γ (.ixs a b) (DN x n) fun z=> .val T.u8 z:=by
 intro E rv fp f H R z hz;simp only[DN]at hz
 split at hz
 ·rename_i h0;exact⟨_,none,by simp only[BA,Ek.1 (ha E rv fp f H R),BZ.1 (hb E rv fp f H R),Ir,aa,t6 h0,hz,ak],rfl,Zk.2 rfl⟩
 ·cases hz
theorem Lj{lo hi:Option AO}{l h:Option Int}(ha:C4 tb Γ a (.val Au x))(hl:OpO tb Γ lo l)(hh:OpO tb Γ hi h):EG tb Γ (.sls a lo hi) (IW x l h) fun z=> .val Au z:=by
 intro E rv fp f H R z hz;obtain⟨p,hp,rfl⟩:=aj.1 hz;exact⟨_,none,by simp only[BA,Ek.1 (ha E rv fp f H R),Zd hl hh R,hp,ak],rfl,Ek.2 rfl⟩
theorem h_cvc{k:IntKind}{n:Int}(ha:C4 tb Γ a (.val (T.int k) n)):EG tb Γ (.cvc a) (some (jc n).data.toList) fun z=> .val Au z:=by
 rintro E rv fp f H R z ⟨⟩;exact⟨_,none,by simp only[BA,BZ.1 (ha E rv fp f H R)],rfl,Ek.2 rfl⟩
end
def gd(g:Nat)(w:Bool)(o:Bh):Bh:=match o.g with
 |none=>{o with g:=some (g,w)}
 |some _=>o
def mF:List Nat→List Bh→Bool
 |_,[]=>true
 |seen,o::r=>(match o.g with
  |none=>true
  |some (t,_)=>seen.any (fx t))&&mF (match o.d with|some d=>d::seen|none=>seen) r
def GB(l:List Bh):List Nat:=l.filterMap (·.d)
structure Bf(tb:CV)(Γ:Cx)(q:Bool)(l:List Bh)(t:Nat) where
 m:Option Bool
 ok: ∀E rv fp f H,B5 E Γ rv fp f H→ ∀b,m=some b→ ∃f',Bp tb (C3 tb) (rg q l) f H=some (.normal,f',H)∧get f' t= .b b∧ ∀u,u∉GB l→get f' u=get f u
def Bf.nil{q:Bool}{t:Nat}{b:Bool}(h:C4 tb Γ (.t t) (.val T.b b)):Bf tb Γ q [] t:=
 ⟨some b,fun E rv fp f H I _ hb=>by
  cases hb;exact⟨f,DL,FW.1 (h E rv fp f H I),fun _ _=>rfl⟩⟩
def Bf.op{q:Bool}{t d:Nat}{o:GI}{l:List Bh}{β:Type}{a:Option β}{φ:β→AY}(h:EG tb Γ o a φ)(k:(b:β)→Bf tb (Γ.push d (φ b)) q l t):Bf tb Γ q (⟨some d,none,o⟩::l) t:=
 ⟨a.bind fun b=>(k b).m,fun E rv fp f H I r hr=>by
  obtain⟨b,hb,hr⟩:=ad.1 hr;obtain⟨v,u,h1,h2,h3⟩:=h E rv fp f H I b hb;obtain⟨f',h4,h5,h6⟩:=(k b).ok E rv fp (put f (some d) v) H (I.push h3) r hr;refine⟨f',by rw[EM h1 h2];exact h4,h5,fun u hu=> ?_⟩;simp only[GB,gx,bm,not_or]at hu;rw[h6 u hu.2];simp only[put,get];rw[t7 (iz hu.1)]⟩
def Bw{q:Bool}{t d:Nat}{o:GI}{l:List Bh}{u:T}{x:u.α}(h:EG tb Γ o (some ()) fun _=> .val u x)(k:(y:u.α)→Bf tb (Γ.push d (.val u y)) q l t):Bf tb Γ q (⟨some d,none,o⟩::l) t:=
 ⟨(k x).m,(Bf.op (a:=some ()) (φ:=fun _=> .val u x) h fun _=>k x).ok⟩
def Bf.opr{q:Bool}{t d:Nat}{o:GI}{l:List Bh}{u:T}{x:u.α}(h:EG tb Γ o (some ()) fun _=> .rp u x)(k:(y:u.α)→Bf tb (Γ.push d (.rp u y)) q l t):Bf tb Γ q (⟨some d,none,o⟩::l) t:=
 ⟨(k x).m,(Bf.op (a:=some ()) (φ:=fun _=> .rp u x) h fun _=>k x).ok⟩
def AR{q:Bool}{t d:Nat}{o:GI}{l:List Bh}{φ:AY}(h:EG tb Γ o (some ()) fun _=>φ)(k:Bf tb (Γ.push d φ) q l t):Bf tb Γ q (⟨some d,none,o⟩::l) t:=
 ⟨k.m,(Bf.op (a:=some ()) (φ:=fun _=>φ) h fun _=>k).ok⟩
theorem FB{q:Bool}: ∀{l r:List Bh} {f f':Fr} {H H':A6},Bp tb (C3 tb) (rg q l) f H=some (.normal,f',H')→Bp tb (C3 tb) (rg q (l++r)) f H=Bp tb (C3 tb) (rg q r) f' H'
 |[],r,f,f',H,H',h=>by rw[DL]at h;cases h;rfl
 |o::l,r,f,f',H,H',h=>by
  cases q with
  |true=>
   simp only[rg,uc,Bp,cd,Jm]at h ⊢;cases hw:wanted f o.g with
   |none=>rw[hw]at h;simp at h
   |some w=>
    rw[hw]at h;simp only[aa]at h ⊢;cases w with
    |false=>
     simp only[ah,ud]at h ⊢;exact FB (q:=true) (l:=l) (r:=r) (by simpa [rg,Bp]using h)
    |true=>
     simp only[uc]at h ⊢;cases hp:BA tb (C3 tb) (eval tb f) H o.o with
     |none=>rw[hp]at h;simp at h
     |some p=>
      rw[hp]at h;simp only[aa]at h ⊢
      split at h
      ·rename_i hs;rw[t6 hs];exact FB (q:=true) (l:=l) (r:=r) (by simpa [rg,Bp]using h)
      ·simp at h
  |false=>
   simp only[rg,ah,ud,Bp,cd,ops]at h ⊢;cases hw:wanted f o.g with
   |none=>rw[hw]at h;simp at h
   |some w=>
    rw[hw]at h;simp only[aa]at h ⊢;cases w with
    |false=>
     simp only[ah,ud]at h ⊢;exact FB (q:=false) (l:=l) (r:=r) (by simpa [rg,Bp]using h)
    |true=>
     simp only[uc]at h ⊢;cases hp:BA tb (C3 tb) (eval tb f) H o.o with
     |none=>rw[hp]at h;simp at h
     |some p=>
      rw[hp]at h;simp only[aa]at h ⊢;exact FB (q:=false) (l:=l) (r:=r) (by simpa [rg,Bp]using h)
def Lp(g:Nat)(w:Bool):Nat→List Bh→Option (List Bh×List Bh)
 |0,L=>some ([],L)
 |n+1,⟨d,some (g',w'),o⟩::r=>(Lp g w n r).map fun p=>(if fx g' g&&(w'==w)then⟨d,none,o⟩::p.1 else⟨d,some (g',w'),o⟩::p.1,p.2)
 |_,_=>none
theorem He{g:Nat}{w:Bool}: ∀{n:Nat} {L l R:List Bh},Lp g w n L=some (l,R)→L=l.map (gd g w)++R
 |0,L,l,R,h=>by simp only[Lp,ae,ch]at h;rw[←h.1,←h.2];rfl
 |n+1,[],l,R,h=>by simp[Lp]at h
 |n+1,⟨d,none,o⟩::r,l,R,h=>by simp[Lp]at h
 |n+1,⟨d,some (g',w'),o⟩::r,l,R,h=>by
  simp only[Lp]at h;obtain⟨p,hp,h⟩:=aj.1 h;have ih:=He (l:=p.1) (R:=p.2) hp;simp only[ch]at h;obtain⟨h1,rfl⟩:=h
  split at h1
  ·rename_i hc;simp only[af,beq_iff_eq]at hc;obtain⟨hc,rfl⟩:=hc;have hc:=cm hc;subst hc;rw[←h1,ih];rfl
  ·rw[←h1,ih];rfl
theorem wanted_put{f:Fr}{g:Nat}{w:Bool}{v:AV}{d:Option Nat}(h:d≠some g):get (put f d v) g=get f g:=by
 cases d with
 |none=>rfl
 |some d=>simp only[put,get];rw[t7 (fun e=>h (by rw[e]))]
theorem qA{q:Bool}{g:Nat}{w:Bool}: ∀{l:List Bh} {f:Fr} {H:A6},get f g= .b w→g∉GB l→Bp tb (C3 tb) (rg q (l.map (gd g w))) f H=Bp tb (C3 tb) (rg q l) f H
 |[],_,_,_,_=>rfl
 |o::l,f,H,h,hn=>by
  have hd:o.d≠some g:=fun e=>hn (by simp[GB,e]);have hn':g∉GB l:=fun e=>hn (by
   simp only[GB,gx]at e ⊢;cases o.d<;>simp[e])
  have hwt:wanted f (gd g w o).g=wanted f o.g:=by
   cases ho:o.g with
   |none=>simp[gd,ho,wanted,h]
   |some p=>simp[gd,ho]
  have hoo:(gd g w o).o=o.o:=by cases ho:o.g<;>simp[gd,ho]
  have hod:(gd g w o).d=o.d:=by cases ho:o.g<;>simp[gd,ho]
  have ih: ∀v H',Bp tb (C3 tb) (rg q (l.map (gd g w))) (put f o.d v) H'=Bp tb (C3 tb) (rg q l) (put f o.d v) H':=fun v H'=>qA (by rw[wanted_put (w:=w) hd];exact h) hn';cases q with
  |true=>
   have ih': ∀v H',Jm tb (C3 tb) H' (l.map (gd g w)) (put f o.d v)=Jm tb (C3 tb) H' l (put f o.d v):=fun v H'=>by
    have:=ih v H';simp only[rg,uc,Bp]at this;cases h1:Jm tb (C3 tb) H' (l.map (gd g w)) (put f o.d v)<;>cases h2:Jm tb (C3 tb) H' l (put f o.d v)<;>simp_all
   simp only[rg,uc,Bp,bh,Jm,hwt,hoo,hod,ih']
  |false=>
   have ih': ∀v H',ops tb (C3 tb) (l.map (gd g w)) (put f o.d v) H'=ops tb (C3 tb) l (put f o.d v) H':=fun v H'=>by
    have:=ih v H';simp only[rg,ah,ud,Bp]at this;cases h1:ops tb (C3 tb) (l.map (gd g w)) (put f o.d v) H'<;>cases h2:ops tb (C3 tb) l (put f o.d v) H'<;>simp_all [Prod.ext_iff]
   simp only[rg,ah,ud,Bp,bh,ops,hwt,hoo,hod,ih']
theorem Rg{q:Bool}{g:Nat}{w:Bool}: ∀{l:List Bh} {seen:List Nat} {f:Fr} {H:A6},get f g= .b (!w)→g∉GB l→mF seen l=true→(∀t∈seen,get f t= .tup [])→
  ∃f',Bp tb (C3 tb) (rg q (l.map (gd g w))) f H=some (.normal,f',H)∧ ∀u,u∉GB l→get f' u=get f u
 |[],seen,f,H,_,_,_,_=>⟨f,DL,fun _ _=>rfl⟩
 |o::l,seen,f,H,h,hn,hs,hseen=>by
  have hd:o.d≠some g:=fun e=>hn (by simp[GB,e]);have hn':g∉GB l:=fun e=>hn (by
   simp only[GB,gx]at e ⊢;cases o.d<;>simp[e])
  simp only[mF,af]at hs;have hwt:wanted f (gd g w o).g=some false:=by
   cases ho:o.g with
   |none=>simp[gd,ho,wanted,h]
   |some p=>
    obtain⟨t,b⟩:=p;simp only[gd,ho,wanted];have:=hs.1;rw[ho]at this;obtain⟨x,hx,hb⟩:=jp.1 this;have hb:=cm hb;subst hb;rw[hseen _ hx]
  have hod:(gd g w o).d=o.d:=by cases ho:o.g<;>simp[gd,ho]
  obtain⟨f',h1,h2⟩:=Rg (q:=q) (w:=w) (l:=l) (seen:=match o.d with|some d=>d::seen|none=>seen) (f:=put f o.d (.tup [])) (H:=H)
   (by rw[wanted_put (w:=w) hd];exact h) hn' hs.2 (fun t ht=>by
    cases hdd:o.d with
    |none=>rw[hdd]at ht;exact hseen t ht
    |some d=>
     rw[hdd]at ht;simp only[put,get]
     by_cases e:d=t
     ·rw[t6 e]
     ·rw[t7 e];rcases bm.1 ht with e'|ht
      ·exact absurd e'.symm e
      ·exact hseen t ht)
  refine⟨f',?_,fun u hu=> ?_⟩
  ·cases q with
   |true=>
    simp only[rg,uc,Bp]at h1 ⊢;simp only[bh,Jm,hwt,aa,ah,ud,hod];exact h1
   |false=>
    simp only[rg,ah,ud,Bp]at h1 ⊢;simp only[bh,ops,hwt,aa,ah,ud,hod];exact h1
  ·have hu':u∉GB l:=fun e=>hu (by
    simp only[GB,gx]at e ⊢;cases o.d<;>simp[e])
   rw[h2 u hu'];exact wanted_put (w:=w) fun e=>hu (by simp[GB,e])
def zW(l:List Nat)(n:Nat):Bool:=l.any (fx n)
theorem Kc{l:List Nat}{n:Nat}(h:zW l n=false):n∉l:=by
 intro hm;rw[zW,List.any_eq_false]at h;exact h n hm (by simp)
def apart(l:List Nat)(ts:Ts):Bool:=ts.all fun p=> !zW l p.1
theorem I4{l:List Nat}: ∀{ts:Ts} {t:Nat} {φ:AY},apart l ts=true→BP ts t=some φ→t∉l
 |[],_,_,_,e=>by simp[BP]at e
 |(u,ψ)::r,t,φ,h,e=>by
  simp only[apart,fy,af,ck]at h;simp only[BP]at e
  split at e
  ·rename_i hu;subst hu;exact Kc h.1
  ·exact I4 (by simpa [apart]using h.2) e
def Xx(g:Nat)(l:List Bh)(ts:Ts):Bool:=mF [] l&&(!zW (GB l) g&&apart (GB l) ts)
theorem Zz{f:Fr}{H:A6}{E:QS}{rv:Nat→AV}{fp:Fp}(I:B5 E Γ rv fp f H){d:Nat}{z:Bool}:B5 E (Γ.push d (.val T.b z)) rv fp (put f (some d) (.b z)) H:=I.push (FW.2 rfl)
def Cr(b:Bool)(m:Option Bool):Option Bool:=if b=true then m else some false
def FL(b:Bool)(m:Option Bool):Option Bool:=if b=true then some true else m
variable{ks:List Kf}{ρ:Type}{Q:OC ρ}
def Aa.and{q:Bool}{L l rest:List Bh}{g t d:Nat}{b:Bool}(n:Nat)(og:BP Γ.ts g=some (.val T.b b))(h:Lp g true n L=some (l,⟨some d,none, .pick (.t g) (.t t) (.k (.b false))⟩::rest))(hc:Xx g l Γ.ts=true)
  (SU:Bf tb Γ q l t) (k:(z:Bool)→Aa tb (Γ.push d (.val T.b z)) (rg q rest) ks Q):Aa tb Γ (rg q L) ks Q:=
 ⟨(Cr b SU.m).bind fun z=>(k z).m,fun E f H ⟨rv,fp,I⟩ r hr=>by
  obtain⟨z,hz,hr⟩:=ad.1 hr;have hL:=He h;simp only[Xx,af,ck]at hc;obtain⟨hc1,hc2,hc3⟩:=hc;have hg:=FW.1 (I.temps g _ og);have hng:=Kc hc2;have fin: ∃f',Bp tb (C3 tb) (rg q (l.map (gd g true))) f H=some (.normal,f',H)∧(∀u,u∉GB l→get f' u=get f u)∧(if b then get f' t else .b false)= .b z:=by
   cases b with
   |true=>
    obtain⟨f',h1,h2,h3⟩:=SU.ok E rv fp f H I z (by simpa [Cr,FL]using hz);exact⟨f',by rw[qA hg hng];exact h1,h3,by simpa using h2⟩
   |false=>
    obtain⟨f',h1,h2⟩:=Rg (tb:=tb) (q:=q) (w:=true) (H:=H) hg hng hc1 (by simp);exact⟨f',h1,h2,by simpa [Cr,FL]using hz⟩
  obtain⟨f',h1,h2,h3⟩:=fin;have hp:BA tb (C3 tb) (eval tb f') H (.pick (.t g) (.t t) (.k (.b false)))=some (.b z,none):=by
   simp only[BA,eval,h2 g hng,hg];rw[←h3]
  have I':B5 E Γ rv fp f' H:=I.fr fun u φ e=>h2 u (I4 hc3 e);obtain⟨e,f2,H2,h4,h5⟩:=(k z).ok E _ H ⟨rv,fp,Zz I'⟩ r hr;exact⟨e,f2,H2,by rw[hL,FB h1,EM hp rfl];exact h4,h5⟩⟩
def Aa.or{q:Bool}{L l rest:List Bh}{g t d:Nat}{b:Bool}(n:Nat)(og:BP Γ.ts g=some (.val T.b b))(h:Lp g false n L=some (l,⟨some d,none, .pick (.t g) (.k (.b true)) (.t t)⟩::rest))(hc:Xx g l Γ.ts=true)
  (SU:Bf tb Γ q l t) (k:(z:Bool)→Aa tb (Γ.push d (.val T.b z)) (rg q rest) ks Q):Aa tb Γ (rg q L) ks Q:=
 ⟨(FL b SU.m).bind fun z=>(k z).m,fun E f H ⟨rv,fp,I⟩ r hr=>by
  obtain⟨z,hz,hr⟩:=ad.1 hr;have hL:=He h;simp only[Xx,af,ck]at hc;obtain⟨hc1,hc2,hc3⟩:=hc;have hg:=FW.1 (I.temps g _ og);have hng:=Kc hc2;have fin: ∃f',Bp tb (C3 tb) (rg q (l.map (gd g false))) f H=some (.normal,f',H)∧(∀u,u∉GB l→get f' u=get f u)∧(if b then .b true else get f' t)= .b z:=by
   cases b with
   |false=>
    obtain⟨f',h1,h2,h3⟩:=SU.ok E rv fp f H I z (by simpa [Cr,FL]using hz);exact⟨f',by rw[qA hg hng];exact h1,h3,by simpa using h2⟩
   |true=>
    obtain⟨f',h1,h2⟩:=Rg (tb:=tb) (q:=q) (w:=false) (H:=H) hg hng hc1 (by simp);exact⟨f',h1,h2,by simpa [Cr,FL]using hz⟩
  obtain⟨f',h1,h2,h3⟩:=fin;have hp:BA tb (C3 tb) (eval tb f') H (.pick (.t g) (.k (.b true)) (.t t))=some (.b z,none):=by
   simp only[BA,eval,h2 g hng,hg];rw[←h3]
  have I':B5 E Γ rv fp f' H:=I.fr fun u φ e=>h2 u (I4 hc3 e);obtain⟨e,f2,H2,h4,h5⟩:=(k z).ok E _ H ⟨rv,fp,Zz I'⟩ r hr;exact⟨e,f2,H2,by rw[hL,FB h1,EM hp rfl];exact h4,h5⟩⟩
def Bf.and{q:Bool}{L l rest:List Bh}{g t t' d:Nat}{b:Bool}(n:Nat)(og:BP Γ.ts g=some (.val T.b b))(h:Lp g true n L=some (l,⟨some d,none, .pick (.t g) (.t t) (.k (.b false))⟩::rest))(hc:Xx g l Γ.ts=true)
  (hd:(GB l).all (zW (GB L))=true) (hd':(d::GB rest).all (zW (GB L))=true)
  (SU:Bf tb Γ q l t) (k:(z:Bool)→Bf tb (Γ.push d (.val T.b z)) q rest t'):Bf tb Γ q L t':=
 ⟨(Cr b SU.m).bind fun z=>(k z).m,fun E rv fp f H I r hr=>by
  obtain⟨z,hz,hr⟩:=ad.1 hr;have hL:=He h;simp only[Xx,af,ck]at hc;obtain⟨hc1,hc2,hc3⟩:=hc;have hg:=FW.1 (I.temps g _ og);have hng:=Kc hc2;have sub: ∀{m:List Nat},m.all (zW (GB L))=true→ ∀u,u∉GB L→u∉m:=fun hm u hu hum=>by
   have:=cb.1 hm u hum;obtain⟨x,hx,hb⟩:=jp.1 this;exact hu (cm hb▸hx)
  have fin: ∃f',Bp tb (C3 tb) (rg q (l.map (gd g true))) f H=some (.normal,f',H)∧(∀u,u∉GB l→get f' u=get f u)∧(if b then get f' t else .b false)= .b z:=by
   cases b with
   |true=>
    obtain⟨f',h1,h2,h3⟩:=SU.ok E rv fp f H I z (by simpa [Cr,FL]using hz);exact⟨f',by rw[qA hg hng];exact h1,h3,by simpa using h2⟩
   |false=>
    obtain⟨f',h1,h2⟩:=Rg (tb:=tb) (q:=q) (w:=true) (H:=H) hg hng hc1 (by simp);exact⟨f',h1,h2,by simpa [Cr,FL]using hz⟩
  obtain⟨f',h1,h2,h3⟩:=fin;have hp:BA tb (C3 tb) (eval tb f') H (.pick (.t g) (.t t) (.k (.b false)))=some (.b z,none):=by
   simp only[BA,eval,h2 g hng,hg];rw[←h3]
  have I':B5 E Γ rv fp f' H:=I.fr fun u φ e=>h2 u (I4 hc3 e);obtain⟨f2,h4,h5,h6⟩:=(k z).ok E rv fp _ H (Zz I') r hr;refine⟨f2,by rw[hL,FB h1,EM hp rfl];exact h4,h5,fun u hu=> ?_⟩;have hu':=sub hd' u hu;rw[h6 u fun e=>hu' (a8 _ e),wanted_put (w:=true) (fun e=>hu' (by cases e;exact bg)),h2 u (sub hd u hu)]⟩
end
end
section
structure AN(t u:T)(off:Nat) where
 get:t.α→u.α
 put:t.α→u.α→t.α
 le:off+u.sz≤t.sz
 getR: ∀{P:Nat→Prop} {H:A6} {cs:List AV} {x:t.α},t.R P H cs x→u.R P H (sub cs off u.sz) (get x)
 putR: ∀{P:Nat→Prop} {H:A6} {cs:List AV} {x:t.α} {c:List AV} {y:u.α},t.R P H cs x→u.R P H c y→t.R P H (B7 cs off c) (put x y)
def Ap(t:T):AN t t 0 where
 get:=fun x=>x
 put:=fun _ y=>y
 le:=by omega
 getR:=fun{P H cs x} h=>by
  have:=t.len h;rw[show sub cs 0 t.sz=cs by simp only[sub,dq];exact au (by omega)];exact h
 putR:=fun{P H cs x c y} h g=>by
  have h1:=t.len h;have h2:=t.len g;rw[show B7 cs 0 c=c by simp[B7,k0 (show cs.length≤c.length by omega)]];exact g
def DM{a b u:T}{off:Nat}(F:AN a u off):AN (T.prod a b) u off where
 get:=fun x=>F.get x.1
 put:=fun x y=>(F.put x.1 y,x.2)
 le:=dj F.le (Nat.le_add_right _ _)
 getR:=fun{P H cs x} ⟨c,d,e,h,g⟩=>by
  have h1:=a.len h;have h2:=F.le;have:=F.getR h;rw[show sub cs off u.sz=sub c off u.sz by
   subst e;simp only[sub];rw[ed (by omega),fc (by simp;omega)]]
  exact this
 putR:=fun{P H cs x c' y} ⟨c,d,e,h,g⟩ k=>by
  have h1:=a.len h;have h2:=F.le;have h3:=u.len k;refine⟨B7 c off c',d,?_,F.putR h k,g⟩;subst e;simp only[B7];rw[fc (by omega),ed (by omega)];simp
def Bu{a b u:T}{off:Nat}(F:AN b u off):AN (T.prod a b) u (a.sz+off) where
 get:=fun x=>F.get x.2
 put:=fun x y=>(x.1,F.put x.2 y)
 le:=by have:=F.le;show a.sz+off+u.sz≤a.sz+b.sz;omega
 getR:=fun{P H cs x} ⟨c,d,e,h,g⟩=>by
  have h1:=a.len h;have:=F.getR g;rw[show sub cs (a.sz+off) u.sz=sub d off u.sz by
   subst e;simp only[sub];rw[←cw,fh h1]]
  exact this
 putR:=fun{P H cs x c' y} ⟨c,d,e,h,g⟩ k=>by
  have h1:=a.len h;refine⟨c,B7 d off c',?_,h,F.putR g k⟩;subst e;simp only[B7];rw[jq,au (by omega),show a.sz+off-c.length=off by omega];rw[show a.sz+off+c'.length=c.length+(off+c'.length) by omega,←cw,fh rfl];simp
def AN.iso{t u:T}{off:Nat}{β:Type}{f:β→t.α}{g:t.α→β}{hfg: ∀y,f (g y)=y}(F:AN t u off):AN (T.iso t β f g hfg) u off where
 get:=fun x=>F.get (f x)
 put:=fun x y=>g (F.put (f x) y)
 le:=F.le
 getR:=fun h=>F.getR h
 putR:=fun{P H cs x c y} h k=>by
  show t.R P H _ (f (g _));rw[hfg];exact F.putR h k
def Ar.set{α:Type}{n:Nat}(a:Ar α n)(i:Nat)(x:α):Ar α n:=⟨a.l.set i x,by rw[ig];exact a.len⟩
section
variable{tb:CV}{Γ:Cx}{a b:AO}
theorem ST.len{t:T}{P:Nat→Prop}{H:A6}{v:AV}: ∀{g:GS t.α},ST t P H v g→Tq v=some g.l.length
 | .nil,h=>by rw[show v=_ from h];rfl
 | .mk l,⟨bp,els,e,h⟩=>by
  have hl:=h.length;cases v<;>simp only[Nb]at bp<;>simp only[EX]at e<;>simp only[Tq,GS.l,ae]
  ·split at e
   ·cases e;exact hl
   ·cases e
  ·obtain⟨r,hr,e⟩:=ad.1 e
   split at e
   ·rename_i hc;cases e;rw[aq,bk]at hl;omega
   ·cases e
  ·obtain⟨r,hr,e⟩:=ad.1 e
   split at e
   ·cases e;rename_i hc;rw[←hl];have: ∀(n:Nat) (l:List AV) (sz:Nat),(BV sz n l).length=n:=by
     intro n
     induction n with
     |zero=>intro l sz;rfl
     |succ n ih=>intro l sz;simp[BV,ih]
    exact(this _ _ _).symm
   ·cases e
theorem ST.els{t:T}{P:Nat→Prop}{H:A6}{v:AV}: ∀{g:GS t.α},ST t P H v g→ ∃els,EX H t.sz v=some els∧CM t P H els g.l
 | .nil,h=>by rw[show v=_ from h];exact⟨[],rfl,trivial⟩
 | .mk l,⟨_,els,e,h⟩=>⟨els,e,h⟩
theorem D5{t:T}{g:GS t.α}(ha:C4 tb Γ a (.val (T.sl t) g)):EG tb Γ (.len a) (some (g.l.length:Int)) fun z=> .val tv z:=by
 rintro E rv fp f H R z ⟨⟩;exact⟨_,none,by simp only[BA,(JY.1 (ha E rv fp f H R)).len,ak],rfl,BZ.2 rfl⟩
theorem Xw{sz:Nat}: ∀{n i:Nat} {l c:List AV},n*sz≤l.length→(BV sz n l)[i]? =some c→sub l (i*sz) sz=c∧i*sz+sz≤l.length
 |0,i,l,c,_,h=>by simp[BV]at h
 |n+1,0,l,c,hl,h=>by
  simp only[BV,bw,ae]at h;rw[ci]at hl;exact⟨by simpa [sub]using h,by omega⟩
 |n+1,i+1,l,c,hl,h=>by
  simp only[BV,di]at h;rw[ci]at hl;obtain⟨h1,h2⟩:=Xw (l:=l.drop sz) (by simp;omega) h;simp only[bk]at h2;refine⟨?_,by rw[ci];omega⟩;simp only[sub,cw]at h1 ⊢;rw[show(i+1)*sz=sz+i*sz by rw[ci];omega];exact h1
theorem Us{els:List (List AV)}{i:Nat}{c:List AV}(hc:els[i]? =some c):(els.drop i).flatten=c++(els.drop (i+1)).flatten:=by
 obtain⟨hi,rfl⟩:=cg.1 hc;rw[da hi,bz]
theorem tA{c d:List AV}{o k:Nat}(h:o+k≤c.length):sub (c++d) o k=sub c o k:=by
 simp only[sub];rw[ed (by omega),fc (by simp;omega)]
theorem ST.addr{t:T}{P:Nat→Prop}{H:A6}{v:AV}{i:Nat}{x:t.α}: ∀{g:GS t.α},ST t P H v g→g.l[i]? =some x→ ∃p,WY H t.sz v i=some p∧jM t P H p x
 | .nil,_,h=>by simp[GS.l]at h
 | .mk l,⟨bp,els,e,h⟩,hx=>by
  obtain⟨c,hc,hr⟩:=h.get hx;have hi:i<els.length:=(cg.1 hc).1;have hlen:=t.len hr;have hsub: ∀cs:List AV,cs=c→sub cs 0 t.sz=c:=fun cs e=>by
   subst e;simp only[sub,dq];exact au (by omega)
  simp only[WY,e,aa,t6 hi];cases v<;>simp only[Nb]at bp
  ·refine⟨.ip c 0,by simp[hc],trivial,c,0,rfl,by omega,by rw[hsub c rfl];exact hr,fun m hm=> ?_⟩;simpa [ment]using t.men hr hm
  ·rename_i id k lo len;simp only[EX]at e;obtain⟨r,hrow,e⟩:=ad.1 e
   split at e
   ·rename_i hcd;cases e;have hc':r.2.2[lo+i]? =some c:=by
     rw[dn]at hc
     split at hc
     ·rwa [gj]at hc
     ·cases hc
    refine⟨.pe id k (lo+i) 0,rfl,bp,_,0,by simp only[place,hrow,aa,t6 hcd.1];rfl,by rw[Us hc'];simp;omega,by rw[Us hc',tA (by omega),hsub c rfl];exact hr,fun m hm=>by simp only[ment];exact hm _ bp⟩
   ·cases e
  ·rename_i sz' id off len;simp only[EX]at e;obtain⟨r,hrow,e⟩:=ad.1 e
   split at e
   ·rename_i hcd;cases e;obtain⟨h1,h2⟩:=Xw (by simp;omega) hc;simp only[bk]at h2;refine⟨.ptr id (off+i*t.sz),rfl,bp,r,off+i*t.sz,by simp[place,hrow],by omega,?_,fun m hm=>by simp only[ment];exact hm _ bp⟩;have:sub r (off+i*t.sz) t.sz=c:=by
     simp only[sub,cw]at h1 ⊢;exact h1
    rw[this];exact hr
   ·cases e
theorem Gu{t:T}{g:GS t.α}{k:IntKind}{i:Int}{sz:Nat}(hs:sz=t.sz)(ha:C4 tb Γ a (.val (T.sl t) g))(hb:C4 tb Γ b (.val (T.int k) i)):EG tb Γ (.ias sz a b) (DN g.l i) fun x=> .rp t x:=by
 intro E rv fp f H R x hx;simp only[DN]at hx
 split at hx
 ·rename_i h0;obtain⟨p,h1,h2⟩:=(JY.1 (ha E rv fp f H R)).addr hx;subst hs;exact⟨p,none,by simp only[BA,BZ.1 (hb E rv fp f H R),Ir,aa,t6 h0,h1,val,ak],rfl,h2⟩
 ·cases hx
theorem jM.load{t:T}{P:Nat→Prop}{H:A6}{p:AV}{x:t.α}(h:jM t P H p x): ∃v,load H t.agg t.sz p=some v∧t.V P H v x:=by
 obtain⟨_,cs,off,e,l,r,_⟩:=h;obtain⟨v,h1,h2⟩:=T.V.of r;exact⟨v,by simp only[Am.load,e,aa,t6 l,h1],h2⟩
theorem IY{t:T}{x:t.α}{ag:Bool}{n:Nat}(hag:ag=t.agg)(hn:n=t.sz)(ha:C4 tb Γ a (.rp t x)):EG tb Γ (.ld ag n a) (some ()) fun _=> .val t x:=by
 rintro E rv fp f H R z ⟨⟩;obtain⟨v,h1,h2⟩:=jM.load (ha E rv fp f H R);subst hag hn;exact⟨v,none,by simp only[BA,h1,val,ak],rfl,h2⟩
theorem jM.shift{t u:T}{off:Nat}(F:AN t u off){P:Nat→Prop}{H:A6}{p:AV}{x:t.α}(h:jM t P H p x): ∃v,shift off p=some v∧jM u P H v (F.get x):=by
 obtain⟨hp,cs,o,e,l,r,hm⟩:=h;have hle:=F.le;have hr:=F.getR r;have hsub:sub (sub cs o t.sz) off u.sz=sub cs (o+off) u.sz:=by
  simp only[sub];rw[ic,kp,cw,fq (by omega)]
 rw[hsub]at hr;cases p<;>simp only[aS]at hp<;>simp only[place]at e
 ·rename_i id o';obtain⟨cs',hc,e⟩:=aj.1 e;cases e;refine⟨_,rfl,hp,cs,o+off,by simp[place,hc],by omega,hr,fun m hm=>by simp only[ment];exact hm _ hp⟩
 ·rename_i id n i o';obtain⟨row,hrow,e⟩:=ad.1 e
  split at e
  ·rename_i hn;cases e;refine⟨_,rfl,hp,_,_,by simp only[place,hrow,aa];rw[t6 hn],by omega,hr,fun m hm=>by simp only[ment];exact hm _ hp⟩
  ·cases e
 ·rename_i cs' o';cases e;exact⟨_,rfl,hp,cs,o+off,rfl,by omega,hr,fun m h=>by simpa [ment]using hm m h⟩
theorem h_fa{t u:T}{x:t.α}{off:Nat}(F:AN t u off)(ha:C4 tb Γ a (.rp t x)):EG tb Γ (.fa off a) (some ()) fun _=> .rp u (F.get x):=by
 rintro E rv fp f H R z ⟨⟩;obtain⟨v,h1,h2⟩:=jM.shift F (ha E rv fp f H R);exact⟨v,none,by simp only[BA,h1,val,ak],rfl,h2⟩
theorem fY{t u:T}{x:t.α}{off n:Nat}{ag:Bool}(F:AN t u off)(hag:ag=u.agg)(hn:n=u.sz)(ht:t.agg=true)(ha:C4 tb Γ a (.val t x)):EG tb Γ (.fld ag off n a) (some ()) fun _=> .val u (F.get x):=by
 rintro E rv fp f H R z ⟨⟩;rcases ha E rv fp f H R with ⟨_,cs,e,r⟩|⟨e,_⟩
 ·obtain⟨v,h1,h2⟩:=T.V.of (F.getR r);have hl:=t.len r;have hle:=F.le;subst hag hn;exact⟨v,none,by simp only[BA,e,t6 (show off+u.sz≤cs.length by omega),h1,val,ak],rfl,h2⟩
 ·rw[ht]at e;cases e
end
end
section
def Jv:List (Nat×AY)→Nat→Option (Nat×AY×Nat)
 |[],_=>none
 |(n,φ)::r,o=>if kh o n then some (n,φ,o)else Jv r (o-n)
def V6:List (Nat×AY)→Nat→AY→List (Nat×AY)
 |[],_,_=>[]
 |(n,φ)::r,o,ψ=>if kh o n then(n,ψ)::r else(n,φ)::V6 r (o-n) ψ
theorem XD{a b:Nat}:kh a b=true↔a<b:=by
 rw[kh,Nat.ble_eq];exact q7
section
variable{rv:Nat→AV}{ss:Ss}{P:Nat→Prop}{H:A6}
theorem FQ: ∀{ps:List (Nat×AY)} {o o' N:Nat} {φ:AY} {cs:List AV},PR rv ss P H ps cs→Jv ps o=some (N,φ,o')→
  ∃b c,c.length=N∧o=b+o'∧o'<c.length∧b+c.length≤cs.length∧FC rv ss P H φ c∧(∀m k,m+k≤c.length→sub cs (b+m) k=sub c m k)∧
   (∀m d ψ,m+d.length≤c.length→FC rv ss P H ψ (B7 c m d)→PR rv ss P H (V6 ps o ψ) (B7 cs (b+m) d))
 |[],o,o',N,φ,cs,_,h=>by simp[Jv]at h
 |(n,ψ)::r,o,o',N,φ,cs,⟨c,d,e,hl,hc,hr⟩,h=>by
  simp only[Jv]at h
  split at h
  ·rename_i ho;rw[XD]at ho;cases h;subst e;refine⟨0,c,hl,by omega,by omega,by simp,hc,?_,?_⟩
   ·intro m k hm;simp only[sub,dc];rw[ed (by omega),fc (by simp;omega)]
   ·intro m d' χ hm hf;simp only[V6,XD.2 ho,uc];refine⟨B7 c m d',d,?_,?_,hf,hr⟩
    ·simp only[B7,dc];rw[fc (by omega),ed (by omega)];simp
    ·simp only[B7,an,aq,bk];omega
  ·rename_i ho;have ho': ¬o<n:=fun e=>ho (XD.2 e);obtain⟨b,c',h0,h1,h2,h3,h4,h5,h6⟩:=FQ hr h;subst e;refine⟨n+b,c',h0,by omega,h2,by simp;omega,h4,?_,?_⟩
   ·intro m k hm;rw[←h5 m k hm];simp only[sub];rw[show n+b+m=c.length+(b+m) by omega,←cw,fh rfl]
   ·intro m d' χ hm hf;have:=h6 m d' χ hm hf;simp only[V6,t7 ho];refine⟨c,_,?_,hl,hc,this⟩;simp only[B7];rw[jq,au (by omega),show n+b+m-c.length=b+m by omega];rw[show n+b+m+d'.length=c.length+(b+m+d'.length) by omega,←cw,fh rfl];simp
end
def Cx.setS(Γ:Cx)(j:Nat)(S:Dj):Cx:=⟨Γ.ts,(j,S)::Γ.ss⟩
section
variable{tb:CV}{Γ:Cx}{a b:AO}
theorem AA{j o off:Nat}(ha:C4 tb Γ a (.cp j o)):EG tb Γ (.fa off a) (some ()) fun _=> .cp j (o+off):=by
 rintro E rv fp f H R z ⟨⟩;obtain⟨l,id,e,hv⟩:=ha E rv fp f H R;exact⟨.ptr id (o+off),none,by simp only[BA,hv,shift,val,ak],rfl,l,id,e,rfl⟩
theorem GW{E:QS}{rv:Nat→AV}{fp:Fp}{f:Fr}{H:A6}(R:B5 E Γ rv fp f H){j:Nat}{ps:List (Nat×AY)}(hj:AQ Γ.ss j=some (.cells ps)){id:Nat}(e:rv j= .ptr id 0):
  ∃cs,(∀i,fp j i↔i=id)∧BR H id=some cs∧PR rv Γ.ss (Pf E Γ.ss fp H) H ps cs:=by
 obtain⟨id',cs,h1,h0,h2,h3⟩:=R.slots j _ hj;rw[e]at h1;cases h1;exact⟨cs,h0,h2,h3⟩
theorem A4{t u:T}{x:t.α}{j o o' n N:Nat}{ag:Bool}{ps:List (Nat×AY)}(ha:C4 tb Γ a (.cp j o))(hj:AQ Γ.ss j=some (.cells ps))(hp:Jv ps o=some (N, .val t x,o'))(F:AN t u o')(hag:ag=u.agg)(hn:n=u.sz):
  EG tb Γ (.ld ag n a) (some ()) fun _=> .val u (F.get x):=by
 rintro E rv fp f H R z ⟨⟩;obtain⟨l,id,e,hv⟩:=ha E rv fp f H R;obtain⟨cs,h0,h2,h3⟩:=GW R hj e;obtain⟨b',c,e0,e1,e2,e3,e4,e5,_⟩:=FQ h3 hp;have hle:=F.le;have hl:=t.len e4;have hr:=F.getR e4;rw[←e5 o' u.sz (by omega),←e1]at hr;obtain⟨v,g1,g2⟩:=T.V.of hr;subst hag hn;exact⟨v,none,by simp only[BA,hv,Am.load,place,h2,ak,aa,t6 (show o+u.sz≤cs.length by omega),g1,val],rfl,g2⟩
def isRef:AY→Bool
 | .own _=>true
 | .cp _ _=>true
 | .ep _ _ _=>true
 | .rp _ _=>true
 | .oc _ _ _ _=>true
 | .con _=>true
 | .fnv _ _ _=>true
 | .kv _=>true
 |_=>false
theorem isRef_one{φ:AY}(h:isRef φ=true){rv:Nat→AV}{ss:Ss}{P:Nat→Prop}{H:A6}{c:List AV}:FC rv ss P H φ c↔ ∃v,c=[v]∧FR rv ss P H φ v:=by
 cases φ<;>simp only[isRef,ah]at h<;>exact q7
theorem L6{φ:AY}{j o N:Nat}{ps:List (Nat×AY)}(ha:C4 tb Γ a (.cp j o))(hj:AQ Γ.ss j=some (.cells ps))(hp:Jv ps o=some (N,φ,0))(hφ:isRef φ=true):
  EG tb Γ (.ld false 1 a) (some ()) fun _=>φ:=by
 rintro E rv fp f H R z ⟨⟩;obtain⟨l,id,e,hv⟩:=ha E rv fp f H R;obtain⟨cs,h0,h2,h3⟩:=GW R hj e;obtain⟨b',c,e0,e1,e2,e3,e4,e5,_⟩:=FQ h3 hp;obtain⟨v,rfl,hr⟩:=(isRef_one hφ).1 e4;have hs:=e5 0 1 (by simp);rw[i6]at e1 hs;subst e1;simp only[ba,bu]at e3;exact⟨v,none,by simp only[BA,hv,Am.load,place,h2,ak,aa,t6 (show o+1≤cs.length by omega),hs,val];rfl,rfl,hr⟩
theorem dD{cs d:List AV}{o:Nat}(h:o+d.length≤cs.length):(B7 cs o d).length=cs.length:=by
 simp only[B7,an,aq,bk];omega
theorem Rq{cs d:List AV}{o m:Nat}(h:Bv cs≤m)(g:Bv d≤m):Bv (B7 cs o d)≤m:=by
 simp only[B7,Gs];have:=Mn cs o;have:=Kb cs (o+d.length);omega
theorem M_st{φ ψ:AY}{j o o' n N:Nat}{ps:List (Nat×AY)}(ha:C4 tb Γ a (.cp j o))(hj:AQ Γ.ss j=some (.cells ps))(hp:Jv ps o=some (N,φ,o'))
  (hb: ∀E rv fp f H,B5 E Γ rv fp f H→ ∀c,FC rv Γ.ss (Pf E Γ.ss fp H) H φ c→c.length=N→o'<c.length→(cellsOf (eval tb f b)).length=n∧o'+n≤c.length∧Bv (cellsOf (eval tb f b))≤H.length∧FC rv Γ.ss (Pf E Γ.ss fp H) H ψ (B7 c o' (cellsOf (eval tb f b)))):
  UP tb Γ none (.st n a b) (some ()) fun _=>Γ.setS j (.cells (V6 ps o ψ)):=by
 rintro E rv fp f H R z ⟨⟩;obtain⟨l,id,e,hv⟩:=ha E rv fp f H R;obtain⟨cs,h0,h2,h3⟩:=GW R hj e;obtain⟨b',c,e0,e1,e2,e3,e4,e5,e6⟩:=FQ h3 hp;obtain⟨g1,g2,g3,g4⟩:=hb E rv fp f H R c e4 e0 e2;have hpr:=e6 o' _ ψ (by omega) g4;rw[←e1]at hpr;have hmen:=PR.men R.ltP R.rvlt h3;have hlt:=(R.fplt j id l ((h0 id).2 rfl)).1;have hv0:=R.rvlt j l;obtain⟨rv',fp',_,_,R'⟩:=R.set (j:=j) (S:= .cells (V6 ps o ψ)) (v:=rv j) (o:= .cells (EQ H id) (B7 cs o (cellsOf (eval tb f b)))) (by rw[hj];rfl) l h0 (by simp only[DW];exact Rq hmen g3) rfl hv0 (.inl rfl) (R.scal j l) fun rv' fp' e1 e2 hP hs=>
  ⟨id,_,by rw[e1,e],e2,by simp[BR,hlt],PR.mono hP (by simp) (fun p _=>hs p.2 (.inl rfl)) hpr⟩
 refine⟨.junk,some (H.set id (BU.cells (EQ H id) (B7 cs o (cellsOf (eval tb f b))))),?_,rv',fp',R'⟩;simp only[BA,hv,store,h2,aa];rw[t6 ⟨g1,by omega⟩]
 rfl
theorem Bc{t u:T}{x:t.α}{y:u.α}{j o o' n N:Nat}{ps:List (Nat×AY)}(ha:C4 tb Γ a (.cp j o))(hb:C4 tb Γ b (.val u y))(hj:AQ Γ.ss j=some (.cells ps))(hp:Jv ps o=some (N, .val t x,o'))(F:AN t u o')(hn:n=u.sz):
  UP tb Γ none (.st n a b) (some (F.put x y)) fun z=>Γ.setS j (.cells (V6 ps o (.val t z))):=by
 have:=M_st (n:=n) (ψ:= .val t (F.put x y)) ha hj hp (b:=b) fun E rv fp f H R c hc _ _=>by
  have hv:=T.V.cells (hb E rv fp f H R);have hle:=F.le;have h1:=u.len hv;have h2:=t.len hc;exact⟨by rw[h1,hn],by omega,u.men hv R.ltP,F.putR hc hv⟩
 intro E rv fp f H R z hz;cases hz;exact this E rv fp f H R () rfl
theorem Bj{t:T}{d t0:Nat}{z:List AV}(j:Nat)(hz:z=t.zc)(hj:AQ Γ.ss j=none):UP tb Γ (some d) (.alloc t0 z) (some t.z) fun z=>⟨(d, .cp j 0)::Γ.ts,(j, .cells [(t.sz, .val t z)])::Γ.ss⟩:=by
 intro E rv fp f H R _ hz0;cases hz0;subst hz;have hzm:Bv t.zc≤0:=t.men (t.hz (fun _=>False) []) (fun _ h=>h.elim);obtain⟨rv',fp',h1,h2,h3⟩:=R.more (j:=j) (S:= .cells [(t.sz, .val t t.z)]) (v:= .ptr H.length 0) (o:= .cells (some t0) t.zc) (GO hj) (by simp only[DW];omega) rfl (by simp[ment]) rfl fun rv' fp' e1 e2 hP hs=>
  ⟨_,t.zc,e1,e2,by simp[BR],t.zc,[],(ei _).symm,t.len (t.hz (fun _=>False) []),t.hz _ _,rfl⟩
 exact⟨_,_,rfl,rv',fp',h3.push (φ:= .cp j 0) ⟨h2,_,h1,rfl⟩⟩
theorem B3{t:T}{x:t.α}{d n t0:Nat}(j:Nat)(hn:n=t.sz)(hj:AQ Γ.ss j=none)(ha:C4 tb Γ a (.val t x)):UP tb Γ (some d) (.box t0 n a) (some ()) fun _=>⟨(d, .cp j 0)::Γ.ts,(j, .cells [(t.sz, .val t x)])::Γ.ss⟩:=by
 rintro E rv fp f H R _ ⟨⟩;have hv:=T.V.cells (ha E rv fp f H R);have hl:=t.len hv;have hm:=t.men hv R.ltP;obtain⟨rv',fp',h1,h2,h3⟩:=R.more (j:=j) (S:= .cells [(t.sz, .val t x)]) (v:= .ptr H.length 0) (o:= .cells (some t0) (cellsOf (eval tb f a))) (GO hj) (by simp only[DW];omega) rfl (by simp[ment]) rfl fun rv' fp' e1 e2 hP hs=>
  ⟨_,cellsOf (eval tb f a),e1,e2,by simp[BR],cellsOf (eval tb f a),[],(ei _).symm,hl,t.mono hP hv,rfl⟩
 refine⟨.ptr H.length 0,some (H++[BU.cells (some t0) (cellsOf (eval tb f a))]),by simp only[BA];rw[t6 (by rw[hl,hn])],rv',fp',h3.push (φ:= .cp j 0) ⟨h2,_,h1,rfl⟩⟩
def appG{α:Type}:GS α→List α→GS α
 | .nil,[]=> .nil
 | .nil,l=> .mk l
 | .mk a,l=> .mk (a++l)
theorem B5.moreNil{E:QS}{rv:Nat→AV}{fp:Fp}{f:Fr}{H:A6}(R:B5 E Γ rv fp f H){j:Nat}(t:T)(hj: ¬Bn Γ.ss j): ∃rv' fp',rv' j= .nils∧Bn ((j, .row t .nil)::Γ.ss) j∧B5 E ⟨Γ.ts,(j, .row t .nil)::Γ.ss⟩ rv' fp' f H:=
 R.chg (F:=fun _=>False) (v:= .nils) (G:=H) (by
   cases e:Dw (AQ Γ.ss j)with
   |false=>rfl
   |true=>exact absurd (NB e) hj) rfl (bc _) (fun _ _ _=>rfl) (fun _ h=>h.elim) (fun l=>absurd l hj) R.wf (by simp[ment]) (.inr rfl) fun rv' fp' e1 e2 _ _=>⟨e1,fun i h=>by rw[e2]at h;exact h⟩
theorem born{t:T}{n j:Nat}(hj:AQ Γ.ss j=none)(ha:BP Γ.ts n=some (.val (T.sl t) .nil)): ∀E f H,Rel E Γ f H→Rel E ⟨(n, .own j)::Γ.ts,(j, .row t .nil)::Γ.ss⟩ f H:=by
 rintro E f H ⟨rv,fp,R⟩;obtain⟨rv',fp',h1,h2,I⟩:=R.moreNil t (GO hj);have hv:get f n= .nils:=JY.1 (R.temps n _ ha);refine⟨rv',fp',I.le,I.base,I.wf,I.fplt,I.rvlt,I.scal,I.inj,I.slots,fun u φ e=> ?_,I.gh⟩;simp only[BP]at e
 split at e
 ·rename_i hu;cases e;subst hu;exact⟨h2,by rw[h1,hv]⟩
 ·exact I.temps u φ e
theorem bornP{t:T}{i o j N:Nat}{ps:List (Nat×AY)}(hj:AQ Γ.ss j=none)(hij:fx i j=false)(hi:AQ Γ.ss i=some (.cells ps))(hp:Jv ps o=some (N, .val (T.sl t) .nil,0)):
  ∀E f H,Rel E Γ f H→Rel E ⟨Γ.ts,(i, .cells (V6 ps o (.own j)))::(j, .row t .nil)::Γ.ss⟩ f H:=by
 rintro E f H ⟨rv,fp,R⟩;obtain⟨rv',fp',h1,h2,I⟩:=R.moreNil t (GO hj);have hne:i≠j:=by rintro rfl;simp[mc]at hij
 have hi':AQ ((j, .row t .nil)::Γ.ss) i=some (.cells ps):=by simp only[AQ,t7 (iz hne)];exact hi
 obtain⟨id,cs,e1,e0,e2,e3⟩:=I.slots i _ hi';obtain⟨b',c,g0,g1,g2,g3,g4,g5,g6⟩:=FQ e3 hp;obtain⟨v,rfl,hv⟩:=g4;have hv':v= .nils:=hv;subst hv';have hs:B7 [.nils] 0 [.nils]=([.nils]:List AV):=rfl;have hpr:=g6 0 [.nils] (.own j) (by simp) (by rw[hs];exact⟨_,rfl,h2,h1.symm⟩);have hsame:B7 cs (b'+0) [.nils]=cs:=by
  have h:=g5 0 1 (by simp);simp only[i6,sub,dq,i',lq]at h ⊢;simp only[ba,bu]at g3;simp only[B7,ba,bu];rw[←h,br,←cw,c9,c9]
 rw[hsame]at hpr;have hli:Bn ((j, .row t .nil)::Γ.ss) i:=Kz hi' rfl;obtain⟨rv2,fp2,_,_,I2⟩:=I.chg (j:=i) (S:= .cells (V6 ps o (.own j))) (v:=rv' i) (F:=fp' i) (G:=H) (by rw[hi'];rfl) rfl (bc _) (fun _ _ _=>rfl) (fun _ h=> .inl ⟨hli,h⟩) (fun _=> .inl rfl) I.wf (I.rvlt i hli) (.inr ((I.scal i hli).resolve_left (by rw[hi'];simp[Dw]))) fun rv2 fp2 f1 f2 hP hs=>
  ⟨id,cs,by rw[f1];exact e1,by rw[f2];exact e0,e2,hpr.mono hP (bc _) fun p _=>hs p.2 fun _=> .inl rfl⟩
 exact⟨rv2,fp2,I2⟩
end
end
section
section
variable{tb:CV}{Γ:Cx}{a b:AO}
def NewL(tb:CV)(Γ:Cx)(a:AO)(t:T)(l:List t.α):Prop:= ∀E rv fp f H,B5 E Γ rv fp f H→ ∃els,uI H t.sz (eval tb f a)=some els∧CM t (Pf E Γ.ss fp H) H els l
theorem VB{t:T}{g:GS t.α}(ha:C4 tb Γ a (.val (T.sl t) g)):NewL tb Γ a t g.l:=by
 intro E rv fp f H R;have hv:=JY.1 (ha E rv fp f H R);obtain⟨els,e,h⟩:=hv.els;refine⟨els,?_,h⟩;have hs:=hv.sca;cases hx:eval tb f a<;>rw[hx]at e hv<;>first
  |exact e
  |(cases g<;>first|(have hv':=hv;cases hv';done)|(have:=hv.1;simp only[Nb]at this;done))
theorem oO{P:Nat→Prop}{H:A6}: ∀l:AP,CM T.u8 P H (BS l) l
 |[]=>trivial
 |c::l=>⟨rfl,oO l⟩
def SS{α:Type}(bytes:Nat)(g:GS α)(l:List α):Option (GS α):=if(g.l.length+l.length)*bytes≤Ci then some (appG g l)else none
theorem Vc: ∀(x y:List (List AV)),CT (x++y)=max (CT x) (CT y)
 |[],y=>by simp[CT]
 |z::x,y=>by simp only[cd,CT,Vc x y];omega
theorem OD{t:T}{g:GS t.α}{l:List t.α}{d j t0 sz bytes:Nat}(hs:sz=t.sz)(ha:C4 tb Γ a (.own j))(hj:AQ Γ.ss j=some (.row t g))(hb:NewL tb Γ b t l):
  UP tb Γ (some d) (.app t0 sz bytes a b) (SS bytes g l) fun g'=>⟨(d, .own j)::(Γ.kill j).ts,(j, .row t g')::(Γ.kill j).ss⟩:=by
 intro E rv fp f H R g' hg;simp only[SS]at hg
 split at hg
 ·rename_i hle;cases hg;subst hs;obtain⟨els,e,hels⟩:=hb E rv fp f H R;have hel:=hels.length;have hlive:Bn Γ.ss j:=Kz hj rfl;have hnk:Dw (AQ Γ.ss j)=false:=by rw[hj];rfl
  have hka:=yA R hnk;have K:=R.kill j hnk;have hkk:Dw (AQ (Γ.kill j).ss j)=false:=by rw[Cx.kill];simp only[HM,Y9];exact hnk
  have hkl:Bn (Γ.kill j).ss j:=WV.2 hlive;have hslot:=R.slots j _ hj;have hPk: ∀i,Pf E Γ.ss fp H i→Pf E (Γ.kill j).ss fp H i:=fun i=>Pf.same fun k l=>WV.1 l;have hels':=hels.mono (Q:=Pf E (Γ.kill j).ss fp H) (G:=H) fun i hi=>⟨hPk i hi,rfl⟩;have hmen:=hels'.men K.ltP;obtain⟨_,hv⟩:=ha E rv fp f H R;simp only[BA,e,aa,hv];cases g with
  |nil=>
   obtain⟨hr,hf⟩:=hslot;rw[hr];simp only[GS.l,bu,dc]at hle;cases l with
   |nil=>
    have:els=[]:=im.1 hel;subst this;obtain⟨rv',fp',h1,h2,h3⟩:=K.chg (j:=j) (S:= .row t .nil) (v:= .nils) (F:=fp j) (G:=H) hkk rfl (bc _) (fun _ _ _=>rfl) (fun i hi=>absurd hi (hf i)) (fun _=> .inr hka) K.wf (by simp[ment]) (.inr rfl)
     fun rv' fp' e1 e2 _ _=>⟨e1,fun i=>by rw[e2];exact hf i⟩
    exact⟨.nils,none,rfl,rv',fp',h3.push (φ:= .own j) ⟨h2,h1.symm⟩⟩
   |cons x l=>
    have hne: ¬els.length=0:=by rw[hel];simp
    obtain⟨rv',fp',h1,h2,h3⟩:=K.chg (j:=j) (S:= .row t (.mk (x::l))) (v:= .orow H.length els.length 0 els.length) (F:=fun i=>i=H.length) (G:=H++[.row (some t0) false t.sz els]) hkk rfl (by simp) (fun i hi _=>bq hi)
     (fun i hi=> .inr ⟨by omega,by simp;omega⟩) (fun _=> .inr hka) (by rw[Uo];have:=K.wf;simp only[C7,DW,an,ba,bu];omega) (by simp[ment]) (.inr rfl)
     fun rv' fp' e1 e2 hP _=>⟨_,els,e1,fun i=>by rw[e2],by simp[rowAt],hels'.mono hP⟩
    refine⟨.orow H.length els.length 0 els.length,some (H++[BU.row (some t0) false t.sz els]),?_,rv',fp',h3.push (φ:= .own j) ⟨h2,h1.symm⟩⟩;simp only[Zh,t7 hne];rw[t6 (by rw[hel];exact hle)]
  |mk q=>
   obtain⟨id,old,hr,hf,h2,h3⟩:=hslot;rw[hr];have hlen:=h3.length;have h3':=h3.mono (Q:=Pf E (Γ.kill j).ss fp H) (G:=H) fun i hi=>⟨hPk i hi,rfl⟩;have hm3:=h3'.men K.ltP;have hidlt:=(K.fplt j id hkl ((hf id).2 rfl)).1;simp only[GS.l]at hle;simp only[Zh,h2,aa];rw[t6 ⟨trivial,trivial,trivial,trivial,by rw[hlen,hel];exact hle,trivial⟩]
   by_cases h0:els.length=0
   ·rw[t6 h0];have hnil:els=[]:=im.1 h0;subst hnil;have hl0:l=[]:=im.1 hel.symm;subst hl0;obtain⟨rv',fp',g1,g2,g3⟩:=K.chg (j:=j) (S:= .row t (.mk q)) (v:=rv j) (F:=fp j) (G:=H) hkk rfl (bc _) (fun _ _ _=>rfl) (fun i hi=> .inl ⟨hkl,hi⟩) (fun _=> .inl rfl) K.wf (K.rvlt j hkl) (.inr (by rw[hr];rfl))
     fun rv' fp' e1 e2 hP _=>⟨id,old,by rw[e1];exact hr,by rw[e2];exact hf,h2,h3'.mono hP⟩
    refine⟨.orow id old.length 0 old.length,none,rfl,rv',fp',?_⟩;have:=g3.push (d:=d) (φ:= .own j) (v:=rv j) ⟨g2,g1.symm⟩;rw[hr]at this;simpa [appG,Cx.push]using this
   ·rw[t7 h0];obtain⟨rv',fp',g1,g2,g3⟩:=K.set (j:=j) (S:= .row t (.mk (q++l))) (v:= .orow id (old++els).length 0 (old++els).length) (o:= .row (ZA (EQ H id) t0) false t.sz (old++els)) hkk hkl hf (by simp only[DW,Vc];omega) rfl (by simp only[ment];omega) (.inr hka) (.inr rfl)
     fun rv' fp' e1 e2 hP _=>⟨id,old++els,e1,e2,by simp[rowAt,hidlt],(h3'.app hels').mono hP⟩
    refine⟨.orow id (old++els).length 0 (old++els).length,some (H.set id (.row (ZA (EQ H id) t0) false t.sz (old++els))),by rw[an],rv',fp',g3.push (φ:= .own j) ⟨g2,g1.symm⟩⟩
 ·cases hg
def mkG{α:Type}(z:α)(bytes:Nat)(l c:Int):Option (GS α):=if 0≤l∧l≤c∧c*bytes≤Ci then some (.mk (az l.toNat z))else none
theorem all_zero{t:T}{P:Nat→Prop}{H:A6}: ∀n,CM t P H (az n t.zc) (az n t.z)
 |0=>trivial
 |n+1=>⟨t.hz P H,all_zero n⟩
theorem Z5{z:List AV}(h:Bv z≤0): ∀n,CT (az n z)≤0
 |0=>by simp[CT]
 |n+1=>by simp only[kj,CT];have:=Z5 h n;omega
theorem M_mks{t:T}{d t0 sz bytes:Nat}{zero:List AV}{k k':IntKind}{l c:Int}(j:Nat)(hs:sz=t.sz)(hz:zero=t.zc)(hj:AQ Γ.ss j=none)(ha:C4 tb Γ a (.val (T.int k) l))(hb:C4 tb Γ b (.val (T.int k') c)):
  UP tb Γ (some d) (.mks t0 sz bytes zero a b) (mkG t.z bytes l c) fun g=>⟨(d, .own j)::Γ.ts,(j, .row t g)::Γ.ss⟩:=by
 intro E rv fp f H R g hg;simp only[mkG]at hg
 split at hg
 ·rename_i hc;cases hg;subst hs hz;have hzm:Bv t.zc≤0:=t.men (t.hz (fun _=>False) []) (fun _ h=>h.elim);have hzz:=Z5 hzm l.toNat;obtain⟨rv',fp',h1,h2,h3⟩:=R.more (j:=j) (S:= .row t (.mk (az l.toNat t.z))) (v:= .orow H.length l.toNat 0 l.toNat) (o:= .row (some t0) false t.sz (az l.toNat t.zc)) (GO hj) (by simp only[DW];omega) rfl (by simp[ment]) rfl fun rv' fp' e1 e2 hP hs=>
   ⟨_,az l.toNat t.zc,by simpa using e1,e2,by simp[rowAt],all_zero _⟩
  refine⟨.orow H.length l.toNat 0 l.toNat,some (H++[BU.row (some t0) false t.sz (az l.toNat t.zc)]),?_,rv',fp',h3.push (d:=d) (φ:= .own j) ⟨h2,h1.symm⟩⟩;simp only[BA,BZ.1 (ha E rv fp f H R),BZ.1 (hb E rv fp f H R),Ir,aa];rw[t6 hc]
 ·cases hg
theorem own_v{t:T}{g:GS t.α}{j:Nat}(ha:C4 tb Γ a (.own j))(hj:AQ Γ.ss j=some (.row t g)){E:QS}{rv:Nat→AV}{fp:Fp}{f:Fr}{H:A6}(R:B5 E Γ rv fp f H):
  (g= .nil∧eval tb f a= .nils)∨ ∃id els l,g= .mk l∧rv j= .orow id els.length 0 els.length∧(∀i,fp j i↔i=id)∧rowAt H id=some (false,t.sz,els)∧CM t (Pf E Γ.ss fp H) H els l∧eval tb f a= .orow id els.length 0 els.length:=by
 obtain⟨_,hv⟩:=ha E rv fp f H R;have hs:=R.slots j _ hj;cases g with
 |nil=>exact .inl ⟨rfl,hv.trans hs.1⟩
 |mk l=>
  obtain⟨id,els,h1,h0,h2,h3⟩:=hs;exact .inr ⟨id,els,l,rfl,h1,h0,h2,h3,hv.trans h1⟩
theorem h_lenO{t:T}{g:GS t.α}{j:Nat}(ha:C4 tb Γ a (.own j))(hj:AQ Γ.ss j=some (.row t g)):EG tb Γ (.len a) (some (g.l.length:Int)) fun z=> .val tv z:=by
 rintro E rv fp f H R z ⟨⟩;rcases own_v ha hj R with ⟨rfl,hv⟩|⟨id,els,l,rfl,_,_,_,h,hv⟩
 ·exact⟨_,none,by simp only[BA,hv,Tq,ak];rfl,rfl,BZ.2 rfl⟩
 ·exact⟨_,none,by simp only[BA,hv,Tq,ak,h.length];rfl,rfl,BZ.2 rfl⟩
def Dl(n:Nat)(i:Int):Option Nat:=if 0≤i∧i.toNat<n then some i.toNat else none
theorem fX{t:T}{g:GS t.α}{j sz:Nat}{k:IntKind}{i:Int}(hs:sz=t.sz)(ha:C4 tb Γ a (.own j))(hj:AQ Γ.ss j=some (.row t g))(hb:C4 tb Γ b (.val (T.int k) i)):
  EG tb Γ (.ias sz a b) (Dl g.l.length i) fun n=> .ep j n 0:=by
 intro E rv fp f H R n hn;simp only[Dl]at hn
 split at hn
 ·rename_i hc;cases hn;subst hs;have hl:Bn Γ.ss j:=Kz hj rfl;rcases own_v ha hj R with ⟨rfl,hv⟩|⟨id,els,l,rfl,hid,_,hr,h,hv⟩
  ·simp[GS.l]at hc
  ·have hlen:=h.length;simp only[GS.l]at hc;have hx:WY H t.sz (.orow id els.length 0 els.length) i.toNat=some (.pe id els.length (0+i.toNat) 0):=by
    simp[WY,EX,hr,hlen,hc.2]
   refine⟨.pe id els.length (0+i.toNat) 0,none,by simp only[BA,hv,BZ.1 (hb E rv fp f H R),Ir,aa,t6 hc.1,hx,val,ak],rfl,hl,id,els.length,hid,by omega,by rw[dc]⟩
 ·cases hn
theorem h_ldE{t u:T}{g:GS t.α}{j i off n:Nat}{ag:Bool}(hag:ag=u.agg)(hn:n=u.sz)(F:AN t u off)(ha:C4 tb Γ a (.ep j i off))(hj:AQ Γ.ss j=some (.row t g)):EG tb Γ (.ld ag n a) ((g.l[i]?).map F.get) fun z=> .val u z:=by
 intro E rv fp f H R z hz;obtain⟨x,hx,rfl⟩:=aj.1 hz;obtain⟨_,id,m,hid,hi,hv⟩:=ha E rv fp f H R;have hs:=R.slots j _ hj;cases g with
 |nil=>simp[GS.l]at hx
 |mk l=>
  obtain⟨id',els,h1,h0,h2,h3⟩:=hs;rw[hid]at h1;cases h1;obtain⟨c,hc,hr⟩:=h3.get hx;have hle:=F.le;have hl:=t.len hr;obtain⟨v,g1,g2⟩:=T.V.of (F.getR hr);subst hag hn;refine⟨v,none,?_,rfl,g2⟩;have hlf:off+u.sz≤((els.drop i).flatten).length:=by rw[Us hc];simp;omega
  simp only[BA,hv,Am.load,place,h2,aa,t6,ak,t6 hlf,val];rw[Us hc,tA (by omega),g1];rfl
def GS.set{α:Type}:GS α→Nat→α→GS α
 | .nil,_,_=> .nil
 | .mk l,i,x=> .mk (l.set i x)
theorem M_stE{t u:T}{g:GS t.α}{y:u.α}{j i off n:Nat}(hn:n=u.sz)(F:AN t u off)(ha:C4 tb Γ a (.ep j i off))(hb:C4 tb Γ b (.val u y))(hj:AQ Γ.ss j=some (.row t g)):
  UP tb Γ none (.st n a b) ((g.l[i]?).map fun x=>g.set i (F.put x y)) fun g'=>Γ.setS j (.row t g'):=by
 intro E rv fp f H R g' hg;obtain⟨x,hx,rfl⟩:=aj.1 hg;obtain⟨hl,id,m,hid,hi,hv⟩:=ha E rv fp f H R;have hs:=R.slots j _ hj;cases g with
 |nil=>simp[GS.l]at hx
 |mk l=>
  obtain⟨id',els,h1,h0,h2,h3⟩:=hs;rw[hid]at h1;cases h1;obtain⟨c,hc,hr⟩:=h3.get hx;have hle:=F.le;have hlen:=t.len hr;have hy:=T.V.cells (hb E rv fp f H R);have hyl:=u.len hy;have hput:=F.putR hr hy;have hidlt:=(R.fplt j id hl ((h0 id).2 rfl)).1;have hall:=h3.set (i:=i) hput;have hmm:=hall.men R.ltP;obtain⟨rv',fp',_,_,R'⟩:=R.set (j:=j) (S:= .row t (GS.set (.mk l) i (F.put x y))) (v:=rv j) (o:= .row (EQ H id) false t.sz (els.set i (B7 c off (cellsOf (eval tb f b))))) (by rw[hj];rfl) hl h0 (by simpa [DW]using hmm) rfl (R.rvlt j hl) (.inl rfl) (R.scal j hl)
   fun rv' fp' e1 e2 hP _=>⟨id,_,by rw[e1,hid,ig],e2,by simp[rowAt,hidlt],hall.mono hP⟩
  refine⟨.junk,some (H.set id (.row (EQ H id) false t.sz (els.set i (B7 c off (cellsOf (eval tb f b)))))),?_,rv',fp',R'⟩;subst hn;simp only[BA,hv,store,h2,aa];rw[t6 ⟨trivial,trivial,hyl⟩];simp only[hc,aa];rw[t6 (show off+u.sz≤c.length by omega)]
  rfl
end
end
section
section
variable{tb:CV}{Γ:Cx}{a b:AO}
theorem Zb{P:Nat→Prop}{H:A6}: ∀{els:List (List AV)} {l:AP},CM T.u8 P H els l→F7 els=some l
 |[],[],_=>rfl
 |c::els,x::l,h=>by
  have hc:c=[.i .u8 x.toNat]:=h.1;subst hc;simp only[F7,Zb h.2,ak];congr 2;simp
theorem h_cvs{g:GS UInt8}(ha:C4 tb Γ a (.val (T.sl T.u8) g)):EG tb Γ (.cvs a) (some g.l) fun z=> .val Au z:=by
 rintro E rv fp f H R z ⟨⟩;obtain⟨els,e,h⟩:=(JY.1 (ha E rv fp f H R)).els;refine⟨.s g.l,none,?_,rfl,Ek.2 rfl⟩;have e':EX H 1 (eval tb f a)=some els:=e;simp only[BA,e',aa,Zb h,val];rfl
def Yz{α:Type}(g:GS α)(c d:Nat):GS α:=match g with
 | .nil=> .nil
 | .mk l=> .mk ((l.take d).drop c)
def slG{α:Type}(g:GS α)(lo hi:Option Int):Option (GS α):=(SV g.l.length lo hi).map fun p=>Yz g p.1 p.2
theorem bnd_le{n:Nat}{lo hi:Option Int}{p:Nat×Nat}(h:SV n lo hi=some p):p.1≤p.2∧p.2≤n:=by
 unfold SV at h;obtain⟨u,hu,h⟩:=ad.1 h;obtain⟨l,hl,h⟩:=ad.1 h;cases h;have h1:u≤n:=by
  cases hi with
  |none=>cases hu;omega
  |some m=>simp only[]at hu;split at hu<;>cases hu;omega
 have h2:l≤u:=by
  cases lo with
  |none=>cases hl;omega
  |some m=>simp only[]at hl;split at hl<;>cases hl;omega
 exact⟨h2,h1⟩
theorem Ok{sz:Nat}: ∀{len c d:Nat} {l:List AV},c≤d→d≤len→((BV sz len l).take d).drop c=BV sz (d-c) (l.drop (c*sz))
 |len,0,0,l,_,_=>by simp[BV]
 |len,c+1,0,l,h,_=>by omega
 |0,c,d+1,l,_,h=>by omega
 |len+1,0,d+1,l,_,h=>by
  have:=Ok (sz:=sz) (len:=len) (c:=0) (d:=d) (l:=l.drop sz) (by omega) (by omega);simp only[dq,kc,ny]at this;simp[BV,this]
 |len+1,c+1,d+1,l,h1,h2=>by
  have:=Ok (sz:=sz) (len:=len) (c:=c) (d:=d) (l:=l.drop sz) (by omega) (by omega);simp only[BV,i',jy,this,cw,ci];rw[show d+1-(c+1)=d-c by omega,pn sz]
theorem ST.resl{t:T}{P:Nat→Prop}{H:A6}{v:AV}{c d:Nat}(h1:c≤d): ∀{g:GS t.α},d≤g.l.length→ST t P H v g→ ∃w,Am.resl H t.sz v c d=some w∧ST t P H w (Yz g c d)
 | .nil,_,h=>by rw[show v=_ from h];exact⟨.nils,rfl,rfl⟩
 | .mk l,hd,⟨bp,els,e,h⟩=>by
  have hl:=h.length;simp only[GS.l]at hd;have hall:=h.take (n:=d) |>.drop (n:=c);cases v<;>simp only[Nb]at bp<;>simp only[EX]at e
  ·split at e
   ·rename_i hs;cases e;subst hs;exact⟨.sl t.sz ((els.take d).drop c),by simp[Am.resl],trivial,_,by simp[EX],hall⟩
   ·cases e
  ·rename_i id k lo len;obtain⟨r,hr,e⟩:=ad.1 e
   split at e
   ·rename_i hc;cases e;rw[aq,bk]at hl;refine⟨.orow id k (lo+c) (d-c),by simp only[Am.resl,hr,aa];rw[t6 hc],bp,(r.2.2.drop (lo+c)).take (d-c),?_,?_⟩
    ·simp only[EX,hr,aa];rw[t6 ⟨hc.1,hc.2.1,by omega⟩]
    ·have:(((r.2.2.drop lo).take len).take d).drop c=(r.2.2.drop (lo+c)).take (d-c):=by
      rw[kp,fq (by omega),ic,cw]
     rw[this]at hall;exact hall
   ·cases e
  ·rename_i sz' id off len;obtain⟨r,hr,e⟩:=ad.1 e
   split at e
   ·rename_i hc;have he:some (BV t.sz len (r.drop off))=some els:=e;cases he;obtain⟨hs,hc⟩:=hc;subst hs;have hcl:(BV t.sz len (r.drop off)).length=len:=by
     have: ∀(n:Nat) (l:List AV),(BV t.sz n l).length=n:=by
      intro n
      induction n with
      |zero=>intro l;rfl
      |succ n ih=>intro l;simp[BV,ih]
     exact this _ _
    rw[hcl]at hl;refine⟨.ocel t.sz id (off+c*t.sz) (d-c),by simp only[Am.resl,uc],bp,BV t.sz (d-c) (r.drop (off+c*t.sz)),?_,?_⟩
    ·have hmul:(d-c)*t.sz+c*t.sz≤len*t.sz:=by
      rw[←ga];exact cn _ (by omega)
     simp only[EX,hr,aa];rw[t6 ⟨trivial,by omega⟩]
    ·have:=Ok (sz:=t.sz) (len:=len) (c:=c) (d:=d) (l:=r.drop off) h1 (by omega);rw[this,cw]at hall;exact hall
   ·cases e
theorem h_sll{t:T}{g:GS t.α}{sz:Nat}{lo hi:Option AO}{l h:Option Int}(hs:sz=t.sz)(ha:C4 tb Γ a (.val (T.sl t) g))(hl:OpO tb Γ lo l)(hh:OpO tb Γ hi h):EG tb Γ (.sll sz a lo hi) (slG g l h) fun z=> .val (T.sl t) z:=by
 intro E rv fp f H R z hz;obtain⟨p,hp,rfl⟩:=aj.1 hz;have hv:=JY.1 (ha E rv fp f H R);obtain⟨h1,h2⟩:=bnd_le hp;obtain⟨w,h3,h4⟩:=hv.resl h1 h2;subst hs;exact⟨w,none,by simp only[BA,hv.len,aa,Zd hl hh R,hp,h3,val,ak],rfl,JY.2 h4⟩
inductive AbE(tb:CV)(Γ:Cx)(t:T):List (Nat×Nat×AO)→t.α→t.α→Prop where
 |nil (x:t.α):AbE tb Γ t [] x x
 |cons {u:T} {off n:Nat} {a:AO} {r:List (Nat×Nat×AO)} {x z:t.α} {y:u.α} (F:AN t u off) (hn:n=u.sz) (h:C4 tb Γ a (.val u y)) (k:AbE tb Γ t r (F.put x y) z):AbE tb Γ t ((off,n,a)::r) x z
theorem AbE.spec{t:T}{E:QS}{rv:Nat→AV}{fp:Fp}{f:Fr}{H:A6}(R:B5 E Γ rv fp f H): ∀{ps:List (Nat×Nat×AO)} {x z:t.α} {cs:List AV},AbE tb Γ t ps x z→t.R (Pf E Γ.ss fp H) H cs x→
  ∃ds,Po cs (eval tb f) ps=some ds∧t.R (Pf E Γ.ss fp H) H ds z
 |_,_,_,cs, .nil _,h=>⟨cs,rfl,h⟩
 |_,_,_,cs, .cons (u:=u) (off:=off) F hn ho k,h=>by
  have hv:=T.V.cells (ho E rv fp f H R);have hl:=u.len hv;have hle:=F.le;have ht:=t.len h;obtain⟨ds,h1,h2⟩:=k.spec R (F.putR h hv);refine⟨ds,?_,h2⟩;simp only[Po];rw[t6 ⟨by rw[hl,hn],by omega⟩];exact h1
theorem Ch{t:T}{zero:List AV}{ps:List (Nat×Nat×AO)}{z:t.α}(hz:zero=t.zc)(ht:t.agg=true)(h:AbE tb Γ t ps t.z z):EG tb Γ (.bld zero ps) (some z) fun z=> .val t z:=by
 rintro E rv fp f H R _ ⟨⟩;subst hz;obtain⟨ds,h1,h2⟩:=h.spec R (t.hz _ _);exact⟨.agg ds,none,by simp only[BA,h1,ak,val],rfl, .inl ⟨ht,ds,rfl,h2⟩⟩
inductive AbD(tb:CV)(Γ:Cx)(t:T):List (Nat×AO)→List t.α→List t.α→Prop where
 |nil (l:List t.α):AbD tb Γ t [] l l
 |cons {i:Nat} {a:AO} {r:List (Nat×AO)} {l m:List t.α} {y:t.α} (hi:kh i l.length=true) (h:C4 tb Γ a (.val t y)) (k:AbD tb Γ t r (l.set i y) m):AbD tb Γ t ((i,a)::r) l m
theorem AbD.spec{t:T}{E:QS}{rv:Nat→AV}{fp:Fp}{f:Fr}{H:A6}(R:B5 E Γ rv fp f H): ∀{ps:List (Nat×AO)} {l m:List t.α} {els:List (List AV)},AbD tb Γ t ps l m→CM t (Pf E Γ.ss fp H) H els l→
  ∃ds,Pp els t.sz (eval tb f) ps=some ds∧CM t (Pf E Γ.ss fp H) H ds m
 |_,_,_,els, .nil _,h=>⟨els,rfl,h⟩
 |_,_,_,els, .cons (i:=i) hi ho k,h=>by
  have hv:=T.V.cells (ho E rv fp f H R);have hl:=t.len hv;have hlen:=h.length;rw[XD]at hi;obtain⟨ds,h1,h2⟩:=k.spec R (h.set (i:=i) hv);refine⟨ds,?_,h2⟩;simp only[Pp];rw[t6 ⟨hl,by omega⟩];exact h1
theorem Pb{t:T}{zero:List (List AV)}{sz n:Nat}{ps:List (Nat×AO)}{l:List t.α}(hs:sz=t.sz)(hz:zero=az n t.zc)(h:AbD tb Γ t ps (az n t.z) l):EG tb Γ (.bll sz zero ps) (some l) fun l=> .val (T.sl t) (.mk l):=by
 rintro E rv fp f H R _ ⟨⟩;subst hz hs;obtain⟨ds,h1,h2⟩:=h.spec R (CM.rep (t.hz _ _) n);exact⟨.sl t.sz ds,none,by simp only[BA,h1,ak,val],rfl,JY.2 ⟨trivial,ds,by simp[EX],h2⟩⟩
theorem Ar.get_lt{α:Type}{n:Nat}(x:Ar α n){i:Nat}{y:α}(h:x.l[i]? =some y):i<n:=by
 have:=(cg.1 h).1;have:=x.len;omega
theorem vN{sz:Nat}: ∀{l:List (List AV)} {i:Nat} {c:List AV},(∀e∈l,e.length=sz)→l[i]? =some c→sub l.flatten (i*sz) sz=c
 |[],i,c,_,h=>by simp at h
 |d::l,0,c,hl,h=>by
  simp only[bw,ae]at h;subst h;have:=hl d bg;simp[sub,this]
 |d::l,i+1,c,hl,h=>by
  simp only[di]at h;have h1:=hl d bg;have:=vN (l:=l) (fun e he=>hl e (a8 _ he)) h;simp only[sub]at this ⊢;rw[bz,show(i+1)*sz=d.length+i*sz by rw[ci];omega,←cw,fh rfl];exact this
theorem ZI{sz:Nat}: ∀{l:List (List AV)} {i:Nat} {c:List AV},(∀e∈l,e.length=sz)→i<l.length→c.length=sz→B7 l.flatten (i*sz) c=(l.set i c).flatten
 |[],i,c,_,h,_=>by simp at h
 |d::l,0,c,hl,h,hc=>by
  have:=hl d bg;simp only[B7,kc,lq,dc,dt,jo,bz];rw[hc,←this,fh rfl]
 |d::l,i+1,c,hl,h,hc=>by
  have h1:=hl d bg;have ih:=ZI (l:=l) (fun e he=>hl e (a8 _ he)) (by simpa using h) hc;simp only[B7]at ih ⊢;rw[bz,j4,bz,←ih,show(i+1)*sz=d.length+i*sz by rw[ci];omega];rw[jq,au (by omega),show d.length+i*sz-d.length=i*sz by omega];rw[show d.length+i*sz+c.length=d.length+(i*sz+c.length) by omega,←cw,fh rfl];simp
def AN.at(n:Nat)(t:T)(i:Nat)(hi:i<n):AN (T.arr n t) t (i*t.sz) where
 get:=fun x=>x.l[i]'(by rw[x.len];exact hi)
 put:=fun x y=>x.set i y
 le:=by
  show i*t.sz+t.sz≤n*t.sz;rw[←ci];exact cn _ hi
 getR:=fun{P H cs x} ⟨css,e,h⟩=>by
  obtain⟨c,hc,hr⟩:=h.get (i:=i) (x:=x.l[i]'(by rw[x.len];exact hi)) (ab _);rw[e,vN h.lens hc];exact hr
 putR:=fun{P H cs x c y} ⟨css,e,h⟩ k=>by
  have hlen:=h.length;have hx:=x.len;have hc:=t.len k;exact⟨css.set i c,by rw[e];exact ZI h.lens (by omega) hc,h.set k⟩
def M3{t u w:T}{o o':Nat}(F:AN t u o)(G:AN u w o'):AN t w (o+o') where
 get:=fun x=>G.get (F.get x)
 put:=fun x y=>F.put x (G.put (F.get x) y)
 le:=by have:=F.le;have:=G.le;omega
 getR:=fun{P H cs x} h=>by
  have h1:=F.le;have h2:=G.le;have h3:=t.len h;have:=G.getR (F.getR h);rw[show sub cs (o+o') w.sz=sub (sub cs o u.sz) o' w.sz by
   simp only[sub];rw[ic,kp,cw,fq (by omega)]]
  exact this
 putR:=fun{P H cs x c y} h k=>by
  have h1:=F.le;have h2:=G.le;have h3:=t.len h;have h4:=w.len k;have:=F.putR h (G.putR (F.getR h) k);rw[show B7 cs (o+o') c=B7 cs o (B7 (sub cs o u.sz) o' c) by
   have hsl:(B7 (sub cs o u.sz) o' c).length=u.sz:=by
    rw[dD]<;>simp only[sub,aq,bk]<;>omega
   apply ew;intro i;simp only[B7,sub,List.getElem?_append,dn,gj,an,aq,bk];have hl2:(B7 (sub cs o u.sz) o' c).length=u.sz:=hsl;simp only[B7,sub,an,aq,bk]at hl2
   repeat' split
   all_goals first|rfl|omega|(congr 1;omega)|(exfalso;omega)]
  exact this
theorem nM{n:Nat}{i:Int}{m:Nat}(h:Dl n i=some m):0≤i∧m=i.toNat∧m<n:=by
 unfold Dl at h
 split at h
 ·rename_i hc;cases h;exact⟨hc.1,rfl,hc.2⟩
 ·cases h
theorem EB{j o len sz:Nat}{k:IntKind}{i:Int}(ha:C4 tb Γ a (.cp j o))(hb:C4 tb Γ b (.val (T.int k) i)):EG tb Γ (.iaa len sz a b) (Dl len i) fun m=> .cp j (o+m*sz):=by
 intro E rv fp f H R m hm;obtain⟨h0,rfl,h1⟩:=nM hm;obtain⟨l,id,e,hv⟩:=ha E rv fp f H R;exact⟨.ptr id (o+i.toNat*sz),none,by simp only[BA,hv,BZ.1 (hb E rv fp f H R),Ir,aa,t6 (show 0≤i∧i<(len:Int) by omega),shift,val,ak],rfl,l,id,e,rfl⟩
theorem h_iaa{t:T}{n len sz:Nat}{x:Ar t.α n}{k:IntKind}{i:Int}(hl:len=n)(hs:sz=t.sz)(ha:C4 tb Γ a (.rp (T.arr n t) x))(hb:C4 tb Γ b (.val (T.int k) i)):EG tb Γ (.iaa len sz a b) (DN x.l i) fun y=> .rp t y:=by
 intro E rv fp f H R y hy;simp only[DN]at hy
 split at hy
 ·rename_i h0;have hlt:=x.get_lt hy;subst hl hs;obtain⟨v,h1,h2⟩:=jM.shift (AN.at len t i.toNat hlt) (ha E rv fp f H R);have:(AN.at len t i.toNat hlt).get x=y:=by
   have:=cg.1 hy;exact this.2
  rw[this]at h2;exact⟨v,none,by simp only[BA,BZ.1 (hb E rv fp f H R),Ir,aa,t6 (show 0≤i∧i<(len:Int) by omega),h1,val,ak],rfl,h2⟩
 ·cases hy
theorem h_ixa{t:T}{n len sz:Nat}{x:Ar t.α n}{ag:Bool}{k:IntKind}{i:Int}(hl:len=n)(hs:sz=t.sz)(hag:ag=t.agg)(ha:C4 tb Γ a (.val (T.arr n t) x))(hb:C4 tb Γ b (.val (T.int k) i)):EG tb Γ (.ixa len sz ag a b) (DN x.l i) fun y=> .val t y:=by
 intro E rv fp f H R y hy;simp only[DN]at hy
 split at hy
 ·rename_i h0;have hlt:=x.get_lt hy;subst hl hs hag;rcases ha E rv fp f H R with ⟨_,cs,e,r⟩|⟨e,_⟩
  ·have hg:=(AN.at len t i.toNat hlt).getR r;have:(AN.at len t i.toNat hlt).get x=y:=(cg.1 hy).2;rw[this]at hg;obtain⟨v,h1,h2⟩:=T.V.of hg;have hlen:=(T.arr len t).len r;have hlen':cs.length=len*t.sz:=hlen;exact⟨v,none,by simp only[BA,e,BZ.1 (hb E rv fp f H R),Ir,aa,t6 (show 0≤i∧i<(len:Int)∧len*t.sz≤cs.length by omega),h1,val,ak],rfl,h2⟩
  ·cases e
 ·cases hy
theorem Pa{s t:T}{x:s.α}{n j o o' m k N:Nat}{ag:Bool}{ps:List (Nat×AY)}(F:AN s (T.arr n t) o')(hag:ag=t.agg)(hk:k=t.sz)(ha:C4 tb Γ a (.cp j (o+m*t.sz)))(hj:AQ Γ.ss j=some (.cells ps))(hp:Jv ps o=some (N, .val s x,o')):
  EG tb Γ (.ld ag k a) ((F.get x).l[m]?) fun y=> .val t y:=by
 intro E rv fp f H R y hy;have hlt:=(F.get x).get_lt hy;obtain⟨l,id,e,hv⟩:=ha E rv fp f H R;obtain⟨cs,h0,h2,h3⟩:=GW R hj e;obtain⟨b',c,e0,e1,e2,e3,e4,e5,_⟩:=FQ h3 hp;have G:=M3 F (AN.at n t m hlt);have hr:=(M3 F (AN.at n t m hlt)).getR e4;have hle:=(M3 F (AN.at n t m hlt)).le;have hl:=s.len e4;have:(M3 F (AN.at n t m hlt)).get x=y:=(cg.1 hy).2;rw[this,←e5 (o'+m*t.sz) t.sz (by omega),show b'+(o'+m*t.sz)=o+m*t.sz by omega]at hr;obtain⟨v,g1,g2⟩:=T.V.of hr;subst hag hk;exact⟨v,none,by simp only[BA,hv,Am.load,place,h2,ak,aa,t6 (show o+m*t.sz+t.sz≤cs.length by omega),g1,val],rfl,g2⟩
end
end
end
end Go.Proofs.YtfdkkkdbknbmaaaGreatDoor.Am
