/-
  An abstract machine over flat lists of abstract cells: its values, its code and what its code does. Nothing here is about memory.
-/
import GoSem.Step
import Derived.Attr
import Derived.Calls
import Derived.Still
set_option linter.unusedVariables false
set_option linter.unusedSimpArgs false
namespace Go.Proofs.YtobejhpigbllpaaGreatDoor.Am
open _root_.Array renaming getElem?_eq_none→kx
open BitVec renaming ofInt→cm
open Bool renaming and_eq_true→af, and_true→kp, eq_iff_iff→i8, false_eq_true→au, not_eq_true'→cg
open Classical renaming choose→d5, choose_spec→jv
open Decidable renaming not_not→ig
open Iff renaming rfl→o9
open Int renaming fdiv_eq_ediv_of_nonneg→l7
open IntKind renaming bits→f4, signed→j4, wrap→ql
open List renaming all_append→jt, all_cons→fc, all_eq_true→cd, all_nil→o7, any_eq_true→kd, append_nil→dv, cons_append→dt, drop_append_of_le_length→dn, drop_drop→ck, drop_eq_getElem_cons→bk, drop_eq_nil_of_le→jp, drop_left'→ez, drop_succ_cons→jd, drop_take→gb, drop_zero→db, ext_getElem?→ii, filterMap_cons→jf, flatMap_cons→eh, flatten_cons→bm, getElem?_append_left→br, getElem?_cons_succ→c0, getElem?_cons_zero→bx, getElem?_drop→eo, getElem?_eq_getElem→ad, getElem?_eq_none→f9, getElem?_eq_some_iff→ca, getElem?_set_ne→dx, getElem?_set_self→dg, getElem?_take→dp, length_append→aw, length_cons→bb, length_drop→bh, length_eq_zero_iff→fb, length_nil→bz, length_set→fy, length_take→a6, map_append→de, map_congr_left→lq, map_cons→bn, mem_cons→bu, mem_cons_of_mem→bg, mem_cons_self→bj, mem_flatten→jh, mem_map→ls, mem_of_getElem?→cq, mem_singleton→gf, nil_append→dw, range'→fh, replicate→aq, replicate_succ→jg, set_cons_succ→jo, set_cons_zero→ir, take_append→gw, take_append_of_le_length→d8, take_of_length_le→av, take_succ_cons→im, take_take→ji, take_zero→j5, zipIdx_cons→ke
open List.cons renaming inj→gy
open Nat renaming add_comm→pc, add_mul→fx, add_zero→ja, beq→fv, beq_refl→lu, ble→oe, blt→je, eq_of_beq_eq_true→cv, le_max_left→fo, le_max_right→d9, le_of_ble_eq_true→i7, le_refl→be, le_trans→dy, lt_of_lt_of_le→en, lt_or_ge→dq, lt_trans→o6, min_eq_left→f3, mul_le_mul_right→cr, sub_zero→m7, succ_mul→ci, zero_add→da, zero_mul→jb
open Ne renaming symm→jz
open Op renaming bytesLess→m6
open Option renaming bind_eq_some_iff→ab, bind_some→aa, isSome_iff_exists→bl, map_eq_some_iff→aj, map_some→an
open Option.some renaming inj→bf, injEq→ae
open Prod.mk renaming injEq→ch
open Sum renaming elim→a8, elim_inl→fj, elim_inr→pa
open UInt16 renaming ofNat→bw, toNat_ofNat'→gn
open UInt32 renaming ofNat→pb
open UInt64 renaming ofNat→ei, toNat_ofNat'→io
open UInt8 renaming ofNat→bc, toNat_ofNat'→fk
open Utf8 renaming decode→gg, encode→mg
open World renaming cell?→f7, frozen?→jc
theorem qn{c:Prop}{h:Decidable c}(hc:c){α:Sort _}{t e:α}:ite c t e=t:=if_pos hc
theorem qo{c:Prop}{h:Decidable c}(hc:¬c){α:Sort _}{t e:α}:ite c t e=e:=if_neg hc
theorem qp{p:Prop}[Decidable p]:(decide p=true)=p:=decide_eq_true_eq
theorem qq{p:Prop}[Decidable p]:p→decide p=true:=decide_eq_true
theorem qr{p:Prop}[Decidable p]:¬p→decide p=false:=decide_eq_false
theorem qt{α:Sort _}{_:Decidable True}(t e:α):ite True t e=t:=if_true t e
theorem qu{α:Sort _}{_:Decidable False}(t e:α):ite False t e=e:=if_false t e
theorem qv{α:Sort _}{β:Sort _}{a b:α}(f:α→β)(h:a=b):f a=f b:=congrArg f h
section
inductive AV where
 |b (x:Bool)
 |i (k:IntKind) (n:Int)
 |s (l:List UInt8)
 |agg (cs:List AV)
 |tup (cs:List AV)
 |nilp
 |ptr (id off:Nat)
 |pe (id n i off:Nat)
 |ip (cs:List AV) (off:Nat)
 |nils
 |sl (sz:Nat) (els:List (List AV))
 |orow (id n lo len:Nat)
 |ocel (sz id off len:Nat)
 |nilm
 |mp (id:Nat)
 |nilf
 |fn (f:Fn) (first captured:List AV)
 |nili
 |ifc (t:Nat) (v:AV)
 |junk
 deriving Inhabited
inductive CB where
 |cells (t:Option Nat) (cs:List AV)
 |row (t:Option Nat) (fz:Bool) (sz:Nat) (els:List (List AV))
 |map (es:List (AV×AV))
 |iter (l:List UInt8) (pos:Nat)
 deriving Inhabited
abbrev Az:=List CB
abbrev Fr:=List (Nat×AV)
def get:Fr→Nat→AV
 |[],_=> .junk
 |(u,v)::r,t=>if u=t then v else get r t
def put(f:Fr)(d:Option Nat)(v:AV):Fr:=
 match d with
 |some t=>(t,v)::f
 |none=>f
inductive CK where
 |b
 |i (k:IntKind)
 |s
 deriving DecidableEq,Inhabited
inductive EK where
 |one (c:CK)
 |agg (l:List CK)
 |p
 |m
 |f
 |n
 |sl
 deriving DecidableEq,Inhabited
def zz:List (Nat×AV)→List AV
 |[]=>[]
 |(n,v)::r=>aq n v++zz r
def kk:List (Nat×CK)→List CK
 |[]=>[]
 |(n,c)::r=>aq n c++kk r
inductive AO where
 |t (n:Nat)
 |k (v:AV)
 |f (n:Nat)
 |g (n:Nat)
 deriving Inhabited
inductive HB where
 |mv (x:AO)
 |pick (c a b:AO)
 |alloc (t:Nat) (zero:List AV)
 |box (t n:Nat) (x:AO)
 |bld (zero:List AV) (parts:List (Nat×Nat×AO))
 |bls (t sz:Nat) (zero:List (List AV)) (parts:List (Nat×AO))
 |bll (sz:Nat) (zero:List (List AV)) (parts:List (Nat×AO))
 |ld (agg:Bool) (n:Nat) (a:AO)
 |st (n:Nat) (a x:AO)
 |nilc (x:AO)
 |bin (op:BinOp) (x y:AO)
 |eq (neg:Bool) (ek:EK) (x y:AO)
 |un (op:UnOp) (x:AO)
 |cvi (k:IntKind) (x:AO)
 |cvid (x:AO)
 |cvb (t:Nat) (x:AO)
 |cvr (x:AO)
 |cvs (x:AO)
 |cvc (x:AO)
 |mkf (fn:Fn) (first captured:List AO)
 |mkm
 |mks (t sz bytes:Nat) (zero:List AV) (len cap:AO)
 |sls (x:AO) (lo hi:Option AO)
 |sll (sz:Nat) (x:AO) (lo hi:Option AO)
 |sla (n sz:Nat) (x:AO) (lo hi:Option AO)
 |fa (off:Nat) (x:AO)
 |fld (agg:Bool) (off n:Nat) (x:AO)
 |ias (sz:Nat) (x i:AO)
 |iaa (len sz:Nat) (x i:AO)
 |ixa (len sz:Nat) (agg:Bool) (x i:AO)
 |ixs (x i:AO)
 |lkp (ek:EK) (zero:AV) (ok:Bool) (m k:AO)
 |mup (ek:EK) (m k v:AO)
 |rng (x:AO)
 |nxt (x:AO)
 |ext (x:AO) (i:Nat)
 |s2a (n sz:Nat) (x:AO)
 |mkif (t:Nat) (x:AO)
 |call (f:Nat) (xs:List AO)
 |callv (x:AO) (xs:List AO)
 |len (x:AO)
 |lens (x:AO)
 |app (t sz bytes:Nat) (s x:AO)
 |cpy (sz:Nat) (d s:AO)
 |mnx (max:Bool) (x y:AO)
 |clr (zero:List AV) (x:AO)
 |del (ek:EK) (m k:AO)
 |lenm (m:AO)
 |cvp (x:AO)
 |cvu (t n:Nat) (x:AO)
 |eqp (neg:Bool) (x y:AO)
 |isni (neg:Bool) (x:AO)
 |capn (x:AO)
 |usd (x:AO)
 |ust (t:Nat) (x n:AO)
 |die
 deriving Inhabited
structure Br where
 d:Option Nat
 g:Option (Nat×Bool)
 o:HB
 deriving Inhabited
inductive AC where
 |skip
 |reg (ops:List Br)
 |regq (ops:List Br)
 |regd (ops:List Br) (w:List (Option (Nat×Nat)))
 |seq (x y:AC)
 |cond (c:AO) (x y:AC)
 |blk (id:Nat) (x:AC)
 |loop (Bo:List Nat) (x:AC)
 |exit (id:Nat)
 |ret
 |keep (Bo:List Nat) (x:AC)
 |scope (x:AC)
 |stop
 deriving Inhabited
inductive Ex where
 |normal
 |exit (id:Nat)
 |ret
 deriving DecidableEq,Inhabited
inductive LG where
 |tmp (t:Nat)
 |cell (agg:Bool) (n:Nat) (t:Nat)
 deriving Inhabited
structure CI where
 warm:Bool
 np:Nat
 nt:Nat
 res:List LG
 body:AC
 deriving Inhabited
structure Di where
 fns:Nat→Option CI
 gl:Nat→Option (List AV)
 prim:Nat→Option (List AV→Az→Option (AV×Option Az))
 it:List Nat:=[]
mutual
def Cc:AV→Nat
 | .ptr id _=>id+1
 | .pe id _ _ _=>id+1
 | .orow id _ _ _=>id+1
 | .ocel _ id _ _=>id+1
 | .mp id=>id+1
 | .ip cs _=>B0 cs
 | .sl _ els=>Dc els
 | .fn _ a b=>max (B0 a) (B0 b)
 | .ifc _ v=>Cc v
 | .agg cs=>B0 cs
 | .tup cs=>B0 cs
 |_=>0
def B0:List AV→Nat
 |[]=>0
 |v::r=>max (Cc v) (B0 r)
def Dc:List (List AV)→Nat
 |[]=>0
 |l::r=>max (B0 l) (Dc r)
end
def E7:CB→Nat
 | .cells _ cs=>B0 cs
 | .row _ _ _ els=>Dc els
 | .map es=>max (B0 (es.map (·.1))) (B0 (es.map (·.2)))
 | .iter _ _=>0
def D1:Az→Nat
 |[]=>0
 |o::r=>max (E7 o) (D1 r)
def cellsOf:AV→List AV
 | .agg cs=>cs
 | .tup _=>[]
 | .junk=>[]
 |v=>[v]
def sub(cs:List AV)(off n:Nat):List AV:=(cs.drop off).take n
def BA(cs:List AV)(off:Nat)(new:List AV):List AV:=cs.take off++new++cs.drop (off+new.length)
def Iq(agg:Bool)(cs:List AV):Option AV:=
 match agg,cs with
 |true,cs=>some (.agg cs)
 |false,[v]=>some v
 |false,_=>none
def C3(h:Az)(id:Nat):Option (List AV):=
 match h[id]? with
 |some (.cells _ cs)=>some cs
 |_=>none
def rowAt(h:Az)(id:Nat):Option (Bool×Nat×List (List AV)):=
 match h[id]? with
 |some (.row _ fz sz els)=>some (fz,sz,els)
 |_=>none
def ED(h:Az)(id:Nat):Option Nat:=
 match h[id]? with
 |some (.cells t _)=>t
 |some (.row t _ _ _)=>t
 |_=>none
def W9(l:Option Nat)(t:Nat):Option Nat:=if l=some t then some t else none
def vK(h:Az)(id:Nat):Option (List (AV×AV)):=
 match h[id]? with
 |some (.map es)=>some es
 |_=>none
def Zt(h:Az)(id:Nat):Option (List UInt8×Nat):=
 match h[id]? with
 |some (.iter l p)=>some (l,p)
 |_=>none
def place(h:Az):AV→Option (List AV×Nat)
 | .ptr id off=>(C3 h id).map fun cs=>(cs,off)
 | .pe id n i off=>(rowAt h id).bind fun r=>if n=r.2.2.length then some ((r.2.2.drop i).flatten,off)else none
 | .ip cs off=>some (cs,off)
 |_=>none
def load(h:Az)(agg:Bool)(n:Nat)(a:AV):Option AV:=
 (place h a).bind fun p=>if p.2+n≤p.1.length then Iq agg (sub p.1 p.2 n)else none
def store(h:Az)(n:Nat)(a x:AV):Option Az:=
 match a with
 | .ptr id off=>(C3 h id).bind fun cs=>
  if(cellsOf x).length=n∧off+n≤cs.length then some (h.set id (CB.cells (ED h id) (BA cs off (cellsOf x))))else none
 | .pe id n' i off=>(rowAt h id).bind fun r=>
  if r.1=false∧n'=r.2.2.length∧(cellsOf x).length=n then
   (r.2.2[i]?).bind fun cs=>if off+n≤cs.length then some (h.set id (CB.row (ED h id) false r.2.1 (r.2.2.set i (BA cs off (cellsOf x)))))else none
  else none
 |_=>none
def shift(off:Nat):AV→Option AV
 | .ptr id o=>some (.ptr id (o+off))
 | .pe id n i o=>some (.pe id n i (o+off))
 | .ip cs o=>some (.ip cs (o+off))
 |_=>none
def BR(sz:Nat):Nat→List AV→List (List AV)
 |0,_=>[]
 |n+1,cs=>cs.take sz::BR sz n (cs.drop sz)
def E4(h:Az)(sz:Nat):AV→Option (List (List AV))
 | .nils=>some []
 | .sl sz' els=>if sz'=sz then some els else none
 | .orow id n lo len=>(rowAt h id).bind fun r=>if n=r.2.2.length∧r.2.1=sz∧lo+len≤n then some ((r.2.2.drop lo).take len)else none
 | .ocel sz' id off len=>(C3 h id).bind fun cs=>if sz'=sz∧off+len*sz≤cs.length then some (BR sz len (cs.drop off))else none
 |_=>none
def Pn:AV→Option Nat
 | .nils=>some 0
 | .sl _ els=>some els.length
 | .orow _ _ _ len=>some len
 | .ocel _ _ _ len=>some len
 |_=>none
def BQ(l:List UInt8):List (List AV):=l.map fun c=>[.i .u8 c.toNat]
def EY:List (List AV)→Option (List UInt8)
 |[]=>some []
 |[.i .u8 n]::r=>(EY r).map (bc n.toNat:: ·)
 |_=>none
def eq1:CK→AV→AV→Option Bool
 | .b, .b x, .b y=>some (x==y)
 | .i k, .i k1 x, .i k2 y=>if k1=k∧k2=k then some (x==y)else none
 | .s, .s x, .s y=>some (x==y)
 |_,_,_=>none
def QZ:List CK→List AV→List AV→Option Bool
 |[],[],[]=>some true
 |c::l,x::r,y::q=>(eq1 c x y).bind fun a=>(QZ l r q).map fun b=>a&&b
 |_,_,_=>none
def qL:EK→AV→AV→Option Bool
 | .one c,x,y=>eq1 c x y
 | .agg l, .agg x, .agg y=>QZ l x y
 | .p, .nilp, .nilp=>some true
 | .p, .nilp, .ptr _ _=>some false
 | .p, .nilp, .pe _ _ _ _=>some false
 | .p, .nilp, .ip _ _=>some false
 | .p, .ptr _ _, .nilp=>some false
 | .p, .pe _ _ _ _, .nilp=>some false
 | .p, .ip _ _, .nilp=>some false
 | .m, .nilm, .nilm=>some true
 | .m, .nilm, .mp _=>some false
 | .m, .mp _, .nilm=>some false
 | .f, .nilf, .nilf=>some true
 | .f, .nilf, .fn _ _ _=>some false
 | .f, .fn _ _ _, .nilf=>some false
 | .n, .nili, .ifc _ _=>some false
 | .n, .ifc _ _, .nili=>some false
 | .sl, .nils, .nils=>some true
 | .sl, .sl _ _, .nils=>some false
 | .sl, .orow _ _ _ _, .nils=>some false
 | .sl, .ocel _ _ _ _, .nils=>some false
 | .sl, .nils, .sl _ _=>some false
 | .sl, .nils, .orow _ _ _ _=>some false
 | .sl, .nils, .ocel _ _ _ _=>some false
 |_,_,_=>none
def wM(op:BinOp)(k:IntKind)(x y:Int):Int:=
 match op with
 | .and=>k.wrap (cm k.bits x&&&cm k.bits y).toNat
 | .or=>k.wrap (cm k.bits x|||cm k.bits y).toNat
 | .xor=>k.wrap (cm k.bits x^^^cm k.bits y).toNat
 |_=>k.wrap (cm k.bits x&&& ~~~(cm k.bits y)).toNat
def Bs:Nat:=1099511627776
def bin(op:BinOp):AV→AV→Option AV
 | .i k a, .i k' b=>
  match op with
  | .shl=>if b<0 then none else some (.i k (k.wrap (a*2^(min b.toNat k.bits))))
  | .shr=>if b<0 then none else some (.i k (a.fdiv (2^(min b.toNat k.bits))))
  |op=>
   if k=k' then
    match op with
    | .add=>some (.i k (k.wrap (a+b)))
    | .sub=>some (.i k (k.wrap (a-b)))
    | .mul=>some (.i k (k.wrap (a*b)))
    | .quo=>if b=0 then none else some (.i k (k.wrap (a.tdiv b)))
    | .rem=>if b=0 then none else some (.i k (a.tmod b))
    | .eql=>some (.b (a==b))
    | .neq=>some (.b (a != b))
    | .lss=>some (.b (decide (a<b)))
    | .leq=>some (.b (decide (a≤b)))
    | .gtr=>some (.b (decide (a>b)))
    | .geq=>some (.b (decide (a≥b)))
    |op=>some (.i k (wM op k a b))
   else none
 | .s a, .s b=>
  match op with
  | .add=>if a.length+b.length≤2*Bs then some (.s (a++b))else none
  | .eql=>some (.b (a==b))
  | .neq=>some (.b (!(a==b)))
  | .lss=>some (.b (m6 a b))
  | .leq=>some (.b (m6 a b||a==b))
  | .gtr=>some (.b (!(m6 a b||a==b)))
  | .geq=>some (.b (!(m6 a b)))
  |_=>none
 |_,_=>none
def un(op:UnOp):AV→Option AV
 | .i k a=>match op with
  | .neg=>some (.i k (k.wrap (0-a)))
  | .xor=>some (.i k (wM .xor k (if k.signed then-1 else k.max) a))
  |_=>none
 | .b x=>match op with
  | .not=>some (.b (!x))
  |_=>none
 |_=>none
def HE:AV→Option Int
 | .i _ n=>some n
 |_=>none
def KP(x:AV)(to:Nat):Option Nat:=
 (HE x).bind fun n=>if 0≤n∧n≤to then some n.toNat else none
def Hz(f:AO→AV)(len:Nat)(lo hi:Option AO):Option (Nat×Nat):=
 (match hi with
  |none=>some len
  |some x=>KP (f x) len).bind fun h=>
 (match lo with
  |none=>some 0
  |some x=>KP (f x) h).bind fun l=>some (l,h)
def MP(cells:List AV)(rho:AO→AV):List (Nat×Nat×AO)→Option (List AV)
 |[]=>some cells
 |(off,n,x)::r=>
  if(cellsOf (rho x)).length=n∧off+n≤cells.length then MP (BA cells off (cellsOf (rho x))) rho r else none
def LA(els:List (List AV))(sz:Nat)(rho:AO→AV):List (Nat×AO)→Option (List (List AV))
 |[]=>some els
 |(i,x)::r=>
  if(cellsOf (rho x)).length=sz∧i<els.length then LA (els.set i (cellsOf (rho x))) sz rho r else none
def find(ek:EK)(k:AV):List (AV×AV)→Nat→Option (Option (Nat×AV))
 |[],_=>some none
 |(x,v)::r,i=>(qL ek k x).bind fun e=>if e then some (some (i,v))else find ek k r (i+1)
def vN:EK→AV→Bool
 | .one _,_=>true
 | .agg l, .agg cs=>fv cs.length l.length
 |_,_=>false
def vW(h:Az):AV→Option (List (AV×AV))
 | .nilm=>some []
 | .mp id=>vK h id
 |_=>none
def SD(h:Az)(sz:Nat)(v:AV)(n:Nat):Option AV:=
 (E4 h sz v).bind fun els=>
  if n<els.length then
   match v with
   | .orow id k lo _=>some (.pe id k (lo+n) 0)
   | .ocel _ id off _=>some (.ptr id (off+n*sz))
   |_=>(els[n]?).map fun cs=> .ip cs 0
  else none
def resl(h:Az)(sz:Nat)(v:AV)(a b:Nat):Option AV:=
 match v with
 | .nils=>some .nils
 | .sl sz' els=>if sz'=sz then some (.sl sz ((els.take b).drop a))else none
 | .orow id n l len=>(rowAt h id).bind fun r=>if n=r.2.2.length∧r.2.1=sz∧l+len≤n then some (.orow id n (l+a) (b-a))else none
 | .ocel sz' id off _=>if sz'=sz then some (.ocel sz id (off+a*sz) (b-a))else none
 |_=>none
def pV(h:Az)(n sz:Nat)(v:AV)(a b:Nat):Option AV:=
 match v with
 | .ptr id off=>(C3 h id).bind fun cs=>if off+n*sz≤cs.length then some (.ocel sz id (off+a*sz) (b-a))else none
 | .ip cs off=>if off+n*sz≤cs.length then some (.sl sz (((BR sz n (cs.drop off)).take b).drop a))else none
 |_=>none
def Xa(n sz:Nat)(v:AV):Option AV:=
 match v with
 | .ocel sz' id off len=>if sz'=sz∧n≤len then some (.ptr id off)else none
 | .sl sz' els=>if sz'=sz∧n≤els.length then some (.ip (els.take n).flatten 0)else none
 | .orow id k lo len=>if n≤len∧0<n then some (.pe id k lo 0)else none
 |_=>none
def mW(h:Az)(sz:Nat)(v:AV):Option (List (List AV)):=
 match v with
 | .s l=>if sz=1 then some (BQ l)else none
 |v=>E4 h sz v
def Wg(h:Az)(t sz bytes:Nat)(v:AV)(new:List (List AV)):Option (AV×Option Az):=
 match v with
 | .nils=>
  if new.length=0 then some (.nils,none)
  else if new.length*bytes≤Bs then some (.orow h.length new.length 0 new.length,some (h++[CB.row (some t) false sz new]))else none
 | .orow id n lo len=>(rowAt h id).bind fun r=>
  if lo=0∧n=r.2.2.length∧len=n∧r.2.1=sz∧(n+new.length)*bytes≤Bs∧r.1=false then
   if new.length=0 then some (.orow id n 0 n,none)
   else some (.orow id (n+new.length) 0 (n+new.length),some (h.set id (CB.row (W9 (ED h id) t) r.1 sz (r.2.2++new))))
  else none
 |_=>none
def kF(h:Az)(sz:Nat)(v:AV)(src:List (List AV)):Option (AV×Option Az):=
 match v with
 | .nils=>some (.i .i64 0,none)
 | .orow id n lo len=>(rowAt h id).bind fun r=>
  if r.1=false∧n=r.2.2.length∧r.2.1=sz∧lo+len≤n then
   some (.i .i64 (min src.length len:Nat),some (h.set id (CB.row (ED h id) false sz (r.2.2.take lo++src.take (min src.length len)++r.2.2.drop (lo+min src.length len)))))
  else none
 | .ocel sz' id off len=>(C3 h id).bind fun cs=>
  if sz'=sz∧off+len*sz≤cs.length then
   some (.i .i64 (min src.length len:Nat),some (h.set id (CB.cells (ED h id) (cs.take off++(src.take (min src.length len)).flatten++cs.drop (off+min src.length len*sz)))))
  else none
 |_=>none
abbrev Mb:=Option (AV×Option Az)
def val(v:Option AV):Mb:=v.map fun v=>(v,none)
def BK(tb:Di)(cl:Nat→List AV→Az→Mb)(h:Az)(f:Nat)(args:List AV):Mb:=
 match tb.prim f with
 |some p=>p args h
 |none=>cl f args h
def BC(tb:Di)(cl:Nat→List AV→Az→Mb)(rho:AO→AV)(h:Az):HB→Mb
 | .mv x=>some (rho x,none)
 | .pick c a b=>match rho c with
  | .b t=>some (if t then rho a else rho b,none)
  |_=>none
 | .alloc t zero=>some (.ptr h.length 0,some (h++[CB.cells (some t) zero]))
 | .box t n x=>if(cellsOf (rho x)).length=n then some (.ptr h.length 0,some (h++[CB.cells (some t) (cellsOf (rho x))]))else none
 | .bld zero parts=>val ((MP zero rho parts).map .agg)
 | .bls t sz zero parts=>(LA zero sz rho parts).map fun els=>(.orow h.length els.length 0 els.length,some (h++[CB.row (some t) false sz els]))
 | .bll sz zero parts=>val ((LA zero sz rho parts).map (.sl sz))
 | .ld agg n a=>val (load h agg n (rho a))
 | .st n a x=>(store h n (rho a) (rho x)).map fun h=>(.junk,some h)
 | .nilc x=>match rho x with
  | .ptr a b=>some (.ptr a b,none)
  | .pe a b c d=>some (.pe a b c d,none)
  | .ip a b=>some (.ip a b,none)
  | .fn (.func f) a b=>some (.fn (.func f) a b,none)
  |_=>none
 | .bin op x y=>val (bin op (rho x) (rho y))
 | .eq neg ek x y=>val ((qL ek (rho x) (rho y)).map fun e=> .b (if neg then !e else e))
 | .un op x=>val (un op (rho x))
 | .cvi k x=>match rho x with
  | .i _ n=>some (.i k (k.wrap n),none)
  |_=>none
 | .cvid x=>match rho x with
  | .s l=>some (.s l,none)
  |_=>none
 | .cvb t x=>match rho x with
  | .s l=>some (.orow h.length l.length 0 l.length,some (h++[CB.row (some t) false 1 (BQ l)]))
  |_=>none
 | .cvr x=>match rho x with
  | .orow id n lo len=>(rowAt h id).bind fun r=>if r.1=false∧n=r.2.2.length∧lo+len≤n then some (.orow id n lo len,none)else none
  |_=>none
 | .cvs x=>val (((E4 h 1 (rho x)).bind EY).map .s)
 | .cvc x=>match rho x with
  | .i _ n=>some (.s (mg n).data.toList,none)
  |_=>none
 | .mkf fn a b=>some (.fn fn (a.map rho) (b.map rho),none)
 | .mkm=>some (.mp h.length,some (h++[CB.map []]))
 | .mks t sz bytes zero len cap=>
  (HE (rho len)).bind fun l=>(HE (rho cap)).bind fun c=>
   if 0≤l∧l≤c∧c*bytes≤Bs then
    some (.orow h.length l.toNat 0 l.toNat,some (h++[CB.row (some t) false sz (aq l.toNat zero)]))
   else none
 | .sls x lo hi=>match rho x with
  | .s l=>(Hz rho l.length lo hi).map fun p=>(.s ((l.take p.2).drop p.1),none)
  |_=>none
 | .sll sz x lo hi=>(Pn (rho x)).bind fun len=>(Hz rho len lo hi).bind fun p=>val (resl h sz (rho x) p.1 p.2)
 | .sla n sz x lo hi=>(Hz rho n lo hi).bind fun p=>val (pV h n sz (rho x) p.1 p.2)
 | .fa off x=>val (shift off (rho x))
 | .fld agg off n x=>match rho x with
  | .agg cs=>if off+n≤cs.length then val (Iq agg (sub cs off n))else none
  |_=>none
 | .ias sz x i=>(HE (rho i)).bind fun n=>if 0≤n then val (SD h sz (rho x) n.toNat)else none
 | .iaa len sz x i=>
  (HE (rho i)).bind fun n=>if 0≤n∧n<len then val (shift (n.toNat*sz) (rho x))else none
 | .ixa len sz agg x i=>
  (HE (rho i)).bind fun n=>match rho x with
   | .agg cs=>if 0≤n∧n<len∧len*sz≤cs.length then val (Iq agg (sub cs (n.toNat*sz) sz))else none
   |_=>none
 | .ixs x i=>
  (HE (rho i)).bind fun n=>match rho x with
   | .s l=>if 0≤n then(l[n.toNat]?).map fun c=>(.i .u8 c.toNat,none)else none
   |_=>none
 | .lkp ek zero ok m k=>
  if vN ek (rho k)then(vW h (rho m)).bind fun es=>(find ek (rho k) es 0).map fun r=>match r with
    |some (_,v)=>(if ok then .tup [v, .b true]else v,none)
    |none=>(if ok then .tup [zero, .b false]else zero,none)
  else none
 | .mup ek m k v=>match rho m with
  | .mp id=>if vN ek (rho k)then(vK h id).bind fun es=>(find ek (rho k) es 0).map fun r=>match r with
    |some (i,_)=>(.junk,some (h.set id (CB.map (es.set i (rho k,rho v)))))
    |none=>(.junk,some (h.set id (CB.map (es++[(rho k,rho v)]))))
   else none
  |_=>none
 | .rng x=>match rho x with
  | .s l=>some (.ptr h.length 0,some (h++[CB.iter l 0]))
  |_=>none
 | .nxt x=>match rho x with
  | .ptr id off=>(Zt h id).bind fun it=>
   if off=0 then
    if it.2<it.1.length then
     some (.tup [.b true, .i .i64 it.2, .i .i32 (gg ⟨it.1.toArray⟩ it.2).1],some (h.set id (CB.iter it.1 (it.2+(gg ⟨it.1.toArray⟩ it.2).2))))
    else some (.tup [.b false],none)
   else none
  |_=>none
 | .ext x i=>match rho x with
  | .tup vs=>val (vs[i]?)
  |_=>none
 | .s2a n sz x=>val (Xa n sz (rho x))
 | .mkif _ _=>some (.ifc 0 .junk,none)
 | .call f xs=>BK tb cl h f (xs.map rho)
 | .callv x xs=>match rho x with
  | .fn (.func f) first captured=>BK tb cl h f (first++xs.map rho++captured)
  |_=>none
 | .len x=>(Pn (rho x)).map fun(n:Nat)=>(.i .i64 (n:Int),none)
 | .lens x=>match rho x with
  | .s l=>some (.i .i64 (l.length:Nat),none)
  |_=>none
 | .app t sz bytes s x=>(mW h sz (rho x)).bind fun new=>Wg h t sz bytes (rho s) new
 | .cpy sz d s=>(mW h sz (rho s)).bind fun src=>kF h sz (rho d) src
 | .mnx max x y=>match rho x,rho y with
  | .i k a, .i k' b=>if k=k' then some (.i k (if max then(if b>a then b else a)else(if b<a then b else a)),none)else none
  |_,_=>none
 | .clr zero x=>match rho x with
  | .nils=>some (.tup [],none)
  | .orow id n lo len=>(rowAt h id).bind fun r=>
   if r.1=false∧n=r.2.2.length∧lo+len≤n∧zero.length=r.2.1 then
    some (.tup [],some (h.set id (CB.row (ED h id) false r.2.1 (r.2.2.take lo++aq len zero++r.2.2.drop (lo+len)))))
   else none
  | .mp id=>(vK h id).map fun _=>(.tup [],some (h.set id (CB.map [])))
  |_=>none
 | .del ek m k=>match rho m with
  | .nilm=>if vN ek (rho k)then some (.tup [],none)else none
  | .mp id=>if vN ek (rho k)then(vK h id).bind fun es=>(find ek (rho k) es 0).map fun r=>match r with
    |some (i,_)=>(.tup [],some (h.set id (CB.map (es.eraseIdx i))))
    |none=>(.tup [],none)
   else none
  |_=>none
 | .lenm m=>(vW h (rho m)).map fun es=>(.i .i64 es.length,none)
 | .cvp x=>match rho x with
  | .nilp=>some (.nilp,none)
  | .ptr id off=>(C3 h id).bind fun cs=>if off<cs.length then some (.ptr id off,none)else none
  |_=>none
 | .cvu t n x=>match rho x with
  | .nilp=>some (.nilp,none)
  | .ptr id off=>(C3 h id).bind fun cs=>if off=0∧cs.length=n∧ED h id=some t then some (.ptr id 0,none)else none
  |_=>none
 | .capn x=>match rho x with
  | .nils=>some (.i .i64 0,none)
  |_=>none
 | .isni neg x=>match rho x with
  | .nili=>some (.b (!neg),none)
  | .ifc _ _=>some (.b neg,none)
  |_=>none
 | .eqp neg x y=>match rho x,rho y with
  | .ptr a o, .ptr b o'=>if a=b∧o=o' then some (.b (!neg),none)else none
  |_,_=>none
 | .usd x=>match rho x with
  | .nils=>some (.nilp,none)
  | .orow id n lo len=>(rowAt h id).bind fun r=>if n=r.2.2.length∧lo+len≤n∧0<len then some (.pe id n lo 0,none)else none
  |_=>none
 | .ust t x n=>(HE (rho n)).bind fun k=>match rho x with
  | .nilp=>if k=0 then some (.s [],none)else none
  | .pe id n i off=>(rowAt h id).bind fun r=>
   if off=0∧0<k∧n=r.2.2.length∧i+k.toNat≤n∧r.2.1=1∧ED h id=some t∧k≤Bs then
    (EY ((r.2.2.drop i).take k.toNat)).map fun l=>(.s l,some (h.set id (CB.row (ED h id) true 1 r.2.2)))
   else none
  |_=>none
 | .die=>none
def eval(tb:Di)(f:Fr):AO→AV
 | .t n=>get f n
 | .k v=>v
 | .f n=> .fn (.func n) [] []
 | .g n=>match tb.gl n with
  |some cs=> .ip cs 0
  |none=> .junk
def wanted(f:Fr)(g:Option (Nat×Bool)):Option Bool:=
 match g with
 |none=>some true
 |some (t,w)=>match get f t with
  | .b x=>some (x==w)
  | .tup []=>some false
  |_=>none
def ops(tb:Di)(cl:Nat→List AV→Az→Mb):List Br→Fr→Az→Option (Fr×Az)
 |[],f,h=>some (f,h)
 |o::r,f,h=>
  (wanted f o.g).bind fun w=>
   if w then(BC tb cl (eval tb f) h o.o).bind fun p=>ops tb cl r (put f o.d p.1) (p.2.getD h)
   else ops tb cl r (put f o.d (.tup [])) h
def Ip(tb:Di)(cl:Nat→List AV→Az→Mb):List Br→List (Option (Nat×Nat))→Fr→Az→Option (List Az)
 |[],_,_,h=>some [h]
 |o::r,w,f,h=>
  (wanted f o.g).bind fun t=>
   if t then(BC tb cl (eval tb f) h o.o).bind fun p=>
    (Ip tb cl r w.tail (put f o.d p.1) (p.2.getD h)).map fun l=>
     match w.head? with
     |some none=>h::l
     |_=>l
   else(Ip tb cl r w.tail (put f o.d (.tup [])) h).map fun l=>
    match w.head? with
    |some none=>h::l
    |_=>l
open Classical in
noncomputable def I9(tb:Di)(cl:Nat→List AV→Az→Mb)(h:Az):List Br→Fr→Option Fr
 |[],f=>some f
 |o::r,f=>
  (wanted f o.g).bind fun w=>
   if w then(BC tb cl (eval tb f) h o.o).bind fun p=>if p.2.getD h=h then I9 tb cl h r (put f o.d p.1)else none
   else I9 tb cl h r (put f o.d (.tup []))
open Classical in
noncomputable def Kr(tb:Di)(cl:Nat→List AV→Az→Mb)(hs:List Az):List Br→List (Option (Nat×Nat))→Nat→Fr→Option Fr
 |[],_,k,f=>if k+1=hs.length then some f else none
 |o::r,w,k,f=>
  (wanted f o.g).bind fun t=>
   if t then(hs[k]?).bind fun h=>(BC tb cl (eval tb f) h o.o).bind fun p=>
    match w with
    |none::w=>if some (p.2.getD h)=hs[k+1]? then Kr tb cl hs r w (k+1) (put f o.d p.1)else none
    |some (lo,hi)::w=>
     if(fh lo (hi+1-lo)).all (fun j=>decide (∃u,(hs[j]?).bind (fun h=>BC tb cl (eval tb f) h o.o)=some (p.1,u)∧some (u.getD (hs[j]?.getD []))=hs[j]?))then
      Kr tb cl hs r w k (put f o.d p.1)
     else none
    |[]=>none
   else match w with
    |none::w=>if hs[k]? =hs[k+1]? then Kr tb cl hs r w (k+1) (put f o.d (.tup []))else none
    |some _::w=>Kr tb cl hs r w k (put f o.d (.tup []))
    |[]=>none
def keepL(Bo:List Nat)(f:Fr):Fr:=Bo.map fun t=>(t,get f t)
def S9(F:Fr→Az→Option (Ex×Fr×Az)):Nat→Fr→Az→Option (Ex×Fr×Az)
 |0,_,_=>none
 |n+1,f,h=>match F f h with
  |some (.normal,f',h')=>S9 F n f' h'
  |r=>r
open Classical in
noncomputable def lp(F:Fr→Az→Option (Ex×Fr×Az))(f:Fr)(h:Az):Option (Ex×Fr×Az):=
 if x: ∃n,(S9 F n f h).isSome=true then S9 F (d5 x) f h else none
def Lu(Bo:List Nat)(F:Fr→Az→Option (Ex×Fr×Az))(f:Fr)(h:Az):Option (Ex×Fr×Az):=
 (F (keepL Bo f) h).map fun
  |(.normal,f',h')=>(.normal,keepL Bo f',h')
  |r=>r
noncomputable def Bj(tb:Di)(cl:Nat→List AV→Az→Mb):AC→Fr→Az→Option (Ex×Fr×Az)
 | .skip,f,h=>some (.normal,f,h)
 | .reg l,f,h=>(ops tb cl l f h).map fun p=>(.normal,p.1,p.2)
 | .regq l,f,h=>(I9 tb cl h l f).map fun f=>(.normal,f,h)
 | .regd l w,f,h=>(Ip tb cl l w f h).bind fun hs=>(Kr tb cl (h::hs.tail) l w 0 f).bind fun f=>((h::hs.tail).getLast?).map fun h=>(.normal,f,h)
 | .seq x y,f,h=>(Bj tb cl x f h).bind fun
  |(.normal,f,h)=>Bj tb cl y f h
  |r=>some r
 | .cond c x y,f,h=>match eval tb f c with
  | .b t=>if t then Bj tb cl x f h else Bj tb cl y f h
  |_=>none
 | .blk id x,f,h=>(Bj tb cl x f h).map fun
  |(.exit id',f,h)=>if id'=id then(.normal,f,h)else(.exit id',f,h)
  |r=>r
 | .loop Bo x,f,h=>lp (Lu Bo (Bj tb cl x)) f h
 | .exit id,f,h=>some (.exit id,f,h)
 | .ret,f,h=>some (.ret,f,h)
 | .keep Bo x,f,h=>(Bj tb cl x f h).map fun
  |(.normal,f,h)=>(.normal,keepL Bo f,h)
  |r=>r
 | .scope x,f,h=>Bj tb cl x f h
 | .stop,_,_=>none
def results(f:Fr)(h:Az):List LG→Option (List AV)
 |[]=>some []
 | .tmp t::r=>(results f h r).map (get f t:: ·)
 | .cell agg n t::r=>(load h agg n (get f t)).bind fun v=>(results f h r).map (v:: ·)
def GN:List AV→AV
 |[v]=>v
 |vs=> .tup vs
def DY{α:Type}(F:α→Option α):List α→Option (List α)
 |[]=>some []
 |x::r=>(F x).bind fun x=>(DY F r).map (x:: ·)
def frz(h:Az)(n:Nat):Nat→AV→Option AV
 |0,v=>if Cc v≤n then some v else none
 |d+1,v=>if Cc v≤n then some v else match v with
  | .orow id k lo len=>(rowAt h id).bind fun r=>
   if k=r.2.2.length∧lo+len≤k then(DY (DY (frz h n d)) ((r.2.2.drop lo).take len)).map (.sl r.2.1)else none
  | .ocel sz id off len=>(C3 h id).bind fun cs=>
   if off+len*sz≤cs.length then(DY (DY (frz h n d)) (BR sz len (cs.drop off))).map (.sl sz)else none
  | .sl sz els=>(DY (DY (frz h n d)) els).map (.sl sz)
  | .agg cs=>(DY (frz h n d) cs).map .agg
  | .tup cs=>(DY (frz h n d) cs).map .tup
  |_=>none
def jI(h:Az)(n:Nat)(l:List AV):Option (List AV):=DY (frz h n 12) l
def Zn(n:Nat)(h:Az)(vs:List AV):AV×Option Az:=
 match jI h n vs with
 |some vs'=>if D1 (h.take n)≤n then(GN vs',some (h.take n))else(GN vs,some h)
 |none=>(GN vs,some h)
def YX(warm:Bool)(n:Nat)(h:Az)(vs:List AV):AV×Option Az:=
 match warm with
 |true=>(GN vs,some h)
 |false=>Zn n h vs
noncomputable def body(tb:Di)(cl:Nat→List AV→Az→Mb)(fn:CI)(args:List AV)(h:Az):Mb:=
 if args.length=fn.np then
  (Bj tb cl fn.body (args.zipIdx.map fun p=>(p.2,p.1)) h).bind fun
   |(.exit _,_,_)=>none
   |(_,f,h')=>(results f h' fn.res).map fun vs=>YX fn.warm h.length h' vs
 else none
noncomputable def run(tb:Di):Nat→Nat→List AV→Az→Mb
 |0,_,_,_=>none
 |n+1,f,args,h=>(tb.fns f).bind fun fn=>body tb (run tb n) fn args h
open Classical in
noncomputable def CC(tb:Di)(f:Nat)(args:List AV)(h:Az):Mb:=
 if x: ∃n,(run tb n f args h).isSome=true then run tb (d5 x) f args h else none
end
section
theorem nB(F:Fr→Az→Option (Ex×Fr×Az)): ∀(n:Nat) (f:Fr) (h:Az) (r:Ex×Fr×Az),S9 F n f h=some r→ ∀m,n≤m→S9 F m f h=some r:=by
 intro n
 induction n with
 |zero=>intro f h r e;simp[S9]at e
 |succ n ih=>
  intro f h r e m hm
  obtain⟨m,rfl⟩: ∃k,m=k+1:=⟨m-1,by omega⟩
  simp only[S9]at e ⊢
  split at e
  ·exact ih _ _ _ e m (by omega)
  ·exact e
theorem Zj(F:Fr→Az→Option (Ex×Fr×Az)){n:Nat}{f:Fr}{h:Az}{r:Ex×Fr×Az}(e:S9 F n f h=some r):lp F f h=some r:=by
 unfold lp
 have x: ∃n,(S9 F n f h).isSome=true:=⟨n,by rw[e];rfl⟩
 rw[dif_pos x]
 have hc:=jv x
 cases hr:S9 F (d5 x) f h with
 |none=>rw[hr]at hc;simp at hc
 |some r'=>
  have h1:=nB F _ _ _ _ e (max n (d5 x)) (by omega)
  have h2:=nB F _ _ _ _ hr (max n (d5 x)) (by omega)
  rw[h1]at h2
  exact h2.symm
theorem nA{F:Fr→Az→Option (Ex×Fr×Az)}{f:Fr}{h:Az}{r:Ex×Fr×Az}(e:lp F f h=some r): ∃n,S9 F n f h=some r:=by
 unfold lp at e
 split at e
 ·exact⟨_,e⟩
 ·simp at e
theorem lp_eq(F:Fr→Az→Option (Ex×Fr×Az))(f:Fr)(h:Az):
  lp F f h=match F f h with
   |some (.normal,f',h')=>lp F f' h'
   |r=>r:=by
 cases hF:F f h with
 |none=>
  simp only
  cases hl:lp F f h with
  |none=>rfl
  |some r=>
   obtain⟨n,hn⟩:=nA hl
   cases n with
   |zero=>simp[S9]at hn
   |succ n=>simp[S9,hF]at hn
 |some r=>
  obtain⟨e,f',h'⟩:=r
  cases e with
  |normal=>
   simp only
   cases hl:lp F f' h' with
   |some r=>
    obtain⟨n,hn⟩:=nA hl
    exact Zj F (n:=n+1) (by simp[S9,hF,hn])
   |none=>
    cases hl':lp F f h with
    |none=>rfl
    |some r=>
     obtain⟨n,hn⟩:=nA hl'
     cases n with
     |zero=>simp[S9]at hn
     |succ n=>
      simp[S9,hF]at hn
      rw[Zj F hn]at hl
      simp at hl
  |exit id=>exact Zj F (n:=1) (by simp[S9,hF])
  |ret=>exact Zj F (n:=1) (by simp[S9,hF])
def Below(c d:Nat→List AV→Az→Mb):Prop:= ∀f a h r,c f a h=some r→d f a h=some r
theorem UA{tb:Di}{c d:Nat→List AV→Az→Mb}(b:Below c d){h:Az}{f:Nat}{a:List AV}{r:AV×Option Az}
  (e:BK tb c h f a=some r):BK tb d h f a=some r:=by
 unfold BK at*
 split
 ·rename_i p hp;rw[hp]at e;exact e
 ·rename_i hp;rw[hp]at e;exact b _ _ _ _ e
theorem G3{tb:Di}{c d:Nat→List AV→Az→Mb}(b:Below c d){rho:AO→AV}{h:Az}{o:HB}{r:AV×Option Az}
  (e:BC tb c rho h o=some r):BC tb d rho h o=some r:=by
 cases o<;>first
  |exact e
  |(simp only[BC]at e ⊢;exact UA b e)
  |skip
 case callv x xs=>
  simp only[BC]at e ⊢
  split at e
  ·exact UA b e
  ·simp at e
theorem mP{tb:Di}{c d:Nat→List AV→Az→Mb}(b:Below c d): ∀(l:List Br) (f:Fr) (h:Az) (r:Fr×Az),ops tb c l f h=some r→ops tb d l f h=some r:=by
 intro l
 induction l with
 |nil=>intro f h r e;exact e
 |cons o l ih=>
  intro f h r e
  simp only[ops]at e ⊢
  cases hw:wanted f o.g with
  |none=>rw[hw]at e;simp at e
  |some t=>
   rw[hw]at e
   simp only[aa]at e ⊢
   cases t with
   |false=>exact ih _ _ _ e
   |true=>
    simp only[qt]at e ⊢
    cases ha:BC tb c (eval tb f) h o.o with
    |none=>rw[ha]at e;simp at e
    |some p=>
     rw[ha]at e
     rw[G3 b ha]
     exact ih _ _ _ e
theorem eK{tb:Di}{c d:Nat→List AV→Az→Mb}(b:Below c d)(h:Az): ∀(l:List Br) (f:Fr) (r:Fr),I9 tb c h l f=some r→I9 tb d h l f=some r:=by
 intro l
 induction l with
 |nil=>intro f r e;exact e
 |cons o l ih=>
  intro f r e
  simp only[I9]at e ⊢
  cases hw:wanted f o.g with
  |none=>rw[hw]at e;simp at e
  |some t=>
   rw[hw]at e
   simp only[aa]at e ⊢
   cases t with
   |false=>exact ih _ _ e
   |true=>
    simp only[qt]at e ⊢
    cases ha:BC tb c (eval tb f) h o.o with
    |none=>rw[ha]at e;simp at e
    |some p=>
     rw[ha]at e
     rw[G3 b ha]
     simp only[aa]at e ⊢
     split at e
     ·rename_i hq;rw[qn hq];exact ih _ _ e
     ·simp at e
theorem Tl{tb:Di}{c d:Nat→List AV→Az→Mb}(b:Below c d): ∀(l:List Br) (w:List (Option (Nat×Nat))) (f:Fr) (h:Az) (r:List Az),
  Ip tb c l w f h=some r→Ip tb d l w f h=some r:=by
 intro l
 induction l with
 |nil=>intro w f h r e;exact e
 |cons o l ih=>
  intro w f h r e
  simp only[Ip]at e ⊢
  cases hw:wanted f o.g with
  |none=>rw[hw]at e;simp at e
  |some t=>
   rw[hw]at e
   simp only[aa]at e ⊢
   cases t with
   |false=>
    simp only[au,qu]at e ⊢
    cases hh:Ip tb c l w.tail (put f o.d (.tup [])) h with
    |none=>rw[hh]at e;simp at e
    |some r'=>rw[hh]at e;rw[ih _ _ _ _ hh];exact e
   |true=>
    simp only[qt]at e ⊢
    cases ha:BC tb c (eval tb f) h o.o with
    |none=>rw[ha]at e;simp at e
    |some p=>
     rw[ha]at e
     rw[G3 b ha]
     simp only[aa]at e ⊢
     cases hh:Ip tb c l w.tail (put f o.d p.1) (p.2.getD h)with
     |none=>rw[hh]at e;simp at e
     |some r'=>rw[hh]at e;rw[ih _ _ _ _ hh];exact e
theorem RL{tb:Di}{c d:Nat→List AV→Az→Mb}(b:Below c d)(hs:List Az): ∀(l:List Br) (w:List (Option (Nat×Nat))) (k:Nat) (f:Fr) (r:Fr),
  Kr tb c hs l w k f=some r→Kr tb d hs l w k f=some r:=by
 intro l
 induction l with
 |nil=>intro w k f r e;exact e
 |cons o l ih=>
  intro w k f r e
  simp only[Kr]at e ⊢
  cases hw:wanted f o.g with
  |none=>rw[hw]at e;simp at e
  |some t=>
   rw[hw]at e
   simp only[aa]at e ⊢
   cases t with
   |false=>
    simp only[au,qu]at e ⊢
    cases w with
    |nil=>simp at e
    |cons x w=>
     cases x with
     |none=>
      simp only at e ⊢
      split at e
      ·rename_i hq;rw[qn hq];exact ih _ _ _ _ e
      ·simp at e
     |some y=>exact ih _ _ _ _ e
   |true=>
    simp only[qt]at e ⊢
    cases hk:hs[k]? with
    |none=>rw[hk]at e;simp at e
    |some h=>
     rw[hk]at e
     simp only[aa]at e ⊢
     cases ha:BC tb c (eval tb f) h o.o with
     |none=>rw[ha]at e;simp at e
     |some p=>
      rw[ha]at e
      rw[G3 b ha]
      simp only[aa]at e ⊢
      cases w with
      |nil=>simp at e
      |cons x w=>
       cases x with
       |none=>
        simp only at e ⊢
        split at e
        ·rename_i hq;rw[qn hq];exact ih _ _ _ _ e
        ·simp at e
       |some y=>
        obtain⟨lo,hi⟩:=y
        simp only at e ⊢
        split at e
        ·rename_i hq
         rw[qn]
         ·exact ih _ _ _ _ e
         ·simp only[cd,qp]at hq ⊢
          intro j hj
          obtain⟨u,hu,hu'⟩:=hq j hj
          refine⟨u,?_,hu'⟩
          cases hj':hs[j]? with
          |none=>rw[hj']at hu;simp at hu
          |some h'=>rw[hj']at hu;exact G3 b hu
        ·simp at e
theorem lpN_le{F G:Fr→Az→Option (Ex×Fr×Az)}(b: ∀f h r,F f h=some r→G f h=some r): ∀(n:Nat) (f:Fr) (h:Az) (r:Ex×Fr×Az),S9 F n f h=some r→S9 G n f h=some r:=by
 intro n
 induction n with
 |zero=>intro f h r e;simp[S9]at e
 |succ n ih=>
  intro f h r e
  simp only[S9]at e ⊢
  cases hF:F f h with
  |none=>rw[hF]at e;simp at e
  |some r'=>
   rw[hF]at e
   rw[b _ _ _ hF]
   obtain⟨x,f',h'⟩:=r'
   cases x with
   |normal=>exact ih _ _ _ e
   |exit id=>exact e
   |ret=>exact e
theorem RS{tb:Di}{c d:Nat→List AV→Az→Mb}(b:Below c d): ∀(x:AC) (f:Fr) (h:Az) (r:Ex×Fr×Az),Bj tb c x f h=some r→Bj tb d x f h=some r:=by
 intro x
 induction x with
 |skip=>intro f h r e;exact e
 |reg l=>
  intro f h r e
  simp only[Bj]at e ⊢
  cases ho:ops tb c l f h with
  |none=>rw[ho]at e;simp at e
  |some p=>rw[ho]at e;rw[mP b _ _ _ _ ho];exact e
 |regq l=>
  intro f h r e
  simp only[Bj]at e ⊢
  cases ho:I9 tb c h l f with
  |none=>rw[ho]at e;simp at e
  |some p=>rw[ho]at e;rw[eK b h _ _ _ ho];exact e
 |regd l w=>
  intro f h r e
  simp only[Bj]at e ⊢
  cases ho:Ip tb c l w f h with
  |none=>rw[ho]at e;simp at e
  |some hs=>
   rw[ho]at e
   rw[Tl b _ _ _ _ _ ho]
   simp only[aa]at e ⊢
   cases hd:Kr tb c (h::hs.tail) l w 0 f with
   |none=>rw[hd]at e;simp at e
   |some f'=>rw[hd]at e;rw[RL b _ _ _ _ _ _ hd];exact e
 |seq x y ihx ihy=>
  intro f h r e
  simp only[Bj]at e ⊢
  cases hx:Bj tb c x f h with
  |none=>rw[hx]at e;simp at e
  |some p=>
   rw[hx]at e
   rw[ihx _ _ _ hx]
   obtain⟨q,f',h'⟩:=p
   cases q with
   |normal=>exact ihy _ _ _ e
   |exit id=>exact e
   |ret=>exact e
 |cond o x y ihx ihy=>
  intro f h r e
  simp only[Bj]at e ⊢
  split at e
  ·rename_i t ht
   split at e
   ·rename_i hh;simp only[hh,qt];exact ihx _ _ _ e
   ·rename_i hh;simp only[hh];exact ihy _ _ _ e
  ·simp at e
 |blk id x ih=>
  intro f h r e
  simp only[Bj]at e ⊢
  cases hx:Bj tb c x f h with
  |none=>rw[hx]at e;simp at e
  |some p=>rw[hx]at e;rw[ih _ _ _ hx];exact e
 |loop Bo x ih=>
  intro f h r e
  simp only[Bj]at e ⊢
  obtain⟨n,hn⟩:=nA e
  refine Zj _ (n:=n) (lpN_le ?_ n f h r hn)
  intro f h r e
  simp only[Lu]at e ⊢
  cases hx:Bj tb c x (keepL Bo f) h with
  |none=>rw[hx]at e;simp at e
  |some p=>rw[hx]at e;rw[ih _ _ _ hx];exact e
 |exit id=>intro f h r e;exact e
 |ret=>intro f h r e;exact e
 |scope x ih=>intro f h r e;exact ih f h r e
 |stop=>intro f h r e;simp[Bj]at e
 |keep Bo x ih=>
  intro f h r e
  simp only[Bj]at e ⊢
  cases hx:Bj tb c x f h with
  |none=>rw[hx]at e;simp at e
  |some p=>rw[hx]at e;rw[ih _ _ _ hx];exact e
theorem fO{tb:Di}{c d:Nat→List AV→Az→Mb}(b:Below c d){fn:CI}{a:List AV}{h:Az}{r:AV×Option Az}
  (e:body tb c fn a h=some r):body tb d fn a h=some r:=by
 simp only[body]at e ⊢
 split at e
 ·rename_i hn
  rw[qn hn]
  cases hx:Bj tb c fn.body (a.zipIdx.map fun p=>(p.2,p.1)) h with
  |none=>rw[hx]at e;simp at e
  |some p=>rw[hx]at e;rw[RS b _ _ _ _ hx];exact e
 ·simp at e
theorem run_succ(tb:Di): ∀n,Below (run tb n) (run tb (n+1)):=by
 intro n
 induction n with
 |zero=>intro f a h r e;simp[run]at e
 |succ n ih=>
  intro f a h r e
  rw[run]at e ⊢
  cases hf:tb.fns f with
  |none=>rw[hf]at e;simp at e
  |some fn=>rw[hf]at e;exact fO ih e
theorem DI(tb:Di){n m:Nat}(h:n≤m):Below (run tb n) (run tb m):=by
 induction m with
 |zero=>obtain rfl:n=0:=(by omega);exact fun _ _ _ _ e=>e
 |succ m ih=>
  by_cases hn:n=m+1
  ·subst hn;exact fun _ _ _ _ e=>e
  ·exact fun f a x r e=>run_succ tb m _ _ _ _ (ih (by omega) f a x r e)
theorem den_of{tb:Di}{n f:Nat}{a:List AV}{h:Az}{r:AV×Option Az}(e:run tb n f a h=some r):CC tb f a h=some r:=by
 unfold CC
 have x: ∃n,(run tb n f a h).isSome=true:=⟨n,by rw[e];rfl⟩
 rw[dif_pos x]
 have hc:=jv x
 cases hr:run tb (d5 x) f a h with
 |none=>rw[hr]at hc;simp at hc
 |some r'=>
  have h1:=DI tb (fo n (d5 x)) _ _ _ _ e
  have h2:=DI tb (d9 n (d5 x)) _ _ _ _ hr
  rw[h1]at h2
  exact h2.symm
theorem tM{tb:Di}{f:Nat}{a:List AV}{h:Az}{r:AV×Option Az}(e:CC tb f a h=some r): ∃n,run tb n f a h=some r:=by
 unfold CC at e
 split at e
 ·exact⟨_,e⟩
 ·simp at e
theorem xF(tb:Di)(n:Nat):Below (run tb n) (CC tb):=fun _ _ _ _ e=>den_of e
theorem UN{tb:Di}{rho:AO→AV}{h:Az}{o:HB}{r:AV×Option Az}(e:BC tb (CC tb) rho h o=some r): ∃n,BC tb (run tb n) rho h o=some r:=by
 have hc: ∀f a,BK tb (CC tb) h f a=some r→ ∃n,BK tb (run tb n) h f a=some r:=by
  intro f a e
  unfold BK at*
  cases hp:tb.prim f with
  |some p=>rw[hp]at e;exact⟨0,e⟩
  |none=>rw[hp]at e;exact tM e
 cases o<;>first
  |exact⟨0,e⟩
  |(simp only[BC]at e ⊢;exact hc _ _ e)
  |skip
 case callv x xs=>
  simp only[BC]at e ⊢
  split at e
  ·exact hc _ _ e
  ·simp at e
theorem ops_den{tb:Di}: ∀(l:List Br) (f:Fr) (h:Az) (r:Fr×Az),ops tb (CC tb) l f h=some r→ ∃n,ops tb (run tb n) l f h=some r:=by
 intro l
 induction l with
 |nil=>intro f h r e;exact⟨0,e⟩
 |cons o l ih=>
  intro f h r e
  simp only[ops]at e ⊢
  cases hw:wanted f o.g with
  |none=>rw[hw]at e;simp at e
  |some t=>
   rw[hw]at e
   simp only[aa]at e ⊢
   cases t with
   |false=>exact ih _ _ _ e
   |true=>
    simp only[qt]at e ⊢
    cases ha:BC tb (CC tb) (eval tb f) h o.o with
    |none=>rw[ha]at e;simp at e
    |some p=>
     rw[ha]at e
     obtain⟨n,hn⟩:=UN ha
     obtain⟨m,hm⟩:=ih _ _ _ e
     refine⟨max n m,?_⟩
     rw[G3 (DI tb (fo n m)) hn]
     exact mP (DI tb (d9 n m)) _ _ _ _ hm
theorem opsQ_den{tb:Di}(h:Az): ∀(l:List Br) (f:Fr) (r:Fr),I9 tb (CC tb) h l f=some r→ ∃n,I9 tb (run tb n) h l f=some r:=by
 intro l
 induction l with
 |nil=>intro f r e;exact⟨0,e⟩
 |cons o l ih=>
  intro f r e
  simp only[I9]at e ⊢
  cases hw:wanted f o.g with
  |none=>rw[hw]at e;simp at e
  |some t=>
   rw[hw]at e
   simp only[aa]at e ⊢
   cases t with
   |false=>exact ih _ _ e
   |true=>
    simp only[qt]at e ⊢
    cases ha:BC tb (CC tb) (eval tb f) h o.o with
    |none=>rw[ha]at e;simp at e
    |some p=>
     rw[ha]at e
     obtain⟨n,hn⟩:=UN ha
     simp only[aa]at e
     split at e
     ·rename_i hq
      obtain⟨m,hm⟩:=ih _ _ e
      refine⟨max n m,?_⟩
      rw[G3 (DI tb (fo n m)) hn]
      simp only[aa]
      rw[qn hq]
      exact eK (DI tb (d9 n m)) h _ _ _ hm
     ·simp at e
theorem yW{tb:Di}: ∀(l:List Br) (w:List (Option (Nat×Nat))) (f:Fr) (h:Az) (r:List Az),Ip tb (CC tb) l w f h=some r→ ∃n,Ip tb (run tb n) l w f h=some r:=by
 intro l
 induction l with
 |nil=>intro w f h r e;exact⟨0,e⟩
 |cons o l ih=>
  intro w f h r e
  simp only[Ip]at e ⊢
  cases hw:wanted f o.g with
  |none=>rw[hw]at e;simp at e
  |some t=>
   rw[hw]at e
   simp only[aa]at e ⊢
   cases t with
   |false=>
    simp only[au,qu]at e ⊢
    cases hh:Ip tb (CC tb) l w.tail (put f o.d (.tup [])) h with
    |none=>rw[hh]at e;simp at e
    |some r'=>
     rw[hh]at e
     obtain⟨n,hn⟩:=ih _ _ _ _ hh
     exact⟨n,by rw[hn];exact e⟩
   |true=>
    simp only[qt]at e ⊢
    cases ha:BC tb (CC tb) (eval tb f) h o.o with
    |none=>rw[ha]at e;simp at e
    |some p=>
     rw[ha]at e
     obtain⟨n,hn⟩:=UN ha
     simp only[aa]at e
     cases hh:Ip tb (CC tb) l w.tail (put f o.d p.1) (p.2.getD h)with
     |none=>rw[hh]at e;simp at e
     |some r'=>
      rw[hh]at e
      obtain⟨m,hm⟩:=ih _ _ _ _ hh
      refine⟨max n m,?_⟩
      rw[G3 (DI tb (fo n m)) hn]
      simp only[aa]
      rw[Tl (DI tb (d9 n m)) _ _ _ _ _ hm]
      exact e
theorem all_den{tb:Di}{f:Fr}{o:HB}{v:AV}(hs:List Az): ∀(l:List Nat),
  (∀j∈l,∃u,(hs[j]?).bind (fun h=>BC tb (CC tb) (eval tb f) h o)=some (v,u)∧some (u.getD (hs[j]?.getD []))=hs[j]?)→
  ∃n,∀j∈l,∃u,(hs[j]?).bind (fun h=>BC tb (run tb n) (eval tb f) h o)=some (v,u)∧some (u.getD (hs[j]?.getD []))=hs[j]? :=by
 intro l
 induction l with
 |nil=>intro _;exact⟨0,fun j hj=>by cases hj⟩
 |cons j l ih=>
  intro H
  obtain⟨n,hn⟩:=ih fun j hj=>H j (bg _ hj)
  obtain⟨u,hu,hu'⟩:=H j bj
  cases hj:hs[j]? with
  |none=>rw[hj]at hu;simp at hu
  |some h=>
   rw[hj]at hu
   obtain⟨m,hm⟩:=UN hu
   refine⟨max n m,?_⟩
   intro i hi
   rcases bu.1 hi with e|hi
   ·subst e
    refine⟨u,?_,hu'⟩
    rw[hj]
    exact G3 (DI tb (d9 n m)) hm
   ·obtain⟨u',h1,h2⟩:=hn i hi
    refine⟨u',?_,h2⟩
    cases hi':hs[i]? with
    |none=>rw[hi']at h1;simp at h1
    |some h'=>rw[hi']at h1;exact G3 (DI tb (fo n m)) h1
theorem opsD_den{tb:Di}(hs:List Az): ∀(l:List Br) (w:List (Option (Nat×Nat))) (k:Nat) (f:Fr) (r:Fr),Kr tb (CC tb) hs l w k f=some r→ ∃n,Kr tb (run tb n) hs l w k f=some r:=by
 intro l
 induction l with
 |nil=>intro w k f r e;exact⟨0,e⟩
 |cons o l ih=>
  intro w k f r e
  simp only[Kr]at e ⊢
  cases hw:wanted f o.g with
  |none=>rw[hw]at e;simp at e
  |some t=>
   rw[hw]at e
   simp only[aa]at e ⊢
   cases t with
   |false=>
    simp only[au,qu]at e ⊢
    cases w with
    |nil=>simp at e
    |cons x w=>
     cases x with
     |none=>
      simp only at e ⊢
      split at e
      ·rename_i hq;simp only[qn hq];exact ih _ _ _ _ e
      ·simp at e
     |some y=>exact ih _ _ _ _ e
   |true=>
    simp only[qt]at e ⊢
    cases hk:hs[k]? with
    |none=>rw[hk]at e;simp at e
    |some h=>
     rw[hk]at e
     simp only[aa]at e ⊢
     cases ha:BC tb (CC tb) (eval tb f) h o.o with
     |none=>rw[ha]at e;simp at e
     |some p=>
      rw[ha]at e
      obtain⟨n,hn⟩:=UN ha
      simp only[aa]at e ⊢
      cases w with
      |nil=>simp at e
      |cons x w=>
       cases x with
       |none=>
        simp only at e ⊢
        split at e
        ·rename_i hq
         obtain⟨m,hm⟩:=ih _ _ _ _ e
         refine⟨max n m,?_⟩
         rw[G3 (DI tb (fo n m)) hn]
         simp only[aa]
         rw[qn hq]
         exact RL (DI tb (d9 n m)) hs _ _ _ _ _ hm
        ·simp at e
       |some y=>
        obtain⟨lo,hi⟩:=y
        simp only at e ⊢
        split at e
        ·rename_i hq
         obtain⟨m,hm⟩:=ih _ _ _ _ e
         simp only[cd,qp]at hq
         obtain⟨q,hq⟩:=all_den hs _ hq
         refine⟨max n (max m q),?_⟩
         rw[G3 (DI tb (fo n (max m q))) hn]
         simp only[aa]
         rw[qn]
         ·exact RL (DI tb (dy (fo m q) (d9 n _))) hs _ _ _ _ _ hm
         ·simp only[cd,qp]
          intro j hj
          obtain⟨u,hu,hu'⟩:=hq j hj
          refine⟨u,?_,hu'⟩
          cases hj':hs[j]? with
          |none=>rw[hj']at hu;simp at hu
          |some h'=>rw[hj']at hu;exact G3 (DI tb (dy (d9 m q) (d9 n _))) hu
        ·simp at e
theorem lpN_den{F:Nat→Fr→Az→Option (Ex×Fr×Az)}{G:Fr→Az→Option (Ex×Fr×Az)}(hm: ∀n m,n≤m→ ∀f h r,F n f h=some r→F m f h=some r)
  (hG: ∀f h r,G f h=some r→ ∃n,F n f h=some r): ∀(k:Nat) (f:Fr) (h:Az) (r:Ex×Fr×Az),S9 G k f h=some r→ ∃n,S9 (F n) k f h=some r:=by
 intro k
 induction k with
 |zero=>intro f h r e;simp[S9]at e
 |succ k ih=>
  intro f h r e
  simp only[S9]at e ⊢
  cases hx:G f h with
  |none=>rw[hx]at e;simp at e
  |some p=>
   rw[hx]at e
   obtain⟨n,hn⟩:=hG _ _ _ hx
   obtain⟨q,f',h'⟩:=p
   cases q with
   |normal=>
    obtain⟨m,hm'⟩:=ih _ _ _ e
    refine⟨max n m,?_⟩
    rw[hm n _ (fo n m) _ _ _ hn]
    exact lpN_le (hm m _ (d9 n m)) _ _ _ _ hm'
   |exit id=>exact⟨n,by rw[hn];exact e⟩
   |ret=>exact⟨n,by rw[hn];exact e⟩
theorem exec_den{tb:Di}: ∀(x:AC) (f:Fr) (h:Az) (r:Ex×Fr×Az),Bj tb (CC tb) x f h=some r→ ∃n,Bj tb (run tb n) x f h=some r:=by
 intro x
 induction x with
 |skip=>intro f h r e;exact⟨0,e⟩
 |reg l=>
  intro f h r e
  simp only[Bj]at e ⊢
  cases ho:ops tb (CC tb) l f h with
  |none=>rw[ho]at e;simp at e
  |some p=>
   rw[ho]at e
   obtain⟨n,hn⟩:=ops_den _ _ _ _ ho
   exact⟨n,by rw[hn];exact e⟩
 |regq l=>
  intro f h r e
  simp only[Bj]at e ⊢
  cases ho:I9 tb (CC tb) h l f with
  |none=>rw[ho]at e;simp at e
  |some p=>
   rw[ho]at e
   obtain⟨n,hn⟩:=opsQ_den h _ _ _ ho
   exact⟨n,by rw[hn];exact e⟩
 |regd l w=>
  intro f h r e
  simp only[Bj]at e ⊢
  cases ho:Ip tb (CC tb) l w f h with
  |none=>rw[ho]at e;simp at e
  |some hs=>
   rw[ho]at e
   simp only[aa]at e
   obtain⟨n,hn⟩:=yW _ _ _ _ _ ho
   cases hd:Kr tb (CC tb) (h::hs.tail) l w 0 f with
   |none=>rw[hd]at e;simp at e
   |some f'=>
    rw[hd]at e
    obtain⟨m,hm⟩:=opsD_den _ _ _ _ _ _ hd
    refine⟨max n m,?_⟩
    rw[Tl (DI tb (fo n m)) _ _ _ _ _ hn]
    simp only[aa]
    rw[RL (DI tb (d9 n m)) _ _ _ _ _ _ hm]
    exact e
 |seq x y ihx ihy=>
  intro f h r e
  simp only[Bj]at e ⊢
  cases hx:Bj tb (CC tb) x f h with
  |none=>rw[hx]at e;simp at e
  |some p=>
   rw[hx]at e
   obtain⟨n,hn⟩:=ihx _ _ _ hx
   obtain⟨q,f',h'⟩:=p
   cases q with
   |normal=>
    obtain⟨m,hm⟩:=ihy _ _ _ e
    refine⟨max n m,?_⟩
    rw[RS (DI tb (fo n m)) _ _ _ _ hn]
    exact RS (DI tb (d9 n m)) _ _ _ _ hm
   |exit id=>exact⟨n,by rw[hn];exact e⟩
   |ret=>exact⟨n,by rw[hn];exact e⟩
 |cond o x y ihx ihy=>
  intro f h r e
  simp only[Bj]at e ⊢
  split at e
  ·rename_i t ht
   split at e
   ·rename_i hh;simp only[hh,qt];exact ihx _ _ _ e
   ·rename_i hh;simp only[hh];exact ihy _ _ _ e
  ·simp at e
 |blk id x ih=>
  intro f h r e
  simp only[Bj]at e ⊢
  cases hx:Bj tb (CC tb) x f h with
  |none=>rw[hx]at e;simp at e
  |some p=>
   rw[hx]at e
   obtain⟨n,hn⟩:=ih _ _ _ hx
   exact⟨n,by rw[hn];exact e⟩
 |loop Bo x ih=>
  intro f h r e
  simp only[Bj]at e ⊢
  obtain⟨k,hk⟩:=nA e
  have hm: ∀n m,n≤m→ ∀f h r,Lu Bo (Bj tb (run tb n) x) f h=some r→Lu Bo (Bj tb (run tb m) x) f h=some r:=by
   intro n m hnm f h r e
   simp only[Lu]at e ⊢
   cases hx:Bj tb (run tb n) x (keepL Bo f) h with
   |none=>rw[hx]at e;simp at e
   |some p=>rw[hx]at e;rw[RS (DI tb hnm) _ _ _ _ hx];exact e
  have hg: ∀f h r,Lu Bo (Bj tb (CC tb) x) f h=some r→ ∃n,Lu Bo (Bj tb (run tb n) x) f h=some r:=by
   intro f h r e
   simp only[Lu]at e ⊢
   cases hx:Bj tb (CC tb) x (keepL Bo f) h with
   |none=>rw[hx]at e;simp at e
   |some p=>
    rw[hx]at e
    obtain⟨n,hn⟩:=ih _ _ _ hx
    exact⟨n,by rw[hn];exact e⟩
  obtain⟨n,hn⟩:=lpN_den (F:=fun n=>Lu Bo (Bj tb (run tb n) x)) hm hg _ _ _ _ hk
  exact⟨n,Zj _ hn⟩
 |exit id=>intro f h r e;exact⟨0,e⟩
 |ret=>intro f h r e;exact⟨0,e⟩
 |scope x ih=>intro f h r e;exact ih f h r e
 |stop=>intro f h r e;simp[Bj]at e
 |keep Bo x ih=>
  intro f h r e
  simp only[Bj]at e ⊢
  cases hx:Bj tb (CC tb) x f h with
  |none=>rw[hx]at e;simp at e
  |some p=>
   rw[hx]at e
   obtain⟨n,hn⟩:=ih _ _ _ hx
   exact⟨n,by rw[hn];exact e⟩
theorem Rb(tb:Di)(f:Nat)(a:List AV)(h:Az):CC tb f a h=(tb.fns f).bind fun fn=>body tb (CC tb) fn a h:=by
 cases hf:tb.fns f with
 |none=>
  cases hd:CC tb f a h with
  |none=>rfl
  |some r=>
   obtain⟨n,hn⟩:=tM hd
   cases n with
   |zero=>simp[run]at hn
   |succ n=>rw[run,hf]at hn;simp at hn
 |some fn=>
  simp only[aa]
  cases hb:body tb (CC tb) fn a h with
  |some r=>
   have: ∃n,body tb (run tb n) fn a h=some r:=by
    simp only[body]at hb ⊢
    split at hb
    ·rename_i hn
     simp only[qn hn]
     cases hx:Bj tb (CC tb) fn.body (a.zipIdx.map fun p=>(p.2,p.1)) h with
     |none=>rw[hx]at hb;simp at hb
     |some p=>
      rw[hx]at hb
      obtain⟨n,hn⟩:=exec_den _ _ _ _ hx
      exact⟨n,by rw[hn];exact hb⟩
    ·simp at hb
   obtain⟨n,hn⟩:=this
   exact den_of (n:=n+1) (by rw[run,hf];exact hn)
  |none=>
   cases hd:CC tb f a h with
   |none=>rfl
   |some r=>
    obtain⟨n,hn⟩:=tM hd
    cases n with
    |zero=>simp[run]at hn
    |succ n=>
     rw[run,hf]at hn
     have:=fO (xF tb n) hn
     rw[hb]at this
     simp at this
end
section
structure Place where
 blk:Nat
 base:Nat
 size:Nat
structure DR where
 φ:Nat→Place
 H:Az
 w:World
def DR.own(C:DR)(b:Nat):Prop:= ∃id,id<C.H.length∧(C.φ id).blk=b
def Ev(w:World)(b base:Nat)(vs:List Value):Prop:= ∀(j:Nat) (v:Value),vs[j]? =some v→w.cell? ⟨b,base+j,none⟩=some v
def scal:AV→Bool
 | .agg _=>false
 | .tup _=>false
 | .junk=>false
 |_=>true
def Tq:CB→Bool
 | .row _ _ _ _=>false
 |_=>true
mutual
def HG(C:DR):AV→Value→Prop
 | .b x,v=>v= .bool x
 | .i k n,v=>v= .int k n
 | .s l,v=>v= .string ⟨l.toArray⟩
 | .agg cs,v=> ∃vs:List Value,v= .agg vs.toArray∧cs.all scal=true∧B6 C cs vs
 | .tup cs,v=> ∃vs:List Value,v= .tuple vs.toArray∧B6 C cs vs
 | .nilp,v=>v= .pointer none
 | .ptr id off,v=>(∃o,C.H[id]? =some o∧Tq o=true)∧v= .pointer (some ⟨(C.φ id).blk,off,none⟩)
 | .pe id n i off,v=>(∃p,v= .pointer (some p))∧ ∃fz sz els,rowAt C.H id=some (fz,sz,els)∧n≤els.length∧
   (n=els.length→v= .pointer (some ⟨(C.φ id).blk,(C.φ id).base+i*sz+off,none⟩))
 | .ip cs off,v=> ∃b base vs,v= .pointer (some ⟨b,base+off,none⟩)∧b<C.w.heap.size∧ ¬C.own b∧Ev C.w b base vs∧cs.all scal=true∧B6 C cs vs
 | .nils,v=>v= .slice none 0 0
 | .sl sz els,v=>(∃b base cap vss,v= .slice (some ⟨b,base,none⟩) els.length cap∧els.length≤cap∧b<C.w.heap.size∧ ¬C.own b∧
   Ev C.w b base vss.flatten∧(∀e∈els,e.length=sz∧e.all scal=true)∧Bk C els vss)∨(els=[]∧ ∃p cap,v= .slice (some p) 0 cap)
 | .orow id n lo len,v=>(∃p c,v= .slice (some p) len c)∧ ∃fz sz els,rowAt C.H id=some (fz,sz,els)∧n≤els.length∧
   (n=els.length→lo+len≤n∧ ∃off cap,v= .slice (some ⟨(C.φ id).blk,off,none⟩) len cap∧len≤cap∧(0<len→off=(C.φ id).base+lo*sz)∧off+cap*sz≤(C.φ id).size∧(C.φ id).base≤off)
 | .ocel sz id off len,v=>(∃o,C.H[id]? =some o∧Tq o=true)∧ ∃o cap,v= .slice (some ⟨(C.φ id).blk,o,none⟩) len cap∧len≤cap∧(0<len→o=off)∧0<sz
 | .nilm,v=>v= .map none
 | .mp id,v=>(∃o,C.H[id]? =some o∧Tq o=true)∧v= .map (some (C.φ id).blk)
 | .nilf,v=>v= .nilFunc
 | .fn f a b,v=> ∃x y:List Value,v= .func f x.toArray y.toArray∧B6 C a x∧B6 C b y
 | .nili,v=>v= .nilIface
 | .ifc _ a,v=> ∃u x,v= .iface u x∧HG C a x
 | .junk,_=>True
def B6(C:DR):List AV→List Value→Prop
 |[],vs=>vs=[]
 |a::r,vs=> ∃v q,vs=v::q∧HG C a v∧B6 C r q
def Bk(C:DR):List (List AV)→List (List Value)→Prop
 |[],vss=>vss=[]
 |a::r,vss=> ∃v q,vss=v::q∧B6 C a v∧Bk C r q
end
def Obj(C:DR)(p:Place):CB→Prop
 | .cells l cs=> ∃(vs:List Value) (arr:Array Value) (e:TypeId) (fr:Nat×Nat),(C.w.heap[p.blk]? =some (.cells arr e fr)∧ ∀k,l=some k→e=k)∧arr.size=cs.length∧cs.all scal=true∧B6 C cs vs∧
   Ev C.w p.blk 0 vs∧(∀o,o<cs.length→C.w.frozen? ⟨p.blk,o,none⟩=false)
 | .row l fz sz els=> ∃(vss:List (List Value)) (arr:Array Value) (e:TypeId) (fr:Nat×Nat),(C.w.heap[p.blk]? =some (.cells arr e fr)∧fr.1≤fr.2∧ ∀k,l=some k→e=k)∧arr.size=p.size∧0<sz∧
   (∀x∈els,x.length=sz∧x.all scal=true)∧Bk C els vss∧p.base+els.length*sz≤p.size∧Ev C.w p.blk p.base vss.flatten∧
   (fz=false→ ∀o,o<p.size→C.w.frozen? ⟨p.blk,o,none⟩=false)∧(fz=false→ ∀o,p.base+els.length*sz≤o→o<p.size→C.w.frozen? ⟨p.blk,o,none⟩=false)
 | .map es=> ∃(ms:List MapEntry) (clock:Nat),C.w.heap[p.blk]? =some (.map ms.toArray clock)∧B6 C (es.map (·.1)) (ms.map (·.key))∧B6 C (es.map (·.2)) (ms.map (·.val))
 | .iter l pos=>C.w.heap[p.blk]? =some (.stringIter ⟨l.toArray⟩ pos)
structure Inv(tb:Di)(C:DR):Prop where
 obj: ∀id o,C.H[id]? =some o→Obj C (C.φ id) o
 inj: ∀i j,i<C.H.length→j<C.H.length→(C.φ i).blk=(C.φ j).blk→i=j
 lt: ∀i,i<C.H.length→(C.φ i).blk<C.w.heap.size
 gl: ∀g cs,tb.gl g=some cs→g<C.w.heap.size∧ ¬C.own g∧cs.all scal=true∧ ∃vs,Ev C.w g 0 vs∧B6 C cs vs
 it: ∀g∈tb.it,¬C.own g∧ ∃m:Int,C.w.cell? ⟨g,0,none⟩=some (.int .i64 m)
def Rest(w w':World):Prop:=w'.os=w.os∧w'.tape=w.tape∧w'.output=w.output
structure LH(C D:DR):Prop where
 rest:Rest C.w D.w
 size:C.w.heap.size≤D.w.heap.size
 len:C.H.length≤D.H.length
 same: ∀b,b<C.w.heap.size→ ¬C.own b→D.w.heap[b]? =C.w.heap[b]? ∧ ¬D.own b
 fixed: ∀id o,C.H[id]? =some o→Tq o=true→(∃o',D.H[id]? =some o'∧Tq o'=true)∧D.φ id=C.φ id
 row: ∀id fz sz els,rowAt C.H id=some (fz,sz,els)→ ∃fz' els',rowAt D.H id=some (fz',sz,els')∧els.length≤els'.length∧(els.length=els'.length→D.φ id=C.φ id)
theorem LH.refl(C:DR):LH C C:=
 ⟨⟨rfl,rfl,rfl⟩,be _,be _,fun _ _ h=>⟨rfl,h⟩,fun _ o h f=>⟨⟨o,h,f⟩,rfl⟩,fun _ fz _ els h=>⟨fz,els,h,be _,fun _=>rfl⟩⟩
theorem LH.trans{C D E:DR}(a:LH C D)(b:LH D E):LH C E:=by
 refine⟨⟨b.rest.1.trans a.rest.1,b.rest.2.1.trans a.rest.2.1,b.rest.2.2.trans a.rest.2.2⟩,dy a.size b.size,dy a.len b.len,?_,?_,?_⟩
 ·intro x hx ho
  obtain⟨h1,h2⟩:=a.same x hx ho
  obtain⟨h3,h4⟩:=b.same x (en hx a.size) h2
  exact⟨h3.trans h1,h4⟩
 ·intro id o h f
  obtain⟨⟨o',h',f'⟩,e⟩:=a.fixed id o h f
  obtain⟨h2,e'⟩:=b.fixed id o' h' f'
  exact⟨h2,e'.trans e⟩
 ·intro id fz sz els h
  obtain⟨fz',els',h',l,e⟩:=a.row id fz sz els h
  obtain⟨fz'',els'',h'',l',e'⟩:=b.row id fz' sz els' h'
  exact⟨fz'',els'',h'',dy l l',fun q=>(e' (by omega)).trans (e (by omega))⟩
theorem lt_of_cell{w:World}{b o:Nat}{v:Value}(h:w.cell? ⟨b,o,none⟩=some v):b<w.heap.size:=by
 refine Nat.lt_of_not_le fun hn=> ?_
 simp only[f7]at h
 rw[kx hn]at h
 cases h
theorem P2{w w':World}{b o:Nat}(h:w'.heap[b]? =w.heap[b]?):w'.cell? ⟨b,o,none⟩=w.cell? ⟨b,o,none⟩:=by
 simp only[f7,h]
theorem Ev.same{w w':World}{b base:Nat}{vs:List Value}(h:w'.heap[b]? =w.heap[b]?)(x:Ev w b base vs):Ev w' b base vs:=
 fun j v e=>by rw[P2 h];exact x j v e
mutual
theorem HG.ext{C D:DR}(X:LH C D): ∀{a:AV} {v:Value},HG C a v→HG D a v
 | .b _,_,h=>h
 | .i _ _,_,h=>h
 | .s _,_,h=>h
 | .agg _,_,⟨vs,e,s,h⟩=>⟨vs,e,s,B6.ext X h⟩
 | .tup _,_,⟨vs,e,h⟩=>⟨vs,e,B6.ext X h⟩
 | .nilp,_,h=>h
 | .ptr _ _,_,⟨⟨o,h,f⟩,e⟩=>by
  obtain⟨h',e'⟩:=X.fixed _ o h f
  exact⟨h',by rw[e'];exact e⟩
 | .pe _ _ _ _,_,⟨q0,fz,sz,els,h,l,e⟩=>by
  obtain⟨fz',els',h',l',e'⟩:=X.row _ fz sz els h
  exact⟨q0,fz',sz,els',h',by omega,fun q=>by rw[e' (by omega)];exact e (by omega)⟩
 | .ip _ _,_,⟨b,base,vs,e,lt,ho,hh,s,r⟩=>by
  obtain⟨h1,h2⟩:=X.same b lt ho
  exact⟨b,base,vs,e,en lt X.size,h2,hh.same h1,s,B6.ext X r⟩
 | .nils,_,h=>h
 | .sl _ _,_, .inr h=> .inr h
 | .sl _ _,_, .inl ⟨b,base,cap,vss,e,l,lt,ho,hh,s,r⟩=>by
  obtain⟨h1,h2⟩:=X.same b lt ho
  exact .inl ⟨b,base,cap,vss,e,l,en lt X.size,h2,hh.same h1,s,Bk.ext X r⟩
 | .orow _ _ _ _,_,⟨q0,fz,sz,els,h,l,e⟩=>by
  obtain⟨fz',els',h',l',e'⟩:=X.row _ fz sz els h
  exact⟨q0,fz',sz,els',h',by omega,fun q=>by rw[e' (by omega)];exact e (by omega)⟩
 | .ocel _ _ _ _,_,⟨⟨o,h,f⟩,e⟩=>by
  obtain⟨h',e'⟩:=X.fixed _ o h f
  exact⟨h',by rw[e'];exact e⟩
 | .nilm,_,h=>h
 | .mp _,_,⟨⟨o,h,f⟩,e⟩=>by
  obtain⟨h',e'⟩:=X.fixed _ o h f
  exact⟨h',by rw[e'];exact e⟩
 | .nilf,_,h=>h
 | .fn _ _ _,_,⟨x,y,e,h1,h2⟩=>⟨x,y,e,B6.ext X h1,B6.ext X h2⟩
 | .nili,_,h=>h
 | .ifc _ _,_,⟨u,x,e,h⟩=>⟨u,x,e,HG.ext X h⟩
 | .junk,_,_=>trivial
theorem B6.ext{C D:DR}(X:LH C D): ∀{l:List AV} {vs:List Value},B6 C l vs→B6 D l vs
 |[],_,h=>h
 |_::_,_,⟨v,q,e,h,r⟩=>⟨v,q,e,HG.ext X h,B6.ext X r⟩
theorem Bk.ext{C D:DR}(X:LH C D): ∀{l:List (List AV)} {vs:List (List Value)},Bk C l vs→Bk D l vs
 |[],_,h=>h
 |_::_,_,⟨v,q,e,h,r⟩=>⟨v,q,e,B6.ext X h,Bk.ext X r⟩
end
theorem PO{tb:Di}{C D:DR}(I:Inv tb C)(X:LH C D): ∀g∈tb.it,¬D.own g∧ ∃m:Int,D.w.cell? ⟨g,0,none⟩=some (.int .i64 m):=by
 intro g hg
 obtain⟨h1,m,h2⟩:=I.it g hg
 obtain⟨h3,h4⟩:=X.same g (lt_of_cell h2) h1
 exact⟨h4,m,by rw[P2 h3];exact h2⟩
def DR.cut(C:DR)(n:Nat):DR:=⟨C.φ,C.H.take n,C.w⟩
theorem RV{C:DR}{n id:Nat}(h:id<n):(C.cut n).H[id]? =C.H[id]? :=by
 simp only[DR.cut];rw[dp];simp[h]
theorem kE{C:DR}{n id:Nat}(h:id<n):rowAt (C.cut n).H id=rowAt C.H id:=by
 simp only[rowAt,RV h]
theorem KY{H:Az}{id:Nat}{fz:Bool}{sz:Nat}{els:List (List AV)}(h:rowAt H id=some (fz,sz,els)): ∃t,H[id]? =some (.row t fz sz els)∧ED H id=t:=by
 simp only[rowAt]at h
 split at h
 ·rename_i t fz' sz' els' e
  cases h
  exact⟨t,e,by simp only[ED,e]⟩
 ·cases h
theorem OF{H:Az}{id:Nat}{cs:List AV}(h:C3 H id=some cs): ∃t,H[id]? =some (.cells t cs)∧ED H id=t:=by
 simp only[C3]at h
 split at h
 ·rename_i t cs' e
  cases h
  exact⟨t,e,by simp only[ED,e]⟩
 ·cases h
theorem row_eq{H G:Az}{id:Nat}(h:G[id]? =H[id]?):rowAt G id=rowAt H id:=by simp only[rowAt,h]
theorem qY{H:Az}{id:Nat}{t:Option Nat}{fz:Bool}{sz:Nat}{els:List (List AV)}(h:H[id]? =some (.row t fz sz els)):rowAt H id=some (fz,sz,els):=by
 simp only[rowAt,h]
theorem RU{C:DR}{n b:Nat}(h: ¬C.own b): ¬(C.cut n).own b:=by
 rintro⟨id,hl,e⟩
 exact h ⟨id,by simp only[DR.cut,a6]at hl;omega,e⟩
mutual
theorem HG.cut{C:DR}{n:Nat}: ∀{a:AV} {v:Value},Cc a≤n→HG C a v→HG (C.cut n) a v
 | .b _,_,_,h=>h
 | .i _ _,_,_,h=>h
 | .s _,_,_,h=>h
 | .agg _,_,m,⟨vs,e,s,h⟩=>⟨vs,e,s,B6.cut (by simpa [Cc]using m) h⟩
 | .tup _,_,m,⟨vs,e,h⟩=>⟨vs,e,B6.cut (by simpa [Cc]using m) h⟩
 | .nilp,_,_,h=>h
 | .ptr _ _,_,m,⟨⟨o,h,f⟩,e⟩=>⟨⟨o,by rw[RV (by simp only[Cc]at m;omega)];exact h,f⟩,e⟩
 | .pe _ _ _ _,_,m,⟨q0,fz,sz,els,h,l,e⟩=>⟨q0,fz,sz,els,by rw[kE (by simp only[Cc]at m;omega)];exact h,l,e⟩
 | .ip _ _,_,m,⟨b,base,vs,e,lt,ho,hh,s,r⟩=>⟨b,base,vs,e,lt,RU ho,hh,s,B6.cut (by simpa [Cc]using m) r⟩
 | .nils,_,_,h=>h
 | .sl _ _,_,_, .inr h=> .inr h
 | .sl _ _,_,m, .inl ⟨b,base,cap,vss,e,l,lt,ho,hh,s,r⟩=> .inl ⟨b,base,cap,vss,e,l,lt,RU ho,hh,s,Bk.cut (by simpa [Cc]using m) r⟩
 | .orow _ _ _ _,_,m,⟨q0,fz,sz,els,h,l,e⟩=>⟨q0,fz,sz,els,by rw[kE (by simp only[Cc]at m;omega)];exact h,l,e⟩
 | .ocel _ _ _ _,_,m,⟨⟨o,h,f⟩,e⟩=>⟨⟨o,by rw[RV (by simp only[Cc]at m;omega)];exact h,f⟩,e⟩
 | .nilm,_,_,h=>h
 | .mp _,_,m,⟨⟨o,h,f⟩,e⟩=>⟨⟨o,by rw[RV (by simp only[Cc]at m;omega)];exact h,f⟩,e⟩
 | .nilf,_,_,h=>h
 | .fn _ _ _,_,m,⟨x,y,e,h1,h2⟩=>⟨x,y,e,B6.cut (by simp only[Cc]at m;omega) h1,B6.cut (by simp only[Cc]at m;omega) h2⟩
 | .nili,_,_,h=>h
 | .ifc _ _,_,m,⟨u,x,e,h⟩=>⟨u,x,e,HG.cut (by simpa [Cc]using m) h⟩
 | .junk,_,_,_=>trivial
theorem B6.cut{C:DR}{n:Nat}: ∀{l:List AV} {vs:List Value},B0 l≤n→B6 C l vs→B6 (C.cut n) l vs
 |[],_,_,h=>h
 |_::_,_,m,⟨v,q,e,h,r⟩=>⟨v,q,e,HG.cut (by simp only[B0]at m;omega) h,B6.cut (by simp only[B0]at m;omega) r⟩
theorem Bk.cut{C:DR}{n:Nat}: ∀{l:List (List AV)} {vs:List (List Value)},Dc l≤n→Bk C l vs→Bk (C.cut n) l vs
 |[],_,_,h=>h
 |_::_,_,m,⟨v,q,e,h,r⟩=>⟨v,q,e,B6.cut (by simp only[Dc]at m;omega) h,Bk.cut (by simp only[Dc]at m;omega) r⟩
end
theorem B6.length{C:DR}: ∀{l:List AV} {vs:List Value},B6 C l vs→vs.length=l.length
 |[],_,h=>by rw[show _=[]from h];rfl
 |_::_,_,⟨v,q,e,_,r⟩=>by rw[e];simp[B6.length r]
theorem Bk.length{C:DR}: ∀{l:List (List AV)} {vs:List (List Value)},Bk C l vs→vs.length=l.length
 |[],_,h=>by rw[show _=[]from h];rfl
 |_::_,_,⟨v,q,e,_,r⟩=>by rw[e];simp[Bk.length r]
theorem B6.get{C:DR}: ∀{l:List AV} {vs:List Value} {i:Nat} {a:AV},B6 C l vs→l[i]? =some a→ ∃v,vs[i]? =some v∧HG C a v
 |[],_,_,_,_,h=>by simp at h
 |x::l,_,0,a,⟨v,q,e,h,r⟩,g=>by
  simp at g;subst g;exact⟨v,by rw[e];rfl,h⟩
 |x::l,_,i+1,a,⟨v,q,e,h,r⟩,g=>by
  obtain⟨u,h1,h2⟩:=B6.get r (i:=i) (a:=a) (by simpa using g)
  exact⟨u,by rw[e];simpa using h1,h2⟩
theorem Bk.get{C:DR}: ∀{l:List (List AV)} {vs:List (List Value)} {i:Nat} {a:List AV},Bk C l vs→l[i]? =some a→ ∃v,vs[i]? =some v∧B6 C a v
 |[],_,_,_,_,h=>by simp at h
 |x::l,_,0,a,⟨v,q,e,h,r⟩,g=>by
  simp at g;subst g;exact⟨v,by rw[e];rfl,h⟩
 |x::l,_,i+1,a,⟨v,q,e,h,r⟩,g=>by
  obtain⟨u,h1,h2⟩:=Bk.get r (i:=i) (a:=a) (by simpa using g)
  exact⟨u,by rw[e];simpa using h1,h2⟩
theorem B6.app{C:DR}: ∀{l m:List AV} {vs us:List Value},B6 C l vs→B6 C m us→B6 C (l++m) (vs++us)
 |[],_,_,_,h,g=>by rw[show _=[]from h];exact g
 |_::_,_,_,_,⟨v,q,e,h,r⟩,g=>⟨v,q++_,by rw[e];rfl,h,B6.app r g⟩
theorem Bk.app{C:DR}: ∀{l m:List (List AV)} {vs us:List (List Value)},Bk C l vs→Bk C m us→Bk C (l++m) (vs++us)
 |[],_,_,_,h,g=>by rw[show _=[]from h];exact g
 |_::_,_,_,_,⟨v,q,e,h,r⟩,g=>⟨v,q++_,by rw[e];rfl,h,Bk.app r g⟩
theorem B6.drop{C:DR}: ∀{n:Nat} {l:List AV} {vs:List Value},B6 C l vs→B6 C (l.drop n) (vs.drop n)
 |0,_,_,h=>h
 |n+1,[],_,h=>by rw[show _=[]from h];simp[B6]
 |n+1,_::_,_,⟨v,q,e,h,r⟩=>by rw[e];simpa using B6.drop (n:=n) r
theorem B6.take{C:DR}: ∀{n:Nat} {l:List AV} {vs:List Value},B6 C l vs→B6 C (l.take n) (vs.take n)
 |0,_,_,_=>by simp[B6]
 |n+1,[],_,h=>by rw[show _=[]from h];simp[B6]
 |n+1,_::_,_,⟨v,q,e,h,r⟩=>by rw[e];exact⟨v,q.take n,rfl,h,B6.take r⟩
theorem Bk.drop{C:DR}: ∀{n:Nat} {l:List (List AV)} {vs:List (List Value)},Bk C l vs→Bk C (l.drop n) (vs.drop n)
 |0,_,_,h=>h
 |n+1,[],_,h=>by rw[show _=[]from h];simp[Bk]
 |n+1,_::_,_,⟨v,q,e,h,r⟩=>by rw[e];simpa using Bk.drop (n:=n) r
theorem Bk.take{C:DR}: ∀{n:Nat} {l:List (List AV)} {vs:List (List Value)},Bk C l vs→Bk C (l.take n) (vs.take n)
 |0,_,_,_=>by simp[Bk]
 |n+1,[],_,h=>by rw[show _=[]from h];simp[Bk]
 |n+1,_::_,_,⟨v,q,e,h,r⟩=>by rw[e];exact⟨v,q.take n,rfl,h,Bk.take r⟩
theorem Bk.flat{C:DR}: ∀{l:List (List AV)} {vs:List (List Value)},Bk C l vs→B6 C l.flatten vs.flatten
 |[],_,h=>by rw[show _=[]from h];simp[B6]
 |_::_,_,⟨v,q,e,h,r⟩=>by rw[e];exact B6.app h (Bk.flat r)
theorem Bk.set{C:DR}{a:List AV}{v:List Value}(ha:B6 C a v): ∀{l:List (List AV)} {vs:List (List Value)} {i:Nat},Bk C l vs→Bk C (l.set i a) (vs.set i v)
 |[],_,_,h=>by rw[show _=[]from h];simp[Bk]
 |_::_,_,0,⟨_,q,e,_,r⟩=>by rw[e];exact⟨v,q,rfl,ha,r⟩
 |_::_,_,i+1,⟨u,q,e,h,r⟩=>by rw[e];exact⟨u,q.set i v,rfl,h,Bk.set ha r⟩
theorem Bk.lens{C:DR}{sz:Nat}: ∀{l:List (List AV)} {vs:List (List Value)},(∀x∈l,x.length=sz)→Bk C l vs→ ∀v∈vs,v.length=sz
 |[],_,_,h,v,hv=>by rw[show _=[]from h]at hv;cases hv
 |x::_,_,g,⟨u,q,e,h,r⟩,v,hv=>by
  rw[e]at hv
  rcases bu.1 hv with e'|hv
  ·rw[e',h.length];exact g x bj
  ·exact Bk.lens (fun y hy=>g y (bg _ hy)) r v hv
theorem Inv.cut{tb:Di}{C:DR}{n:Nat}(I:Inv tb C)(m:D1 (C.H.take n)≤n)(hg: ∀g cs,tb.gl g=some cs→B0 cs=0):Inv tb (C.cut n):=by
 have memH: ∀(l:Az) (o:CB),o∈l→E7 o≤D1 l:=by
  intro l
  induction l with
  |nil=>intro o h;cases h
  |cons x l ih=>
   intro o h
   simp only[D1]
   rcases bu.1 h with e|h
   ·subst e;omega
   ·have:=ih o h;omega
 have hl: ∀i,i<(C.cut n).H.length→i<C.H.length:=fun i h=>by simp only[DR.cut,a6]at h;omega
 refine⟨?_,fun i j hi hj e=>I.inj i j (hl i hi) (hl j hj) e,fun i hi=>I.lt i (hl i hi),?_,fun g h=>⟨RU (I.it g h).1,(I.it g h).2⟩⟩
 ·intro id o h
  have hm:E7 o≤n:=dy (memH _ o (cq h)) m
  have hid:id<n:=by
   rcases dq id n with h'|h'
   ·exact h'
   ·simp only[DR.cut]at h;rw[dp]at h;simp[Nat.not_lt.2 h']at h
  rw[RV hid]at h
  have x:=I.obj id o h
  cases o with
  |cells t cs=>
   obtain⟨vs,arr,e,fr,h1,h2,h3,h4,h5⟩:=x
   exact⟨vs,arr,e,fr,h1,h2,h3,B6.cut hm h4,h5⟩
  |row t fz sz els=>
   obtain⟨vss,arr,e,fr,h1,h2,h3,h4,h5,h6⟩:=x
   exact⟨vss,arr,e,fr,h1,h2,h3,h4,Bk.cut hm h5,h6⟩
  |map es=>
   obtain⟨ms,c,h1,h2,h3⟩:=x
   simp only[E7]at hm
   exact⟨ms,c,h1,B6.cut (by omega) h2,B6.cut (by omega) h3⟩
  |iter l pos=>exact x
 ·intro g cs h
  obtain⟨h1,h2,h3,vs,h4,h5⟩:=I.gl g cs h
  exact⟨h1,RU h2,h3,vs,h4,B6.cut (by rw[hg g cs h];omega) h5⟩
theorem LH.cut{C D:DR}{n:Nat}(X:LH C D)(h:C.H.length≤n):LH C (D.cut n):=by
 have lt: ∀{id:Nat} {o:CB},C.H[id]? =some o→id<n:=fun{id o} e=>by
  have:=(ca.1 e).1;omega
 refine⟨X.rest,X.size,by simp only[DR.cut,a6];have:=X.len;omega,fun b hb ho=>⟨(X.same b hb ho).1,RU (X.same b hb ho).2⟩,?_,?_⟩
 ·intro id o e f
  obtain⟨⟨o',h',f'⟩,e'⟩:=X.fixed id o e f
  exact⟨⟨o',by rw[RV (lt e)];exact h',f'⟩,e'⟩
 ·intro id fz sz els e
  obtain⟨fz',els',h',r⟩:=X.row id fz sz els e
  obtain⟨t,e',_⟩:=KY e
  exact⟨fz',els',by rw[kE (lt e')];exact h',r⟩
theorem Pq{w w':World}{b o:Nat}(h:w'.heap[b]? =w.heap[b]?):w'.frozen? ⟨b,o,none⟩=w.frozen? ⟨b,o,none⟩:=by
 simp only[jc,h]
theorem Obj.ext{C D:DR}(X:LH C D){p:Place}{o:CB}(h:D.w.heap[p.blk]? =C.w.heap[p.blk]?)(x:Obj C p o):Obj D p o:=by
 cases o with
 |cells t cs=>
  obtain⟨vs,arr,e,fr,h1,h2,h3,h4,h5,h6⟩:=x
  exact⟨vs,arr,e,fr,⟨h.trans h1.1,h1.2⟩,h2,h3,B6.ext X h4,h5.same h,fun o ho=>by rw[Pq h];exact h6 o ho⟩
 |row t fz sz els=>
  obtain⟨vss,arr,e,fr,h1,h2,h3,h4,h5,h6,h7,h8,h9⟩:=x
  exact⟨vss,arr,e,fr,⟨h.trans h1.1,h1.2⟩,h2,h3,h4,Bk.ext X h5,h6,h7.same h,fun f o ho=>by rw[Pq h];exact h8 f o ho,fun f o ho hs=>by rw[Pq h];exact h9 f o ho hs⟩
 |map es=>
  obtain⟨ms,c,h1,h2,h3⟩:=x
  exact⟨ms,c,h.trans h1,B6.ext X h2,B6.ext X h3⟩
 |iter l pos=>exact h.trans x
theorem Bl{α:Type}{l:List α}{i:Nat}{x:α}(h:l[i]? =some x):i<l.length:=(ca.1 h).1
theorem upd{tb:Di}{C D:DR}(I:Inv tb C)(hrest:Rest C.w D.w){id:Nat}{o o':CB}(ho:C.H[id]? =some o)(hH:D.H=C.H.set id o')(hφ: ∀j,j≠id→D.φ j=C.φ j)
  (hs:C.w.heap.size≤D.w.heap.size) (hw: ∀b,b<C.w.heap.size→b≠(C.φ id).blk→D.w.heap[b]? =C.w.heap[b]?)
  (hb:(D.φ id).blk=(C.φ id).blk∨(C.w.heap.size≤(D.φ id).blk∧(D.φ id).blk<D.w.heap.size))
  (hf:Tq o=true→Tq o'=true∧D.φ id=C.φ id)
  (hr: ∀t fz sz els,o= .row t fz sz els→ ∃t' fz' els',o'= .row t' fz' sz els'∧els.length≤els'.length∧(els.length=els'.length→D.φ id=C.φ id)):
  LH C D∧(Obj D (D.φ id) o'→Inv tb D):=by
 have hid:=Bl ho
 have hlen:D.H.length=C.H.length:=by rw[hH];simp
 have get: ∀j,j≠id→D.H[j]? =C.H[j]? :=fun j hj=>by rw[hH,dx (jz hj)]
 have geti:D.H[id]? =some o':=by rw[hH,dg hid]
 have hown: ∀b,b<C.w.heap.size→ ¬C.own b→ ¬D.own b:=by
  rintro b hlt hn ⟨j,hj,e⟩
  by_cases hji:j=id
  ·subst hji
   rcases hb with h|h
   ·exact hn ⟨j,hid,by rw[←h];exact e⟩
   ·omega
  ·exact hn ⟨j,by omega,by rw[←hφ j hji];exact e⟩
 have X:LH C D:=by
  refine⟨hrest,hs,by omega,fun b hlt hn=>⟨hw b hlt fun e=>hn ⟨id,hid,e.symm⟩,hown b hlt hn⟩,?_,?_⟩
  ·intro j x hj hx
   by_cases hji:j=id
   ·subst hji
    rw[ho]at hj
    obtain rfl:=bf hj
    exact⟨⟨o',geti,(hf hx).1⟩,(hf hx).2⟩
   ·exact⟨⟨x,by rw[get j hji];exact hj,hx⟩,hφ j hji⟩
  ·intro j fz sz els hj
   by_cases hji:j=id
   ·subst hji
    obtain⟨t,hj,_⟩:=KY hj
    rw[ho]at hj
    obtain⟨t',fz',els',h1,h2,h3⟩:=hr t fz sz els (bf hj)
    exact⟨fz',els',qY (t:=t') (by rw[geti,h1]),h2,h3⟩
   ·exact⟨fz,els,by rw[row_eq (get j hji)];exact hj,be _,fun _=>hφ j hji⟩
 refine⟨X,fun ob=>⟨?_,?_,?_,?_,?_⟩⟩
 ·intro j x hj
  by_cases hji:j=id
  ·subst hji
   rw[geti]at hj
   obtain rfl:=bf hj
   exact ob
  ·rw[get j hji]at hj
   rw[hφ j hji]
   have hjl:=Bl hj
   exact Obj.ext X (hw _ (I.lt j hjl) fun e=>hji (I.inj j id hjl hid e)) (I.obj j x hj)
 ·intro i j hi hj e
  rw[hlen]at hi hj
  by_cases hii:i=id<;>by_cases hji:j=id
  ·rw[hii,hji]
  ·subst hii
   rw[hφ j hji]at e
   rcases hb with h|h
   ·exact I.inj i j hi hj (h.symm.trans e)
   ·have:=I.lt j hj;omega
  ·subst hji
   rw[hφ i hii]at e
   rcases hb with h|h
   ·exact I.inj i j hi hj (e.trans h)
   ·have:=I.lt i hi;omega
  ·rw[hφ i hii,hφ j hji]at e
   exact I.inj i j hi hj e
 ·intro i hi
  rw[hlen]at hi
  by_cases hii:i=id
  ·subst hii
   rcases hb with h|h
   ·rw[h];exact en (I.lt i hi) hs
   ·exact h.2
  ·rw[hφ i hii];exact en (I.lt i hi) hs
 ·intro g cs hg
  obtain⟨h1,h2,h3,vs,h4,h5⟩:=I.gl g cs hg
  obtain⟨h6,h7⟩:=X.same g h1 h2
  exact⟨en h1 hs,h7,h3,vs,h4.same h6,B6.ext X h5⟩
 ·exact PO I X
def DR.more(C:DR)(p:Place)(o:CB)(w:World):DR:=⟨fun j=>if j=C.H.length then p else C.φ j,C.H++[o],w⟩
theorem more{tb:Di}{C:DR}(I:Inv tb C){p:Place}{o:CB}{w:World}(hrest:Rest C.w w)(hs:C.w.heap.size<w.heap.size)(hp:p.blk=C.w.heap.size)
  (hw: ∀b,b<C.w.heap.size→w.heap[b]? =C.w.heap[b]?):LH C (C.more p o w)∧(Obj (C.more p o w) p o→Inv tb (C.more p o w))∧(C.more p o w).φ C.H.length=p:=by
 have hφ: ∀j,j<C.H.length→(C.more p o w).φ j=C.φ j:=fun j hj=>qo (by omega)
 have hφn:(C.more p o w).φ C.H.length=p:=qn rfl
 have hlen:(C.more p o w).H.length=C.H.length+1:=by simp[DR.more]
 have get: ∀j,j<C.H.length→(C.more p o w).H[j]? =C.H[j]? :=fun j hj=>br hj
 have getn:(C.more p o w).H[C.H.length]? =some o:=by simp[DR.more]
 have X:LH C (C.more p o w):=by
  refine⟨hrest,Nat.le_of_lt hs,by omega,fun b hlt hn=>⟨hw b hlt,?_⟩,?_,?_⟩
  ·rintro⟨j,hj,e⟩
   rw[hlen]at hj
   by_cases hji:j=C.H.length
   ·subst hji;rw[hφn,hp]at e;omega
   ·rw[hφ j (by omega)]at e;exact hn ⟨j,by omega,e⟩
  ·intro j x hj hx
   have:=Bl hj
   exact⟨⟨x,by rw[get j this];exact hj,hx⟩,hφ j this⟩
  ·intro j fz sz els hj
   obtain⟨t,hj',_⟩:=KY hj
   have:=Bl hj'
   exact⟨fz,els,by rw[row_eq (get j this)];exact hj,be _,fun _=>hφ j this⟩
 refine⟨X,fun ob=>⟨?_,?_,?_,?_,?_⟩,hφn⟩
 ·intro j x hj
  have:=Bl hj
  rw[hlen]at this
  by_cases hji:j=C.H.length
  ·subst hji
   rw[getn]at hj
   obtain rfl:=bf hj
   rw[hφn]
   exact ob
  ·have hl:j<C.H.length:=by omega
   rw[get j hl]at hj
   rw[hφ j hl]
   exact Obj.ext X (hw _ (I.lt j hl)) (I.obj j x hj)
 ·intro i j hi hj e
  rw[hlen]at hi hj
  by_cases hii:i=C.H.length<;>by_cases hji:j=C.H.length
  ·rw[hii,hji]
  ·subst hii
   have hl:j<C.H.length:=by omega
   rw[hφ j hl,hφn,hp]at e
   have:=I.lt j hl;omega
  ·subst hji
   have hl:i<C.H.length:=by omega
   rw[hφ i hl,hφn,hp]at e
   have:=I.lt i hl;omega
  ·rw[hφ i (by omega),hφ j (by omega)]at e
   exact I.inj i j (by omega) (by omega) e
 ·intro i hi
  rw[hlen]at hi
  by_cases hii:i=C.H.length
  ·subst hii;rw[hφn,hp];exact hs
  ·rw[hφ i (by omega)];exact o6 (I.lt i (by omega)) hs
 ·intro g cs hg
  obtain⟨h1,h2,h3,vs,h4,h5⟩:=I.gl g cs hg
  obtain⟨h6,h7⟩:=X.same g h1 h2
  exact⟨o6 h1 hs,h7,h3,vs,h4.same h6,B6.ext X h5⟩
 ·exact PO I X
theorem drawn{tb:Di}{C:DR}(I:Inv tb C){w:World}(hrest:Rest C.w w)(hw:w.heap=C.w.heap):LH C ⟨C.φ,C.H,w⟩∧Inv tb ⟨C.φ,C.H,w⟩:=by
 have X:LH C ⟨C.φ,C.H,w⟩:=⟨hrest,by simp only[hw];omega,be _,fun b _ hn=>⟨by simp only[hw],hn⟩,fun _ o h f=>⟨⟨o,h,f⟩,rfl⟩,fun _ fz _ els h=>⟨fz,els,h,be _,fun _=>rfl⟩⟩
 refine⟨X,fun j x hj=>Obj.ext X (by simp only[hw]) (I.obj j x hj),I.inj,fun i hi=>by simp only[hw];exact I.lt i hi,?_,PO I X⟩
 intro g cs hg
 obtain⟨h1,h2,h3,vs,h4,h5⟩:=I.gl g cs hg
 exact⟨by simp only[hw];exact h1,h2,h3,vs,h4.same (by simp only[hw]),B6.ext X h5⟩
theorem grown{tb:Di}{C:DR}(I:Inv tb C){w:World}(hrest:Rest C.w w)(hs:C.w.heap.size≤w.heap.size)(hw: ∀b,b<C.w.heap.size→w.heap[b]? =C.w.heap[b]?):LH C ⟨C.φ,C.H,w⟩∧Inv tb ⟨C.φ,C.H,w⟩:=by
 have X:LH C ⟨C.φ,C.H,w⟩:=⟨hrest,hs,be _,fun b hb hn=>⟨hw b hb,hn⟩,fun _ o h f=>⟨⟨o,h,f⟩,rfl⟩,fun _ fz _ els h=>⟨fz,els,h,be _,fun _=>rfl⟩⟩
 refine⟨X,fun j x hj=>Obj.ext X (hw _ (I.lt j (Bl hj))) (I.obj j x hj),I.inj,fun i hi=>en (I.lt i hi) hs,?_,PO I X⟩
 intro g cs hg
 obtain⟨h1,h2,h3,vs,h4,h5⟩:=I.gl g cs hg
 exact⟨en h1 hs,h2,h3,vs,h4.same (hw _ h1),B6.ext X h5⟩
end
section
theorem Z2{h:Az}{n d:Nat}{v:AV}(hm:Cc v≤n):frz h n d v=some v:=by
 cases d<;>simp[frz,hm]
theorem Pj{h:Az}{n d:Nat}: ∀{l:List AV},B0 l≤n→DY (frz h n d) l=some l
 |[],_=>rfl
 |v::l,hm=>by
  simp only[B0]at hm
  simp only[DY,Z2 (show Cc v≤n by omega),aa,Pj (show B0 l≤n by omega),an]
theorem GP: ∀(a b:List AV),B0 (a++b)=max (B0 a) (B0 b)
 |[],b=>by simp[B0]
 |x::a,b=>by simp only[dt,B0,GP a b];omega
theorem Pk{α:Type}{F:α→Option α}: ∀{a b a' b':List α},DY F a=some a'→DY F b=some b'→DY F (a++b)=some (a'++b')
 |[],b,a',b',h,g=>by simp only[DY,ae]at h;subst h;exact g
 |x::a,b,a',b',h,g=>by
  simp only[DY]at h
  obtain⟨y,hy,h⟩:=ab.1 h
  obtain⟨l,hl,rfl⟩:=aj.1 h
  simp only[dt,DY,hy,aa,Pk hl g,an]
structure T where
 α:Type
 sz:Nat
 agg:Bool
 dep:Nat
 R:(Nat→Prop)→Az→List AV→α→Prop
 zc:List AV
 z:α
 hz: ∀(P:Nat→Prop) (H:Az),R P H zc z
 one:agg=false→sz=1
 len: ∀{P:Nat→Prop} {H:Az} {cs:List AV} {x:α},R P H cs x→cs.length=sz
 sca: ∀{P:Nat→Prop} {H:Az} {cs:List AV} {x:α},R P H cs x→cs.all scal=true
 men: ∀{P:Nat→Prop} {H:Az} {cs:List AV} {x:α} {m:Nat},R P H cs x→(∀i,P i→i<m)→B0 cs≤m
 mono: ∀{P Q:Nat→Prop} {H G:Az} {cs:List AV} {x:α},(∀i,P i→Q i∧G[i]? =H[i]?)→R P H cs x→R Q G cs x
 cut: ∀{P Q:Nat→Prop} {H:Az} {cs:List AV} {x:α} {n:Nat},R P H cs x→B0 cs≤n→D1 (H.take n)≤n→(∀i,P i→i<n→Q i)→R Q (H.take n) cs x
 frz: ∀{P Q:Nat→Prop} {H:Az} {cs:List AV} {x:α} {n d:Nat},R P H cs x→dep≤d→d≤20→D1 (H.take n)≤n→(∀i,P i→i<n→Q i)→ ∃cs',DY (frz H n d) cs=some cs'∧R Q (H.take n) cs' x
def T.V(t:T)(P:Nat→Prop)(H:Az)(v:AV)(x:t.α):Prop:=(t.agg=true∧ ∃cs,v= .agg cs∧t.R P H cs x)∨(t.agg=false∧t.R P H [v] x)
section
variable{t:T}{P Q:Nat→Prop}{H G:Az}
theorem Kj{v:AV}(h:scal v=true):cellsOf v=[v]:=by
 cases v<;>simp[scal]at h<;>rfl
theorem T.V.cells{v:AV}{x:t.α}(h:t.V P H v x):t.R P H (cellsOf v) x:=by
 rcases h with ⟨_,cs,rfl,h⟩|⟨_,h⟩
 ·exact h
 ·have:=t.sca h
  simp only[fc,o7,kp]at this
  rw[Kj this];exact h
theorem T.V.of{cs:List AV}{x:t.α}(h:t.R P H cs x): ∃v,Iq t.agg cs=some v∧t.V P H v x:=by
 cases ha:t.agg with
 |true=>exact⟨.agg cs,by simp[Iq], .inl ⟨ha,cs,rfl,h⟩⟩
 |false=>
  have:=t.len h
  rw[t.one ha]at this
  match cs,this with
  |[v],_=>exact⟨v,rfl, .inr ⟨ha,h⟩⟩
theorem T.V.mono{v:AV}{x:t.α}(m: ∀i,P i→Q i∧G[i]? =H[i]?)(h:t.V P H v x):t.V Q G v x:=by
 rcases h with ⟨a,cs,rfl,h⟩|⟨a,h⟩
 ·exact .inl ⟨a,cs,rfl,t.mono m h⟩
 ·exact .inr ⟨a,t.mono m h⟩
theorem T.V.men{v:AV}{x:t.α}{m:Nat}(h:t.V P H v x)(hp: ∀i,P i→i<m):Cc v≤m:=by
 rcases h with ⟨a,cs,rfl,h⟩|⟨a,h⟩
 ·simpa [Cc]using t.men h hp
 ·simpa [B0]using t.men h hp
theorem T.V.frz{v:AV}{x:t.α}{n d:Nat}(h:t.V P H v x)(hd:t.dep≤d)(h20:d+1≤20)(hw:D1 (H.take n)≤n)(hp: ∀i,P i→i<n→Q i): ∃v',Am.frz H n (d+1) v=some v'∧t.V Q (H.take n) v' x:=by
 rcases h with ⟨a,cs,rfl,h⟩|⟨a,h⟩
 ·by_cases hm:B0 cs≤n
  ·exact⟨.agg cs,Z2 (by simpa [Cc]using hm), .inl ⟨a,cs,rfl,t.cut h hm hw hp⟩⟩
  ·obtain⟨cs',e,r⟩:=t.frz h hd (by omega) hw hp
   exact⟨.agg cs',by simp[Am.frz,Cc,hm,e], .inl ⟨a,cs',rfl,r⟩⟩
 ·obtain⟨cs',e,r⟩:=t.frz h (show t.dep≤d+1 by omega) h20 hw hp
  simp only[DY]at e
  obtain⟨v',hv,e⟩:=ab.1 e
  simp only[an,ae]at e
  subst e
  exact⟨v',hv, .inr ⟨a,r⟩⟩
end
def TL(α:Type)(c:α→AV)(z:α)(hs: ∀x,scal (c x)=true)(hm: ∀x,Cc (c x)=0):T where
 α:=α
 sz:=1
 agg:=false
 dep:=0
 R:=fun _ _ cs x=>cs=[c x]
 zc:=[c z]
 z:=z
 hz:=fun _ _=>rfl
 one:=fun _=>rfl
 len:=fun h=>by rw[h];rfl
 sca:=fun{_ _ _ x} h=>by rw[h];simp[hs x]
 men:=fun{_ _ _ x _} h _=>by rw[h];simp[B0,hm x]
 mono:=fun _ h=>h
 cut:=fun h _ _ _=>h
 frz:=fun{_ _ _ _ x _ _} h _ _ _ _=>⟨_,by rw[h,Pj (by simp[B0,hm x])],rfl⟩
theorem R5{α:Type}{c:α→AV}{z:α}{hs: ∀x,scal (c x)=true}{hm: ∀x,Cc (c x)=0}{P:Nat→Prop}{H:Az}{v:AV}{x:α}:(TL α c z hs hm).V P H v x↔v=c x:=by
 constructor
 ·rintro(⟨a,_⟩|⟨_,h⟩)
  ·cases a
  ·exact(gy h).1
 ·rintro rfl
  exact .inr ⟨rfl,rfl⟩
def T.b:T:=TL Bool .b false (fun _=>rfl) (fun _=>rfl)
def T.int(k:IntKind):T:=TL Int (.i k) 0 (fun _=>rfl) (fun _=>rfl)
def T.u8:T:=TL UInt8 (fun x=> .i .u8 x.toNat) 0 (fun _=>rfl) (fun _=>rfl)
def T.u16:T:=TL UInt16 (fun x=> .i .u16 x.toNat) 0 (fun _=>rfl) (fun _=>rfl)
def T.u32:T:=TL UInt32 (fun x=> .i .u32 x.toNat) 0 (fun _=>rfl) (fun _=>rfl)
def T.u64:T:=TL UInt64 (fun x=> .i .u64 x.toNat) 0 (fun _=>rfl) (fun _=>rfl)
abbrev AG:=List UInt8
def Ak:T:=TL AG .s [] (fun _=>rfl) (fun _=>rfl)
def G5(a b:T):T where
 α:=a.α×b.α
 sz:=a.sz+b.sz
 agg:=true
 dep:=max a.dep b.dep
 R:=fun P H cs x=> ∃c d,cs=c++d∧a.R P H c x.1∧b.R P H d x.2
 zc:=a.zc++b.zc
 z:=(a.z,b.z)
 hz:=fun P H=>⟨_,_,rfl,a.hz P H,b.hz P H⟩
 one:=fun h=>by cases h
 len:=fun⟨c,d,e,h,g⟩=>by rw[e,aw,a.len h,b.len g]
 sca:=fun⟨c,d,e,h,g⟩=>by rw[e,jt,a.sca h,b.sca g];rfl
 men:=fun⟨c,d,e,h,g⟩ hp=>by rw[e,GP];have:=a.men h hp;have:=b.men g hp;omega
 mono:=fun m ⟨c,d,e,h,g⟩=>⟨c,d,e,a.mono m h,b.mono m g⟩
 cut:=fun⟨c,d,e,h,g⟩ hm hw hp=>by
  rw[e,GP]at hm
  exact⟨c,d,e,a.cut h (by omega) hw hp,b.cut g (by omega) hw hp⟩
 frz:=fun⟨c,d,e,h,g⟩ hd h20 hw hp=>by
  have hd':=Nat.max_le.1 hd
  obtain⟨c',h1,h2⟩:=a.frz h hd'.1 h20 hw hp
  obtain⟨d',g1,g2⟩:=b.frz g hd'.2 h20 hw hp
  exact⟨c'++d',by rw[e,Pk h1 g1],c',d',rfl,h2,g2⟩
def UQ(t:T)(β:Type)(f:β→t.α)(g:t.α→β)(hfg: ∀y,f (g y)=y):T where
 α:=β
 sz:=t.sz
 agg:=true
 dep:=t.dep
 R:=fun P H cs y=>t.R P H cs (f y)
 zc:=t.zc
 z:=g t.z
 hz:=fun P H=>by rw[hfg];exact t.hz P H
 one:=fun h=>by cases h
 len:=t.len
 sca:=t.sca
 men:=t.men
 mono:=t.mono
 cut:=t.cut
 frz:=t.frz
def CL(t:T)(P:Nat→Prop)(H:Az):List (List AV)→List t.α→Prop
 |[],[]=>True
 |c::r,x::q=>t.R P H c x∧CL t P H r q
 |_,_=>False
section
variable{t:T}{P Q:Nat→Prop}{H G:Az}
theorem CL.length: ∀{l:List (List AV)} {xs:List t.α},CL t P H l xs→l.length=xs.length
 |[],[],_=>rfl
 |_::_,_::_,h=>by simp[CL.length h.2]
theorem CL.lens: ∀{l:List (List AV)} {xs:List t.α},CL t P H l xs→ ∀e∈l,e.length=t.sz
 |[],[],_,e,he=>by cases he
 |c::_,_::_,h,e,he=>by
  rcases bu.1 he with rfl|he
  ·exact t.len h.1
  ·exact CL.lens h.2 e he
theorem CL.sca: ∀{l:List (List AV)} {xs:List t.α},CL t P H l xs→l.flatten.all scal=true
 |[],[],_=>rfl
 |c::_,_::_,h=>by rw[bm,jt,t.sca h.1,CL.sca h.2];rfl
theorem Tf: ∀(l:List (List AV)),B0 l.flatten=Dc l
 |[]=>rfl
 |c::l=>by rw[bm,GP,Tf l,Dc]
theorem CL.men{m:Nat}(hp: ∀i,P i→i<m): ∀{l:List (List AV)} {xs:List t.α},CL t P H l xs→Dc l≤m
 |[],[],_=>by simp[Dc]
 |c::_,_::_,h=>by simp only[Dc];have:=t.men h.1 hp;have:=CL.men hp h.2;omega
theorem CL.mono(m: ∀i,P i→Q i∧G[i]? =H[i]?): ∀{l:List (List AV)} {xs:List t.α},CL t P H l xs→CL t Q G l xs
 |[],[],_=>trivial
 |_::_,_::_,h=>⟨t.mono m h.1,CL.mono m h.2⟩
theorem CL.cut{n:Nat}(hw:D1 (H.take n)≤n)(hp: ∀i,P i→i<n→Q i): ∀{l:List (List AV)} {xs:List t.α},CL t P H l xs→Dc l≤n→CL t Q (H.take n) l xs
 |[],[],_,_=>trivial
 |_::_,_::_,h,hm=>by
  simp only[Dc]at hm
  exact⟨t.cut h.1 (by omega) hw hp,CL.cut hw hp h.2 (by omega)⟩
theorem CL.frz{n d:Nat}(hd:t.dep≤d)(h20:d≤20)(hw:D1 (H.take n)≤n)(hp: ∀i,P i→i<n→Q i): ∀{l:List (List AV)} {xs:List t.α},CL t P H l xs→ ∃l',DY (DY (Am.frz H n d)) l=some l'∧CL t Q (H.take n) l' xs
 |[],[],_=>⟨[],rfl,trivial⟩
 |_::_,_::_,h=>by
  obtain⟨c',e,r⟩:=t.frz h.1 hd h20 hw hp
  obtain⟨l',e',r'⟩:=CL.frz hd h20 hw hp h.2
  exact⟨c'::l',by simp[DY,e,e'],r,r'⟩
theorem CL.get: ∀{l:List (List AV)} {xs:List t.α} {i:Nat} {x:t.α},CL t P H l xs→xs[i]? =some x→ ∃c,l[i]? =some c∧t.R P H c x
 |[],[],_,_,_,h=>by simp at h
 |c::_,y::_,0,x,h,e=>by
  simp only[bx,ae]at e
  subst e
  exact⟨c,rfl,h.1⟩
 |c::_,y::_,i+1,x,h,e=>by
  simp only[c0]at e
  obtain⟨c',e',r⟩:=CL.get h.2 e
  exact⟨c',by simpa using e',r⟩
theorem CL.drop: ∀{n:Nat} {l:List (List AV)} {xs:List t.α},CL t P H l xs→CL t P H (l.drop n) (xs.drop n)
 |0,_,_,h=>h
 |_+1,[],[],_=>trivial
 |n+1,_::_,_::_,h=>by simpa using CL.drop (n:=n) h.2
theorem CL.take: ∀{n:Nat} {l:List (List AV)} {xs:List t.α},CL t P H l xs→CL t P H (l.take n) (xs.take n)
 |0,_,_,_=>by simp[CL]
 |_+1,[],[],_=>trivial
 |n+1,_::_,_::_,h=>by simp only[im];exact⟨h.1,CL.take (n:=n) h.2⟩
theorem CL.app: ∀{l m:List (List AV)} {xs ys:List t.α},CL t P H l xs→CL t P H m ys→CL t P H (l++m) (xs++ys)
 |[],_,[],_,_,g=>g
 |_::_,_,_::_,_,h,g=>⟨h.1,CL.app h.2 g⟩
theorem CL.set{c:List AV}{y:t.α}(hc:t.R P H c y): ∀{l:List (List AV)} {xs:List t.α} {i:Nat},CL t P H l xs→CL t P H (l.set i c) (xs.set i y)
 |[],[],_,_=>trivial
 |_::_,_::_,0,h=>⟨hc,h.2⟩
 |_::_,_::_,i+1,h=>⟨h.1,CL.set hc (i:=i) h.2⟩
theorem CL.rep{c:List AV}{y:t.α}(hc:t.R P H c y): ∀n,CL t P H (aq n c) (aq n y)
 |0=>trivial
 |n+1=>⟨hc,CL.rep hc n⟩
end
structure Ar(α:Type)(n:Nat) where
 l:List α
 len:l.length=n
theorem Ar.ext{α:Type}{n:Nat}: ∀{a b:Ar α n},a.l=b.l→a=b
 |⟨_,_⟩,⟨_,_⟩,rfl=>rfl
instance {α:Type} {n:Nat} [DecidableEq α]:DecidableEq (Ar α n):=fun a b=>if h:a.l=b.l then isTrue (Ar.ext h)else isFalse fun e=>h (by rw[e])
theorem VE{sz:Nat}: ∀{l:List (List AV)},(∀e∈l,e.length=sz)→l.flatten.length=l.length*sz
 |[],_=>by simp
 |c::l,h=>by
  rw[bm,aw,h c bj,VE fun e he=>h e (bg _ he),bb,ci];omega
theorem Zi{α:Type}{F:α→Option α}: ∀{l l':List (List α)},DY (DY F) l=some l'→DY F l.flatten=some l'.flatten
 |[],_,h=>by simp only[DY,ae]at h;subst h;rfl
 |c::l,_,h=>by
  simp only[DY]at h
  obtain⟨c',hc,h⟩:=ab.1 h
  obtain⟨l',hl,rfl⟩:=aj.1 h
  exact Pk hc (Zi hl)
def T.arr(n:Nat)(t:T):T where
 α:=Ar t.α n
 sz:=n*t.sz
 agg:=true
 dep:=t.dep
 R:=fun P H cs x=> ∃css,cs=css.flatten∧CL t P H css x.l
 zc:=(aq n t.zc).flatten
 z:=⟨aq n t.z,by simp⟩
 hz:=fun P H=>⟨_,rfl,CL.rep (t.hz P H) n⟩
 one:=fun h=>by cases h
 len:=fun{_ _ _ x} ⟨css,e,h⟩=>by rw[e,VE h.lens,h.length,x.len]
 sca:=fun⟨css,e,h⟩=>by rw[e];exact h.sca
 men:=fun⟨css,e,h⟩ hp=>by rw[e,Tf];exact h.men hp
 mono:=fun m ⟨css,e,h⟩=>⟨css,e,h.mono m⟩
 cut:=fun⟨css,e,h⟩ hm hw hp=>⟨css,e,h.cut hw hp (by rwa [e,Tf]at hm)⟩
 frz:=fun⟨css,e,h⟩ hd h20 hw hp=>by
  obtain⟨l',e',r⟩:=h.frz hd h20 hw hp
  exact⟨l'.flatten,by rw[e];exact Zi e',l',rfl,r⟩
inductive GS(α:Type) where
 |nil
 |mk (l:List α)
 deriving DecidableEq,Inhabited
def GS.l{α:Type}:GS α→List α
 | .nil=>[]
 | .mk l=>l
def Mc(P:Nat→Prop):AV→Prop
 | .sl _ _=>True
 | .orow id _ _ _=>P id
 | .ocel _ id _ _=>P id
 |_=>False
def Sb(t:T)(P:Nat→Prop)(H:Az)(v:AV):GS t.α→Prop
 | .nil=>v= .nils
 | .mk l=>Mc P v∧ ∃els,E4 H t.sz v=some els∧CL t P H els l
theorem OU{H G:Az}{id:Nat}(h:G[id]? =H[id]?):rowAt G id=rowAt H id:=by simp only[rowAt,h]
theorem P1{H G:Az}{id:Nat}(h:G[id]? =H[id]?):C3 G id=C3 H id:=by simp only[C3,h]
section
variable{t:T}{P Q:Nat→Prop}{H G:Az}{v:AV}
theorem zO{sz:Nat}(m: ∀i,P i→Q i∧G[i]? =H[i]?)(h:Mc P v):E4 G sz v=E4 H sz v:=by
 cases v<;>simp only[Mc]at h<;>simp only[E4]
 ·rw[OU (m _ h).2]
 ·rw[P1 (m _ h).2]
theorem tY(m: ∀i,P i→Q i)(h:Mc P v):Mc Q v:=by
 cases v<;>simp only[Mc]at h ⊢
 ·exact m _ h
 ·exact m _ h
theorem Sb.mono(m: ∀i,P i→Q i∧G[i]? =H[i]?): ∀{g:GS t.α},Sb t P H v g→Sb t Q G v g
 | .nil,h=>h
 | .mk _,⟨b,els,e,h⟩=>⟨tY (fun i hi=>(m i hi).1) b,els,by rw[zO m b];exact e,h.mono m⟩
theorem Sb.sca: ∀{g:GS t.α},Sb t P H v g→scal v=true
 | .nil,h=>by rw[show v=_ from h];rfl
 | .mk _,⟨b,_,_,_⟩=>by cases v<;>simp only[Mc]at b<;>rfl
theorem Sb.men{m:Nat}(hp: ∀i,P i→i<m): ∀{g:GS t.α},Sb t P H v g→Cc v≤m
 | .nil,h=>by rw[show v=_ from h];simp[Cc]
 | .mk _,⟨b,els,e,h⟩=>by
  cases v<;>simp only[Mc]at b
  ·simp only[E4]at e
   split at e
   ·simp only[ae]at e
    subst e
    simpa [Cc]using h.men hp
   ·cases e
  ·simp only[Cc];exact hp _ b
  ·simp only[Cc];exact hp _ b
theorem YM{n id:Nat}(h:id<n):rowAt (H.take n) id=rowAt H id:=by
 simp only[rowAt];rw[dp];simp[h]
theorem U8{n id:Nat}(h:id<n):C3 (H.take n) id=C3 H id:=by
 simp only[C3];rw[dp];simp[h]
theorem eQ: ∀{l:Az} {o:CB},o∈l→E7 o≤D1 l:=by
 intro l
 induction l with
 |nil=>intro o h;cases h
 |cons x l ih=>
  intro o h
  simp only[D1]
  rcases bu.1 h with e|h
  ·subst e;omega
  ·have:=ih h;omega
theorem W8: ∀(l:List (List AV)) (i:Nat),Dc (l.drop i)≤Dc l
 |[],i=>by simp
 |x::l,0=>by simp
 |x::l,i+1=>by simp only[jd,Dc];have:=W8 l i;omega
theorem W7: ∀(l:List (List AV)) (i:Nat),Dc (l.take i)≤Dc l
 |[],i=>by simp
 |x::l,0=>by simp[Dc]
 |x::l,i+1=>by simp only[im,Dc];have:=W7 l i;omega
theorem Ny: ∀(l:List AV) (i:Nat),B0 (l.drop i)≤B0 l
 |[],i=>by simp
 |x::l,0=>by simp
 |x::l,i+1=>by simp only[jd,B0];have:=Ny l i;omega
theorem QF: ∀(l:List AV) (i:Nat),B0 (l.take i)≤B0 l
 |[],i=>by simp
 |x::l,0=>by simp[B0]
 |x::l,i+1=>by simp only[im,B0];have:=QF l i;omega
theorem QG(sz:Nat): ∀(n:Nat) (l:List AV),Dc (BR sz n l)≤B0 l
 |0,_=>by simp[BR,Dc]
 |n+1,l=>by
  simp only[BR,Dc]
  have h1:=QF l sz
  have h2:=QG sz n (l.drop sz)
  have h3:=Ny l sz
  omega
theorem qZ{n id:Nat}{r:Bool×Nat×List (List AV)}(hw:D1 (H.take n)≤n)(h:id<n)(e:rowAt H id=some r):Dc r.2.2≤n:=by
 rw[←YM h]at e
 simp only[rowAt]at e
 split at e
 ·rename_i fz sz els he
  cases e
  exact dy (eQ (cq he)) hw
 ·cases e
theorem kH{n id:Nat}{cs:List AV}(hw:D1 (H.take n)≤n)(h:id<n)(e:C3 H id=some cs):B0 cs≤n:=by
 rw[←U8 h]at e
 simp only[C3]at e
 split at e
 ·rename_i els he
  cases e
  exact dy (eQ (cq he)) hw
 ·cases e
theorem Sb.cut{n:Nat}(hw:D1 (H.take n)≤n)(hp: ∀i,P i→i<n→Q i)(hm:Cc v≤n): ∀{g:GS t.α},Sb t P H v g→Sb t Q (H.take n) v g
 | .nil,h=>h
 | .mk _,⟨b,els,e,h⟩=>by
  cases v<;>simp only[Mc]at b
  ·rename_i sz' els'
   refine⟨trivial,els,e,h.cut hw hp ?_⟩
   simp only[E4]at e
   split at e
   ·simp only[ae]at e
    subst e
    simpa [Cc]using hm
   ·cases e
  ·rename_i id k lo len
   simp only[Cc]at hm
   refine⟨hp _ b (by omega),els,?_,h.cut hw hp ?_⟩
   ·simp only[E4]at e ⊢
    rw[YM (by omega)];exact e
   ·simp only[E4]at e
    obtain⟨r,hr,e⟩:=ab.1 e
    split at e
    ·simp only[ae]at e
     subst e
     exact dy (W7 _ _) (dy (W8 _ _) (qZ hw (by omega) hr))
    ·cases e
  ·rename_i sz' id off len
   simp only[Cc]at hm
   refine⟨hp _ b (by omega),els,?_,h.cut hw hp ?_⟩
   ·simp only[E4]at e ⊢
    rw[U8 (by omega)];exact e
   ·simp only[E4]at e
    obtain⟨r,hr,e⟩:=ab.1 e
    split at e
    ·simp only[ae]at e
     subst e
     exact dy (QG _ _ _) (dy (Ny _ _) (kH hw (by omega) hr))
    ·cases e
theorem Sb.frz{n d:Nat}(hd:t.dep≤d)(h20:d≤20)(hw:D1 (H.take n)≤n)(hp: ∀i,P i→i<n→Q i){g:GS t.α}(h:Sb t P H v g): ∃v',Am.frz H n (d+1) v=some v'∧Sb t Q (H.take n) v' g:=by
 by_cases hm:Cc v≤n
 ·exact⟨v,Z2 hm,h.cut hw hp hm⟩
 ·cases g with
  |nil=>rw[show v=_ from h]at hm;simp[Cc]at hm
  |mk l=>
   obtain⟨b,els,e,h⟩:=h
   obtain⟨els',e',r⟩:=h.frz hd h20 hw hp
   refine⟨.sl t.sz els',?_,trivial,els',by simp[E4],r⟩
   cases v<;>simp only[Mc]at b
   ·rename_i sz' els0
    simp only[E4]at e
    split at e
    ·rename_i hsz
     simp only[ae]at e
     subst e
     subst hsz
     simp only[Am.frz,qo hm,e',an]
    ·cases e
   ·rename_i id k lo len
    simp only[E4]at e
    obtain⟨r0,hr,e⟩:=ab.1 e
    split at e
    ·rename_i hc
     simp only[ae]at e
     subst e
     simp only[Am.frz,qo hm,hr,aa,qn (show k=r0.2.2.length∧lo+len≤k from⟨hc.1,hc.2.2⟩),e',an,hc.2.1]
    ·cases e
   ·rename_i sz' id off len
    simp only[E4]at e
    obtain⟨r0,hr,e⟩:=ab.1 e
    split at e
    ·rename_i hc
     have he:some (BR t.sz len (r0.drop off))=some els:=e
     simp only[ae]at he
     subst he
     obtain⟨rfl,hc⟩:=hc
     simp only[Am.frz,qo hm,hr,aa,qn hc,e',an]
    ·cases e
end
def T.sl(t:T):T where
 α:=GS t.α
 sz:=1
 agg:=false
 dep:=t.dep+1
 R:=fun P H cs g=> ∃v,cs=[v]∧Sb t P H v g
 zc:=[.nils]
 z:= .nil
 hz:=fun _ _=>⟨_,rfl,rfl⟩
 one:=fun _=>rfl
 len:=fun⟨v,e,_⟩=>by rw[e];rfl
 sca:=fun⟨v,e,h⟩=>by rw[e];simp[h.sca]
 men:=fun⟨v,e,h⟩ hp=>by rw[e];simpa [B0]using h.men hp
 mono:=fun m ⟨v,e,h⟩=>⟨v,e,h.mono m⟩
 cut:=fun⟨v,e,h⟩ hm hw hp=>⟨v,e,h.cut hw hp (by rw[e]at hm;simpa [B0]using hm)⟩
 frz:=fun{_ _ _ _ _ _ d} ⟨v,e,h⟩ hd h20 hw hp=>by
  obtain⟨d,rfl⟩: ∃k,d=k+1:=⟨d-1,by omega⟩
  obtain⟨v',e',r⟩:=h.frz (d:=d) (by omega) (by omega) hw hp
  exact⟨[v'],by rw[e];simp[DY,e'],v',rfl,r⟩
theorem Iy{t:T}{P:Nat→Prop}{H:Az}{v:AV}{g:GS t.α}:(T.sl t).V P H v g↔Sb t P H v g:=by
 constructor
 ·rintro(⟨a,_⟩|⟨_,w,h,r⟩)
  ·cases a
  ·cases h;exact r
 ·intro h
  exact .inr ⟨rfl,v,rfl,h⟩
end
section
inductive AW:Type 1 where
 |val (t:T) (x:t.α)
 |rp (t:T) (x:t.α)
 |cp (j off:Nat)
 |own (j:Nat)
 |ep (j i off:Nat)
 |tup (l:List (Σ t:T,t.α))
 |junk
 |con (v:AV)
 |kv (j:Nat)
 |fnv (f:Fn) (js ks:List Nat)
 |aggk (js:List Nat)
 |tupk (js:List Nat)
 |oc (j off sz len:Nat)
structure Dom where
 α:Type
 R:(Nat→Prop)→(Nat→Prop)→Az→AV→α→Prop
 lt: ∀{F P:Nat→Prop} {H:Az} {v:AV} {x:α},R F P H v x→ ∀i,F i→i<H.length
 men: ∀{F P:Nat→Prop} {H:Az} {v:AV} {x:α} {m:Nat},R F P H v x→(∀i,P i→i<m)→(∀i,F i→i<m)→Cc v≤m
 mono: ∀{F P Q:Nat→Prop} {H G:Az} {v:AV} {x:α},(∀i,P i→Q i∧G[i]? =H[i]?)→(∀i,F i→G[i]? =H[i]?)→R F P H v x→R F Q G v x
inductive BY:Type 1 where
 |gone
 |cells (ps:List (Nat×AW))
 |row (t:T) (g:GS t.α)
 |dom (D:Dom) (x:D.α)
 |keep (φ:AW)
 |ghost (φ:AW)
 |rowk (sz:Nat) (els:List (List Nat))
abbrev Ts:=List (Nat×AW)
abbrev Ss:=List (Nat×BY)
structure Cx:Type 1 where
 ts:Ts
 ss:Ss
def BM:Ts→Nat→Option AW
 |[],_=>none
 |(u,φ)::r,t=>if u=t then some φ else BM r t
def AM:Ss→Nat→Option BY
 |[],_=>none
 |(u,φ)::r,t=>if u=t then some φ else AM r t
def liveO:Option BY→Prop
 |none=>False
 |some .gone=>False
 |some (.ghost _)=>False
 |some _=>True
def DH:Option BY→Bool
 |some (.keep _)=>true
 |_=>false
def Bo(ss:Ss)(j:Nat):Prop:=liveO (AM ss j)
structure R7 where
 h:Az
 P0:Nat→Prop
 K:Nat→Prop
 lt: ∀i,P0 i→i<h.length
 pk: ∀i,P0 i→K i
 g:Nat→AV
abbrev Fp:=Nat→Nat→Prop
def iT:Nat:=1000000
def Pf(E:R7)(ss:Ss)(fp:Fp)(H:Az)(i:Nat):Prop:=
 (i<E.h.length∧E.P0 i)∨(E.h.length≤i∧i<H.length∧ ∀j,Bo ss j→ ¬fp j i)
def iR(P:Nat→Prop):AV→Prop
 | .ptr id _=>P id
 | .pe id _ _ _=>P id
 | .ip _ _=>True
 |_=>False
def qM(t:T)(P:Nat→Prop)(H:Az)(v:AV)(x:t.α):Prop:=
 iR P v∧ ∃cs off,place H v=some (cs,off)∧off+t.sz≤cs.length∧t.R P H (sub cs off t.sz) x∧(∀m,(∀i,P i→i<m)→Cc v≤m)
def UP(P:Nat→Prop)(H:Az):List AV→List (Σ t:T,t.α)→Prop
 |[],[]=>True
 |v::r,p::q=>p.1.V P H v p.2∧UP P H r q
 |_,_=>False
def N0(ss:Ss)(l:List Nat):Prop:= ∀j∈l,DH (AM ss j)=true
def FR(rv:Nat→AV)(ss:Ss)(P:Nat→Prop)(H:Az):AW→AV→Prop
 | .val t x,v=>t.V P H v x
 | .rp t x,v=>qM t P H v x
 | .cp j off,v=>Bo ss j∧ ∃id,rv j= .ptr id 0∧v= .ptr id off
 | .own j,v=>Bo ss j∧v=rv j
 | .ep j i off,v=>Bo ss j∧ ∃id n,rv j= .orow id n 0 n∧i<n∧v= .pe id n i off
 | .tup l,v=> ∃vs,v= .tup vs∧UP P H vs l
 | .junk,_=>True
 | .con c,v=>v=c∧Cc c=0∧scal c=true
 | .kv j,v=>N0 ss [j]∧v=rv j
 | .fnv f js ks,v=>N0 ss (js++ks)∧v= .fn f (js.map rv) (ks.map rv)
 | .aggk js,v=>N0 ss js∧v= .agg (js.flatMap fun j=>cellsOf (rv j))
 | .tupk js,v=>N0 ss js∧v= .tup (js.map rv)
 | .oc j off sz len,v=>Bo ss j∧ ∃id,rv j= .ptr id 0∧v= .ocel sz id off len
def FC(rv:Nat→AV)(ss:Ss)(P:Nat→Prop)(H:Az):AW→List AV→Prop
 | .val t x,c=>t.R P H c x
 | .tup _,_=>False
 | .junk,c=>B0 c≤H.length
 |φ,c=> ∃v,c=[v]∧FR rv ss P H φ v
def PR(rv:Nat→AV)(ss:Ss)(P:Nat→Prop)(H:Az):List (Nat×AW)→List AV→Prop
 |[],cs=>cs=[]
 |(n,φ)::r,cs=> ∃c d,cs=c++d∧c.length=n∧FC rv ss P H φ c∧PR rv ss P H r d
def SR(rv:Nat→AV)(fp:Fp)(ss:Ss)(P:Nat→Prop)(H:Az)(j:Nat):BY→Prop
 | .gone=>True
 | .cells ps=> ∃id cs,rv j= .ptr id 0∧(∀i,fp j i↔i=id)∧C3 H id=some cs∧PR rv ss P H ps cs
 | .row t .nil=>rv j= .nils∧ ∀i,¬fp j i
 | .row t (.mk l)=> ∃id els,rv j= .orow id els.length 0 els.length∧(∀i,fp j i↔i=id)∧rowAt H id=some (false,t.sz,els)∧CL t P H els l
 | .dom D x=>D.R (fp j) P H (rv j) x
 | .keep φ=>FR rv ss P H φ (rv j)∧ ∀i,¬fp j i
 | .ghost _=>True
 | .rowk sz els=>N0 ss els.flatten∧ ∃id,rv j= .orow id els.length 0 els.length∧(∀i,fp j i↔i=id)∧rowAt H id=some (false,sz,els.map fun js=>js.flatMap fun j=>cellsOf (rv j))
structure B8(E:R7)(Γ:Cx)(rv:Nat→AV)(fp:Fp)(f:Fr)(H:Az):Prop where
 le:E.h.length≤H.length
 base: ∀i,i<E.h.length→E.K i→H[i]? =E.h[i]?
 wf:D1 H≤H.length
 fplt: ∀j i,Bo Γ.ss j→fp j i→i<H.length∧(i<E.h.length→ ¬E.K i∧iT≤j)
 rvlt: ∀j,Bo Γ.ss j→Cc (rv j)≤H.length
 scal: ∀j,Bo Γ.ss j→DH (AM Γ.ss j)=true∨scal (rv j)=true
 inj: ∀j k i,Bo Γ.ss j→Bo Γ.ss k→fp j i→fp k i→j=k
 slots: ∀j S,AM Γ.ss j=some S→SR rv fp Γ.ss (Pf E Γ.ss fp H) H j S
 temps: ∀t φ,BM Γ.ts t=some φ→FR rv Γ.ss (Pf E Γ.ss fp H) H φ (get f t)
 gh: ∀j φ,AM Γ.ss j=some (.ghost φ)→FR rv Γ.ss (Pf E Γ.ss fp H) H φ (E.g j)
def Rel(E:R7)(Γ:Cx)(f:Fr)(H:Az):Prop:= ∃rv fp,B8 E Γ rv fp f H
theorem Pf.lt{E:R7}{ss:Ss}{fp:Fp}{H:Az}(le:E.h.length≤H.length){i:Nat}(h:Pf E ss fp H i):i<H.length:=by
 rcases h with h|h
 ·omega
 ·exact h.2.1
section
variable{rv rv':Nat→AV}{fp fp':Fp}{ss ss':Ss}{P Q:Nat→Prop}{H G:Az}
theorem UP.mono(m: ∀i,P i→Q i∧G[i]? =H[i]?): ∀{vs:List AV} {l:List (Σ t:T,t.α)},UP P H vs l→UP Q G vs l
 |[],[],_=>trivial
 |_::_,_::_,h=>⟨h.1.mono m,UP.mono m h.2⟩
theorem rH{v:AV}(m: ∀i,P i→Q i∧G[i]? =H[i]?)(h:iR P v):place G v=place H v:=by
 cases v<;>simp only[iR]at h<;>simp only[place]
 ·rw[P1 (m _ h).2]
 ·rw[OU (m _ h).2]
theorem xU{v:AV}(m: ∀i,P i→Q i)(h:iR P v):iR Q v:=by
 cases v<;>simp only[iR]at h ⊢
 ·exact m _ h
 ·exact m _ h
theorem qM.mono{t:T}{v:AV}{x:t.α}(m: ∀i,P i→Q i∧G[i]? =H[i]?)(h:qM t P H v x):qM t Q G v x:=by
 obtain⟨hp,cs,off,e,l,r,hm⟩:=h
 exact⟨xU (fun i hi=>(m i hi).1) hp,cs,off,by rw[rH m hp];exact e,l,t.mono m r,fun k hk=>hm k fun i hi=>hk i (m i hi).1⟩
def Fb(j:Nat):AW→Prop
 | .cp k _=>k≠j
 | .oc k _ _ _=>k≠j
 | .own k=>k≠j
 | .ep k _ _=>k≠j
 | .kv k=>k≠j
 | .fnv _ js ks=>j∉js++ks
 | .aggk js=>j∉js
 | .tupk js=>j∉js
 |_=>True
def Wl(rv rv':Nat→AV)(ss ss':Ss)(φ:AW):Prop:= ∀j,¬Fb j φ→Bo ss j→(Bo ss' j∧(DH (AM ss j)=true→DH (AM ss' j)=true))∧rv' j=rv j
theorem M5{ss:Ss}{j:Nat}(h:DH (AM ss j)=true):Bo ss j:=by
 simp only[Bo]
 cases e:AM ss j with
 |none=>rw[e]at h;cases h
 |some S=>rw[e]at h;cases S<;>simp only[DH,au]at h<;>trivial
theorem HM{ss ss':Ss}{l:List Nat}(h:N0 ss l)(s: ∀j∈l,Bo ss j→(Bo ss' j∧(DH (AM ss j)=true→DH (AM ss' j)=true))∧rv' j=rv j):N0 ss' l∧l.map rv'=l.map rv∧(l.flatMap fun j=>cellsOf (rv' j))=l.flatMap fun j=>cellsOf (rv j):=by
 induction l with
 |nil=>exact⟨fun j hj=>(by cases hj),rfl,rfl⟩
 |cons k l ih=>
  obtain⟨h1,h2,h3⟩:=ih (fun j hj=>h j (bg _ hj)) (fun j hj=>s j (bg _ hj))
  have hk:=h k bj
  obtain⟨⟨_,a⟩,b⟩:=s k bj (M5 hk)
  refine⟨fun j hj=> ?_,by simp only[bn,b,h2],by simp only[eh,b,h3]⟩
  rcases bu.1 hj with rfl|hj
  ·exact a hk
  ·exact h1 j hj
theorem FR.mono{φ:AW}{v:AV}(m: ∀i,P i→Q i∧G[i]? =H[i]?)(s:Wl rv rv' ss ss' φ)(h:FR rv ss P H φ v):FR rv' ss' Q G φ v:=by
 cases φ with
 |val t x=>exact T.V.mono m h
 |rp t x=>exact qM.mono m h
 |cp j off=>
  obtain⟨l,id,e,hv⟩:=h
  obtain⟨⟨l',_⟩,e'⟩:=s j (by simp[Fb]) l
  exact⟨l',id,e'.trans e,hv⟩
 |oc j off sz len=>
  obtain⟨l,id,e,hv⟩:=h
  obtain⟨⟨l',_⟩,e'⟩:=s j (by simp[Fb]) l
  exact⟨l',id,e'.trans e,hv⟩
 |own j=>
  obtain⟨l,h⟩:=h
  obtain⟨⟨l',_⟩,e'⟩:=s j (by simp[Fb]) l
  exact⟨l',h.trans e'.symm⟩
 |ep j i off=>
  obtain⟨l,id,n,e,hi,hv⟩:=h
  obtain⟨⟨l',_⟩,e'⟩:=s j (by simp[Fb]) l
  exact⟨l',id,n,e'.trans e,hi,hv⟩
 |tup l=>
  obtain⟨vs,e,h⟩:=h
  exact⟨vs,e,h.mono m⟩
 |junk=>trivial
 |con c=>exact h
 |kv j=>
  obtain⟨h1,h2⟩:=h
  obtain⟨a,b,c⟩:=HM (rv:=rv) (rv':=rv') (ss':=ss') h1 fun k hk=>by
   obtain rfl:=gf.1 hk
   exact s k (by simp[Fb])
  exact⟨a,h2.trans (by simpa using b.symm)⟩
 |fnv f js ks=>
  obtain⟨h1,h2⟩:=h
  obtain⟨a,b,c⟩:=HM (rv:=rv) (rv':=rv') (ss':=ss') h1 fun k hk=>s k (fun hn=>hn hk)
  have hj:js.map rv'=js.map rv∧ks.map rv'=ks.map rv:=by
   rw[de,de]at b
   exact List.append_inj b (by simp)
  exact⟨a,by rw[h2,hj.1,hj.2]⟩
 |aggk js=>
  obtain⟨h1,h2⟩:=h
  obtain⟨a,b,c⟩:=HM (rv:=rv) (rv':=rv') (ss':=ss') h1 fun k hk=>s k (fun hn=>hn hk)
  exact⟨a,by rw[h2,c]⟩
 |tupk js=>
  obtain⟨h1,h2⟩:=h
  obtain⟨a,b,c⟩:=HM (rv:=rv) (rv':=rv') (ss':=ss') h1 fun k hk=>s k (fun hn=>hn hk)
  exact⟨a,by rw[h2,b]⟩
theorem FC.mono{φ:AW}{c:List AV}(m: ∀i,P i→Q i∧G[i]? =H[i]?)(hl:H.length≤G.length)(s:Wl rv rv' ss ss' φ)(h:FC rv ss P H φ c):FC rv' ss' Q G φ c:=by
 cases φ with
 |val t x=>exact t.mono m h
 |rp t x=>obtain⟨v,e,h⟩:=h;exact⟨v,e,FR.mono m s h⟩
 |cp j off=>obtain⟨v,e,h⟩:=h;exact⟨v,e,FR.mono m s h⟩
 |oc j off sz len=>obtain⟨v,e,h⟩:=h;exact⟨v,e,FR.mono m s h⟩
 |own j=>obtain⟨v,e,h⟩:=h;exact⟨v,e,FR.mono m s h⟩
 |ep j i off=>obtain⟨v,e,h⟩:=h;exact⟨v,e,FR.mono m s h⟩
 |tup l=>exact h
 |junk=>exact dy h hl
 |con c=>obtain⟨v,e,h⟩:=h;exact⟨v,e,FR.mono m s h⟩
 |kv j=>obtain⟨v,e,h⟩:=h;exact⟨v,e,FR.mono m s h⟩
 |fnv f js ks=>obtain⟨v,e,h⟩:=h;exact⟨v,e,FR.mono m s h⟩
 |aggk js=>obtain⟨v,e,h⟩:=h;exact⟨v,e,FR.mono m s h⟩
 |tupk js=>obtain⟨v,e,h⟩:=h;exact⟨v,e,FR.mono m s h⟩
theorem PR.mono(m: ∀i,P i→Q i∧G[i]? =H[i]?)(hl:H.length≤G.length): ∀{ps:List (Nat×AW)} {cs:List AV},(∀p∈ps,Wl rv rv' ss ss' p.2)→PR rv ss P H ps cs→PR rv' ss' Q G ps cs
 |[],_,_,h=>h
 |(n,φ)::r,cs,s,⟨c,d,e,l,h,g⟩=>⟨c,d,e,l,FC.mono m hl (s _ bj) h,PR.mono m hl (fun p hp=>s p (bg _ hp)) g⟩
theorem UP.men{n:Nat}(hp: ∀i,P i→i<n): ∀{vs:List AV} {l:List (Σ t:T,t.α)},UP P H vs l→B0 vs≤n
 |[],[],_=>by simp[B0]
 |_::_,_::_,h=>by simp only[B0];have:=h.1.men hp;have:=UP.men hp h.2;omega
theorem mX(v:AV):B0 (cellsOf v)≤Cc v:=by
 cases v<;>simp[cellsOf,B0,Cc]
theorem M4{n:Nat}(hi: ∀j,Bo ss j→Cc (rv j)≤n): ∀{l:List Nat},N0 ss l→B0 (l.map rv)≤n∧B0 (l.flatMap fun j=>cellsOf (rv j))≤n
 |[],_=>by simp[B0]
 |k::l,h=>by
  obtain⟨h1,h2⟩:=M4 hi (l:=l) fun j hj=>h j (bg _ hj)
  have h3:=hi k (M5 (h k bj))
  have h4:=mX (rv k)
  simp only[bn,B0,eh,GP]
  omega
theorem FR.men{φ:AW}{v:AV}{n:Nat}(hp: ∀i,P i→i<n)(hi: ∀j,Bo ss j→Cc (rv j)≤n)(hj:φ≠ .junk)(h:FR rv ss P H φ v):Cc v≤n:=by
 cases φ with
 |val t x=>exact T.V.men h hp
 |rp t x=>exact h.2.choose_spec.choose_spec.2.2.2 n hp
 |cp j off=>obtain⟨l,id,e,rfl⟩:=h;have:=hi j l;rw[e]at this;simpa [Cc]using this
 |oc j off sz len=>obtain⟨l,id,e,rfl⟩:=h;have:=hi j l;rw[e]at this;simpa [Cc]using this
 |own j=>obtain⟨l,rfl⟩:=h;exact hi j l
 |ep j i off=>obtain⟨l,id,m,e,_,rfl⟩:=h;have:=hi j l;rw[e]at this;simpa [Cc]using this
 |tup l=>obtain⟨vs,rfl,h⟩:=h;simpa [Cc]using h.men hp
 |junk=>exact absurd rfl hj
 |con c=>obtain⟨rfl,h,_⟩:=h;omega
 |kv j=>obtain⟨h,rfl⟩:=h;exact hi j (M5 (h j (by simp)))
 |fnv f js ks=>
  obtain⟨h,rfl⟩:=h
  have h1:=(M4 hi (l:=js) fun j hj=>h j (by simp[hj])).1
  have h2:=(M4 hi (l:=ks) fun j hj=>h j (by simp[hj])).1
  simp only[Cc];omega
 |aggk js=>obtain⟨h,rfl⟩:=h;simpa [Cc]using (M4 hi h).2
 |tupk js=>obtain⟨h,rfl⟩:=h;simpa [Cc]using (M4 hi h).1
theorem FC.men{φ:AW}{c:List AV}(hp: ∀i,P i→i<H.length)(hi: ∀j,Bo ss j→Cc (rv j)≤H.length)(h:FC rv ss P H φ c):B0 c≤H.length:=by
 have one: ∀{ψ:AW},ψ≠ .junk→(∃v,c=[v]∧FR rv ss P H ψ v)→B0 c≤H.length:=by
  rintro ψ hj ⟨v,rfl,h'⟩
  simpa [B0]using FR.men hp hi hj h'
 cases φ with
 |val t x=>exact t.men h hp
 |tup l=>exact h.elim
 |junk=>exact h
 |rp t x=>exact one (by simp) h
 |cp j off=>exact one (by simp) h
 |oc j off sz len=>exact one (by simp) h
 |own j=>exact one (by simp) h
 |ep j i off=>exact one (by simp) h
 |con c=>exact one (by simp) h
 |kv j=>exact one (by simp) h
 |fnv f js ks=>exact one (by simp) h
 |aggk js=>exact one (by simp) h
 |tupk js=>exact one (by simp) h
theorem PR.men(hp: ∀i,P i→i<H.length)(hi: ∀j,Bo ss j→Cc (rv j)≤H.length): ∀{ps:List (Nat×AW)} {cs:List AV},PR rv ss P H ps cs→B0 cs≤H.length
 |[],_,h=>by rw[show _=[]from h];simp[B0]
 |(n,φ)::r,cs,⟨c,d,e,l,h,g⟩=>by
  rw[e,GP]
  have:=FC.men hp hi h
  have:=PR.men hp hi g
  omega
def Ww:List (Nat×AW)→Nat
 |[]=>0
 |(n,_)::r=>n+Ww r
theorem PR.length: ∀{ps:List (Nat×AW)} {cs:List AV},PR rv ss P H ps cs→cs.length=Ww ps
 |[],_,h=>by rw[show _=[]from h];rfl
 |(n,φ)::r,cs,⟨c,d,e,l,h,g⟩=>by rw[e,aw,l,PR.length g];rfl
theorem SR.keep{k:Nat}{S:BY}(h:SR rv fp ss P H k S)(hrv:rv' k=rv k)(hfp:fp' k=fp k)(m: ∀i,P i→Q i∧G[i]? =H[i]?)(hl:H.length≤G.length)
  (hg: ∀i,fp k i→G[i]? =H[i]?) (hs: ∀ps,S= .cells ps→ ∀p∈ps,Wl rv rv' ss ss' p.2) (hsk: ∀φ,S= .keep φ→Wl rv rv' ss ss' φ) (hse: ∀sz els,S= .rowk sz els→Wl rv rv' ss ss' (.aggk els.flatten)):SR rv' fp' ss' Q G k S:=by
 cases S with
 |rowk sz els=>
  obtain⟨h0,id,h1,h2,h3⟩:=h
  have hs:=hse sz els rfl
  have h4:=(HM (rv:=rv) (rv':=rv') (ss':=ss') h0 fun j hj=>hs j (fun hn=>hn hj)).1
  have h5:(els.map fun js=>js.flatMap fun j=>cellsOf (rv' j))=els.map fun js=>js.flatMap fun j=>cellsOf (rv j):=by
   apply lq
   intro js hjs
   exact(HM (rv:=rv) (rv':=rv') (ss':=ss') (fun j hj=>h0 j (jh.2 ⟨js,hjs,hj⟩)) fun j hj=>hs j (fun hn=>hn (jh.2 ⟨js,hjs,hj⟩))).2.2
  exact⟨h4,id,hrv.trans h1,by rw[hfp];exact h2,by rw[h5,OU (hg id ((h2 id).2 rfl))];exact h3⟩
 |gone=>trivial
 |ghost φ=>trivial
 |keep φ=>
  obtain⟨h1,h2⟩:=h
  exact⟨by rw[hrv];exact FR.mono m (hsk φ rfl) h1,by rw[hfp];exact h2⟩
 |cells ps=>
  obtain⟨id,cs,h1,h0,h2,h3⟩:=h
  exact⟨id,cs,hrv.trans h1,by rw[hfp];exact h0,by rw[P1 (hg id ((h0 id).2 rfl))];exact h2,h3.mono m hl (hs ps rfl)⟩
 |row t g=>
  cases g with
  |nil=>exact⟨hrv.trans h.1,by rw[hfp];exact h.2⟩
  |mk l=>
   obtain⟨id,els,h1,h0,h2,h3⟩:=h
   exact⟨id,els,hrv.trans h1,by rw[hfp];exact h0,by rw[OU (hg id ((h0 id).2 rfl))];exact h2,h3.mono m⟩
 |dom D x=>
  show D.R _ _ _ _ _
  rw[hrv,hfp]
  exact D.mono m hg h
end
def Cx.push(Γ:Cx)(d:Nat)(φ:AW):Cx:=⟨(d,φ)::Γ.ts,Γ.ss⟩
def Cx.all(Γ:Cx)(p:AW→Prop):Prop:=(∀t φ,BM Γ.ts t=some φ→p φ)∧(∀k ps,AM Γ.ss k=some (.cells ps)→ ∀q∈ps,p q.2)∧(∀k φ,(AM Γ.ss k=some (.keep φ)∨AM Γ.ss k=some (.ghost φ))→p φ)∧ ∀k sz els,AM Γ.ss k=some (.rowk sz els)→p (.aggk els.flatten)
theorem V5{ss:Ss}{j k:Nat}{S:BY}(hk:k≠j):Bo ((j,S)::ss) k↔Bo ss k:=by simp only[Bo,AM,qo (jz hk)]
def SE:BY→Bool
 | .gone=>true
 | .ghost _=>true
 |_=>false
theorem yK{ss:Ss}{j:Nat}{S:BY}(hS:SE S=false):Bo ((j,S)::ss) j:=by
 simp only[Bo,AM,qt]
 cases S<;>first|(simp[SE]at hS;done)|trivial
theorem Nz{ss:Ss}{j:Nat}{S:BY}(h:AM ss j=some S)(hS:SE S=false):Bo ss j:=by
 simp only[Bo,h]
 cases S<;>first|(simp[SE]at hS;done)|trivial
theorem Ht{ss:Ss}{j:Nat}(h:AM ss j=none): ¬Bo ss j:=by simp only[Bo,h];exact fun l=>l
theorem RN(a b:Az):D1 (a++b)=max (D1 a) (D1 b):=by
 induction a with
 |nil=>simp[D1]
 |cons x a ih=>simp only[dt,D1,ih];omega
theorem Ic{o:CB}{m:Nat}: ∀{l:Az} {i:Nat},D1 l≤m→E7 o≤m→D1 (l.set i o)≤m
 |[],i,h1,h2=>by simpa using h1
 |x::l,0,h1,h2=>by simp only[ir,D1]at h1 ⊢;omega
 |x::l,i+1,h1,h2=>by
  simp only[jo,D1]at h1 ⊢
  have:=Ic (l:=l) (i:=i) (o:=o) (m:=m) (by omega) h2
  omega
section
variable{E:R7}{Γ:Cx}{rv:Nat→AV}{fp:Fp}{f:Fr}{H:Az}
theorem B8.ltP(I:B8 E Γ rv fp f H): ∀i,Pf E Γ.ss fp H i→i<H.length:=fun _ h=>h.lt I.le
theorem B8.push(I:B8 E Γ rv fp f H){d:Nat}{φ:AW}{v:AV}(h:FR rv Γ.ss (Pf E Γ.ss fp H) H φ v):B8 E (Γ.push d φ) rv fp (put f (some d) v) H:=by
 refine⟨I.le,I.base,I.wf,I.fplt,I.rvlt,I.scal,I.inj,I.slots,?_,I.gh⟩
 intro t ψ e
 simp only[Cx.push,BM]at e
 simp only[put,get]
 split at e
 ·rename_i hd
  rw[qn hd]
  cases e
  exact h
 ·rename_i hd
  rw[qo hd]
  exact I.temps t ψ e
theorem B8.fr(I:B8 E Γ rv fp f H){f':Fr}(h: ∀t φ,BM Γ.ts t=some φ→get f' t=get f t):B8 E Γ rv fp f' H:=
 ⟨I.le,I.base,I.wf,I.fplt,I.rvlt,I.scal,I.inj,I.slots,fun t φ e=>by rw[h t φ e];exact I.temps t φ e,I.gh⟩
theorem B8.chg(I:B8 E Γ rv fp f H){j:Nat}{S:BY}{v:AV}{F:Nat→Prop}{G:Az}(hnk:DH (AM Γ.ss j)=false)(hS:SE S=false)(hl:H.length≤G.length)(hG: ∀i,i<H.length→(Bo Γ.ss j→ ¬fp j i)→G[i]? =H[i]?)
  (hF: ∀i,F i→(Bo Γ.ss j∧fp j i)∨(H.length≤i∧i<G.length)) (hk:Bo Γ.ss j→v=rv j∨Γ.all (Fb j)) (hw:D1 G≤G.length) (hv:Cc v≤G.length) (hsc:DH (some S)=true∨Am.scal v=true)
  (hs: ∀(rv':Nat→AV) (fp':Fp),rv' j=v→fp' j=F→(∀i,Pf E Γ.ss fp H i→Pf E ((j,S)::Γ.ss) fp' G i∧G[i]? =H[i]?)→(∀φ,(Bo Γ.ss j→v=rv j∨Fb j φ)→Wl rv rv' Γ.ss ((j,S)::Γ.ss) φ)→
   SR rv' fp' ((j,S)::Γ.ss) (Pf E ((j,S)::Γ.ss) fp' G) G j S):
  ∃rv' fp',rv' j=v∧Bo ((j,S)::Γ.ss) j∧B8 E ⟨Γ.ts,(j,S)::Γ.ss⟩ rv' fp' f G:=by
 let rv':Nat→AV:=fun k=>if k=j then v else rv k
 let fp':Fp:=fun k=>if k=j then F else fp k
 have hrj:rv' j=v:=qn rfl
 have hfj:fp' j=F:=qn rfl
 have hr: ∀k,k≠j→rv' k=rv k:=fun k hk=>qo hk
 have hf: ∀k,k≠j→fp' k=fp k:=fun k hk=>qo hk
 have hlj:Bo ((j,S)::Γ.ss) j:=yK hS
 have hlv: ∀k,k≠j→(Bo ((j,S)::Γ.ss) k↔Bo Γ.ss k):=fun k hk=>V5 hk
 have hnot: ∀i,Pf E Γ.ss fp H i→Bo Γ.ss j→ ¬fp j i:=by
  rintro i (⟨h1,h2⟩|⟨_,_,h⟩) l e
  ·exact((I.fplt j i l e).2 h1).1 (E.pk i h2)
  ·exact h j l e
 have hP: ∀i,Pf E Γ.ss fp H i→Pf E ((j,S)::Γ.ss) fp' G i∧G[i]? =H[i]? :=by
  intro i h
  refine⟨?_,hG i (h.lt I.le) (hnot i h)⟩
  rcases h with h|⟨h1,h2,h3⟩
  ·exact .inl h
  ·refine .inr ⟨h1,by omega,fun k l e=> ?_⟩
   by_cases hkj:k=j
   ·subst hkj
    rw[hfj]at e
    rcases hF i e with ⟨l',e'⟩|⟨h4,_⟩
    ·exact h3 k l' e'
    ·omega
   ·rw[hf k hkj]at e
    exact h3 k ((hlv k hkj).1 l) e
 have hsame: ∀φ,(Bo Γ.ss j→v=rv j∨Fb j φ)→Wl rv rv' Γ.ss ((j,S)::Γ.ss) φ:=by
  intro φ hφ k hkr l
  by_cases hkj:k=j
  ·subst hkj
   rcases hφ l with h|h
   ·exact⟨⟨hlj,fun e=>by rw[hnk]at e;cases e⟩,hrj.trans h⟩
   ·exact absurd h hkr
  ·exact⟨⟨(hlv k hkj).2 l,fun e=>by simp only[AM,qo (jz hkj)];exact e⟩,hr k hkj⟩
 refine⟨rv',fp',hrj,hlj,?_,?_,hw,?_,?_,?_,?_,?_,?_,?_⟩
 ·have:=I.le;omega
 ·intro i hi hK
  have hnf:Bo Γ.ss j→ ¬fp j i:=fun l e=>((I.fplt j i l e).2 hi).1 hK
  rw[hG i (by have:=I.le;omega) hnf];exact I.base i hi hK
 ·intro k i l e
  by_cases hkj:k=j
  ·subst hkj
   rw[hfj]at e
   rcases hF i e with ⟨l',e'⟩|⟨h1,h2⟩
   ·have:=I.fplt k i l' e'
    exact⟨by omega,this.2⟩
   ·exact⟨h2,fun h=>absurd h (by have:=I.le;omega)⟩
  ·rw[hf k hkj]at e
   have:=I.fplt k i ((hlv k hkj).1 l) e
   exact⟨by omega,this.2⟩
 ·intro k l
  by_cases hkj:k=j
  ·subst hkj;rw[hrj];exact hv
  ·rw[hr k hkj];have:=I.rvlt k ((hlv k hkj).1 l);omega
 ·intro k l
  by_cases hkj:k=j
  ·subst hkj;rw[hrj];exact hsc.imp (fun h=>by simp only[AM,qt];exact h) id
  ·rw[hr k hkj];exact(I.scal k ((hlv k hkj).1 l)).imp (fun h=>by simp only[AM,qo (jz hkj)];exact h) id
 ·intro k k' i l l' e e'
  by_cases hkj:k=j<;>by_cases hkj':k'=j
  ·rw[hkj,hkj']
  ·subst hkj
   rw[hfj]at e
   rw[hf k' hkj']at e'
   rcases hF i e with ⟨l1,e1⟩|⟨h1,_⟩
   ·exact I.inj k k' i l1 ((hlv k' hkj').1 l') e1 e'
   ·have:=(I.fplt k' i ((hlv k' hkj').1 l') e').1;omega
  ·subst hkj'
   rw[hfj]at e'
   rw[hf k hkj]at e
   rcases hF i e' with ⟨l1,e1⟩|⟨h1,_⟩
   ·exact I.inj k k' i ((hlv k hkj).1 l) l1 e e1
   ·have:=(I.fplt k i ((hlv k hkj).1 l) e).1;omega
  ·rw[hf k hkj]at e
   rw[hf k' hkj']at e'
   exact I.inj k k' i ((hlv k hkj).1 l) ((hlv k' hkj').1 l') e e'
 ·intro k S' e
  rw[AM]at e
  split at e
  ·rename_i hkj
   cases e
   subst hkj
   exact hs rv' fp' hrj hfj hP hsame
  ·rename_i hkj
   by_cases hg:SE S'=true
   ·cases S'<;>first|trivial|(simp[SE]at hg;done)
   ·have hlk:=Nz e (by simpa using hg)
    refine(I.slots k S' e).keep (hr k (jz hkj)) (hf k (jz hkj)) hP hl (fun i hi=>hG i (I.fplt k i hlk hi).1 fun l e'=>hkj (I.inj j k i l hlk e' hi)) (fun ps hps p hp=>hsame p.2 fun l=> ?_) (fun φ hφ=>hsame φ fun l=> ?_) fun sz els he=>hsame _ fun l=> ?_
    ·subst hps
     exact(hk l).imp (fun h=>h) fun h=>h.2.1 k ps e p hp
    ·subst hφ
     exact(hk l).imp (fun h=>h) fun h=>h.2.2.1 k φ (.inl e)
    ·subst he
     exact(hk l).imp (fun h=>h) fun h=>h.2.2.2 k sz els e
 ·intro t φ e
  exact(I.temps t φ e).mono hP (hsame φ fun l=>(hk l).imp (fun h=>h) fun h=>h.1 t φ e)
 ·intro k φ e
  rw[AM]at e
  split at e
  ·rename_i hkj
   cases e
   simp[SE]at hS
  ·exact(I.gh k φ e).mono hP (hsame φ fun l=>(hk l).imp (fun h=>h) fun h=>h.2.2.1 k φ (.inr e))
theorem B8.more(I:B8 E Γ rv fp f H){j:Nat}{S:BY}{v:AV}{o:CB}(hj: ¬Bo Γ.ss j)(hm:E7 o≤H.length+1)(hS:SE S=false)(hv:Cc v≤H.length+1)(hsc:Am.scal v=true)
  (hr: ∀(rv':Nat→AV) (fp':Fp),rv' j=v→(∀i,fp' j i↔i=H.length)→(∀i,Pf E Γ.ss fp H i→Pf E ((j,S)::Γ.ss) fp' (H++[o]) i∧(H++[o])[i]? =H[i]?)→
   (∀φ,Wl rv rv' Γ.ss ((j,S)::Γ.ss) φ)→SR rv' fp' ((j,S)::Γ.ss) (Pf E ((j,S)::Γ.ss) fp' (H++[o])) (H++[o]) j S):
  ∃rv' fp',rv' j=v∧Bo ((j,S)::Γ.ss) j∧B8 E ⟨Γ.ts,(j,S)::Γ.ss⟩ rv' fp' f (H++[o]):=
 I.chg (F:=fun i=>i=H.length) (by
   cases e:DH (AM Γ.ss j)with
   |false=>rfl
   |true=>exact absurd (M5 e) hj) hS (by simp) (fun i hi _=>br hi) (fun i hi=> .inr ⟨by omega,by simp;omega⟩) (fun l=>absurd l hj)
  (by rw[RN];have:=I.wf;simp only[D1,aw,bb,bz];omega) (by simpa using hv) (.inr hsc)
  fun rv' fp' h1 h2 hP hs=>hr rv' fp' h1 (fun i=>by rw[h2]) hP fun φ=>hs φ fun l=>absurd l hj
theorem B8.set(I:B8 E Γ rv fp f H){j id:Nat}{S:BY}{v:AV}{o:CB}(hnk:DH (AM Γ.ss j)=false)(hl:Bo Γ.ss j)(hid: ∀i,fp j i↔i=id)(hm:E7 o≤H.length)(hS:SE S=false)(hv:Cc v≤H.length)(hk:v=rv j∨Γ.all (Fb j))
  (hsc:DH (AM Γ.ss j)=true∨Am.scal v=true)
  (hs: ∀(rv':Nat→AV) (fp':Fp),rv' j=v→(∀i,fp' j i↔i=id)→(∀i,Pf E Γ.ss fp H i→Pf E ((j,S)::Γ.ss) fp' (H.set id o) i∧(H.set id o)[i]? =H[i]?)→
   (∀φ,v=rv j∨Fb j φ→Wl rv rv' Γ.ss ((j,S)::Γ.ss) φ)→SR rv' fp' ((j,S)::Γ.ss) (Pf E ((j,S)::Γ.ss) fp' (H.set id o)) (H.set id o) j S):
  ∃rv' fp',rv' j=v∧Bo ((j,S)::Γ.ss) j∧B8 E ⟨Γ.ts,(j,S)::Γ.ss⟩ rv' fp' f (H.set id o):=
 I.chg (F:=fp j) hnk hS (by simp) (fun i _ hn=>dx fun e=>hn hl ((hid i).2 e.symm)) (fun i hi=> .inl ⟨hl,hi⟩) (fun _=>hk) (by simpa using Ic I.wf hm) (by simpa using hv) (hsc.elim (fun h=>by rw[hnk]at h;cases h) .inr)
  fun rv' fp' h1 h2 hP hs'=>hs rv' fp' h1 (fun i=>by rw[h2];exact hid i) hP fun φ h=>hs' φ fun _=>h
end
end
section
def Uo(F:AW→AW):BY→BY
 | .cells ps=> .cells (ps.map fun p=>(p.1,F p.2))
 | .keep φ=> .keep (F φ)
 | .ghost φ=> .ghost (F φ)
 |s=>s
theorem V7{F:AW→AW}(o:Option BY):DH (o.map (Uo F))=DH o:=by
 cases o with
 |none=>rfl
 |some S=>cases S<;>rfl
theorem VF{F:AW→AW}: ∀{ts:Ts} {t:Nat},BM (ts.map fun p=>(p.1,F p.2)) t=(BM ts t).map F
 |[],_=>rfl
 |(u,φ)::r,t=>by
  simp only[bn,BM]
  split
  ·rfl
  ·exact VF
theorem Hy{F:AW→AW}: ∀{ss:Ss} {j:Nat},AM (ss.map fun p=>(p.1,Uo F p.2)) j=(AM ss j).map (Uo F)
 |[],_=>rfl
 |(u,φ)::r,t=>by
  simp only[bn,AM]
  split
  ·rfl
  ·exact Hy
theorem Up{F:AW→AW}{ss:Ss}{j:Nat}:Bo (ss.map fun p=>(p.1,Uo F p.2)) j↔Bo ss j:=by
 simp only[Bo,Hy]
 cases AM ss j with
 |none=>exact o9
 |some S=>cases S<;>exact o9
theorem PR.map{rv rv':Nat→AV}{ss ss':Ss}{P Q:Nat→Prop}{H:Az}{F:AW→AW}: ∀{ps:List (Nat×AW)} {cs:List AV},(∀p∈ps,∀c,FC rv ss P H p.2 c→FC rv' ss' Q H (F p.2) c)→PR rv ss P H ps cs→
  PR rv' ss' Q H (ps.map fun p=>(p.1,F p.2)) cs
 |[],_,_,h=>h
 |(n,φ)::r,cs,s,⟨c,d,e,l,h,g⟩=>⟨c,d,e,l,s _ bj c h,PR.map (fun p hp=>s p (bg _ hp)) g⟩
section
variable{E:R7}{Γ:Cx}{rv:Nat→AV}{fp:Fp}{f:Fr}{H:Az}
theorem Pf.same{ss ss':Ss}(h: ∀k,Bo ss' k→Bo ss k){i:Nat}:Pf E ss fp H i→Pf E ss' fp H i
 | .inl h=> .inl h
 | .inr ⟨h1,h2,h3⟩=> .inr ⟨h1,h2,fun j l=>h3 j (h j l)⟩
theorem B8.map(I:B8 E Γ rv fp f H){F:AW→AW}{ss':Ss}(hf: ∀k S,AM ss' k=some S→S≠ .gone→ ∃S0,AM Γ.ss k=some S0∧S=Uo F S0)(hag: ∀l,F (.aggk l)= .aggk l)
  (hFR:(∀i,Pf E Γ.ss fp H i→Pf E ss' fp H i)→ ∀φ v,FR rv Γ.ss (Pf E Γ.ss fp H) H φ v→FR rv ss' (Pf E ss' fp H) H (F φ) v)
  (hFC:(∀i,Pf E Γ.ss fp H i→Pf E ss' fp H i)→ ∀φ c,FC rv Γ.ss (Pf E Γ.ss fp H) H φ c→FC rv ss' (Pf E ss' fp H) H (F φ) c):B8 E ⟨Γ.ts.map fun p=>(p.1,F p.2),ss'⟩ rv fp f H:=by
 have hlv: ∀k,Bo ss' k→Bo Γ.ss k:=by
  intro k l
  simp only[Bo]at l
  cases h:AM ss' k with
  |none=>rw[h]at l;exact l.elim
  |some S=>
   rw[h]at l
   have hg:S≠ .gone:=by rintro rfl;exact l
   obtain⟨S0,h0,rfl⟩:=hf k S h hg
   exact Nz h0 (by cases S0<;>first|rfl|exact l.elim)
 have hP: ∀i,Pf E Γ.ss fp H i→Pf E ss' fp H i:=fun i=>Pf.same hlv
 refine⟨I.le,I.base,I.wf,fun k i l e=>I.fplt k i (hlv k l) e,fun k l=>I.rvlt k (hlv k l),fun k l=>(I.scal k (hlv k l)).imp (fun h=> ?_) id,fun k k' i l l' e e'=>I.inj k k' i (hlv k l) (hlv k' l') e e',?_,?_,?_⟩
 ·simp only[Bo]at l
  cases e:AM ss' k with
  |none=>rw[e]at l;exact l.elim
  |some S=>
   rw[e]at l
   obtain⟨S0,h0,rfl⟩:=hf k S e (by rintro rfl;exact l)
   rw[h0]at h
   cases S0<;>first|rfl|exact h
 ·intro k S e
  by_cases hg:S= .gone
  ·subst hg;trivial
  ·obtain⟨S0,h0,rfl⟩:=hf k S e hg
   have h:=I.slots k S0 h0
   cases S0 with
   |gone=>trivial
   |cells ps=>
    obtain⟨id,cs,h1,h2,h3,h4⟩:=h
    exact⟨id,cs,h1,h2,h3,h4.map fun p _ c=>hFC hP p.2 c⟩
   |row t g=>
    cases g with
    |nil=>exact h
    |mk l=>
     obtain⟨id,els,h1,h2,h3,h4⟩:=h
     exact⟨id,els,h1,h2,h3,h4.mono fun i hi=>⟨hP i hi,rfl⟩⟩
   |dom D x=>exact D.mono (fun i hi=>⟨hP i hi,rfl⟩) (fun _ _=>rfl) h
   |keep φ=>
    obtain⟨h1,h2⟩:=h
    exact⟨hFR hP φ _ h1,h2⟩
   |ghost φ=>trivial
   |rowk sz els=>
    obtain⟨g0,id,g1,g2,g3⟩:=h
    have:=hFR hP (.aggk els.flatten) _ ⟨g0,rfl⟩
    rw[hag]at this
    exact⟨this.1,id,g1,g2,g3⟩
 ·intro t φ e
  simp only[VF]at e
  obtain⟨ψ,h,rfl⟩:=aj.1 e
  exact hFR hP ψ _ (I.temps t ψ h)
 ·intro k φ e
  obtain⟨S0,h0,e'⟩:=hf k _ e (by simp)
  cases S0<;>simp only[Uo,BY.ghost.injEq,reduceCtorEq]at e'
  subst e'
  exact hFR hP _ _ (I.gh k _ h0)
theorem FR.weak{ss ss':Ss}{P Q:Nat→Prop}{φ:AW}{v:AV}(hP: ∀i,P i→Q i)(hl: ∀j,¬Fb j φ→Bo ss j→Bo ss' j∧(DH (AM ss j)=true→DH (AM ss' j)=true))(h:FR rv ss P H φ v):FR rv ss' Q H φ v:=
 h.mono (fun i hi=>⟨hP i hi,rfl⟩) fun j hj l=>⟨hl j hj l,rfl⟩
theorem FC.weak{ss ss':Ss}{P Q:Nat→Prop}{φ:AW}{c:List AV}(hP: ∀i,P i→Q i)(hl: ∀j,¬Fb j φ→Bo ss j→Bo ss' j∧(DH (AM ss j)=true→DH (AM ss' j)=true))(h:FC rv ss P H φ c):FC rv ss' Q H φ c:=
 h.mono (fun i hi=>⟨hP i hi,rfl⟩) (be _) fun j hj l=>⟨hl j hj l,rfl⟩
def Qt(j:Nat)(F:AW→AW):AW→AW
 | .own k=>if k=j then F (.own k)else .own k
 | .ep k i o=>if k=j then F (.ep k i o)else .ep k i o
 | .cp k o=>if k=j then F (.cp k o)else .cp k o
 | .oc k o s n=>if k=j then F (.oc k o s n)else .oc k o s n
 |φ=>φ
def Pg(j:Nat):AW→Prop
 | .kv k=>k≠j
 | .fnv _ js ks=>j∉js++ks
 | .aggk js=>j∉js
 | .tupk js=>j∉js
 |_=>True
theorem FR.noKeep{rv:Nat→AV}{ss:Ss}{P:Nat→Prop}{H:Az}{φ:AW}{v:AV}{j:Nat}(hj:DH (AM ss j)=false)(h:FR rv ss P H φ v):Pg j φ:=by
 have no: ∀{l:List Nat},N0 ss l→j∉l:=fun h hm=>by have:=h j hm;rw[hj]at this;cases this
 cases φ<;>try exact trivial
 ·exact fun e=>no h.1 (by simp[e])
 ·exact no h.1
 ·exact no h.1
 ·exact no h.1
theorem Qs{j:Nat}{F:AW→AW}{φ:AW}(h:Fb j φ):Qt j F φ=φ:=by
 cases φ<;>simp only[Fb]at h<;>simp only[Qt]<;>first|rfl|(rw[qo h])
theorem Ol{j:Nat}{F:AW→AW}{φ:AW}(hk:Pg j φ)(h: ¬Fb j φ):Qt j F φ=F φ:=by
 cases φ<;>first
  |(simp only[Fb,not_true_eq_false,ne_eq,ig]at h;simp only[Qt,qn h];done)
  |exact absurd hk h
  |exact absurd trivial h
def Cx.kill(Γ:Cx)(j:Nat):Cx:=⟨Γ.ts.map fun p=>(p.1,Qt j (fun _=> .junk) p.2),Γ.ss.map fun p=>(p.1,Uo (Qt j fun _=> .junk) p.2)⟩
theorem OK(j:Nat)(φ:AW)(hk:Pg j φ):Fb j (Qt j (fun _=> .junk) φ):=by
 by_cases h:Fb j φ
 ·rw[Qs h];exact h
 ·rw[Ol hk h];trivial
theorem B8.noKeepT(I:B8 E Γ rv fp f H){j:Nat}(hj:DH (AM Γ.ss j)=false):Γ.all (Pg j):=by
 refine⟨fun t φ e=>FR.noKeep hj (I.temps t φ e),fun k ps e p hp=> ?_,fun k φ e=> ?_,fun k sz els e=> ?_⟩
 ·obtain⟨id,cs,_,_,_,h⟩:=I.slots k _ e
  have key: ∀{ps:List (Nat×AW)} {cs:List AV},PR rv Γ.ss (Pf E Γ.ss fp H) H ps cs→ ∀p∈ps,Pg j p.2:=by
   intro ps
   induction ps with
   |nil=>intro cs _ p hp;cases hp
   |cons q ps ih=>
    rintro cs ⟨c,d,_,_,h1,h2⟩ p hp
    rcases bu.1 hp with rfl|hp
    ·obtain⟨n,φ⟩:=p
     cases φ<;>first|trivial|exact h1.elim|(obtain⟨v,_,h1⟩:=h1;exact FR.noKeep hj h1)
    ·exact ih h2 p hp
  exact key h p hp
 ·rcases e with e|e
  ·exact FR.noKeep hj (I.slots k _ e).1
  ·exact FR.noKeep hj (I.gh k φ e)
 ·have h0:=(I.slots k _ e).1
  exact fun hm=>by have:=h0 j hm;rw[hj]at this;cases this
theorem qI(I:B8 E Γ rv fp f H){j:Nat}(hj:DH (AM Γ.ss j)=false):(Γ.kill j).all (Fb j):=by
 have hn:=I.noKeepT hj
 refine⟨fun t φ e=> ?_,fun k ps e p hp=> ?_,fun k φ e=> ?_,fun k sz els e=> ?_⟩
 ·simp only[Cx.kill,VF]at e
  obtain⟨ψ,h,rfl⟩:=aj.1 e
  exact OK j ψ (hn.1 t ψ h)
 ·simp only[Cx.kill,Hy]at e
  obtain⟨S,h,e⟩:=aj.1 e
  cases S<;>simp only[Uo,BY.cells.injEq,reduceCtorEq]at e
  subst e
  obtain⟨q,hq,rfl⟩:=ls.1 hp
  exact OK j q.2 (hn.2.1 k _ h q hq)
 ·simp only[Cx.kill,Hy]at e
  rcases e with e|e
  ·obtain⟨S,h,e⟩:=aj.1 e
   cases S<;>simp only[Uo,BY.keep.injEq,reduceCtorEq]at e
   subst e
   exact OK j _ (hn.2.2.1 k _ (.inl h))
  ·obtain⟨S,h,e⟩:=aj.1 e
   cases S<;>simp only[Uo,BY.ghost.injEq,reduceCtorEq]at e
   subst e
   exact OK j _ (hn.2.2.1 k _ (.inr h))
 ·simp only[Cx.kill,Hy]at e
  obtain⟨S,h,e⟩:=aj.1 e
  cases S<;>simp only[Uo,BY.rowk.injEq,reduceCtorEq]at e
  obtain⟨rfl,rfl⟩:=e
  exact hn.2.2.2 k _ _ h
theorem B8.kill(I:B8 E Γ rv fp f H)(j:Nat)(hj:DH (AM Γ.ss j)=false):B8 E (Γ.kill j) rv fp f H:=by
 have hl: ∀k,Bo Γ.ss k→Bo (Γ.kill j).ss k∧(DH (AM Γ.ss k)=true→DH (AM (Γ.kill j).ss k)=true):=fun k h=>⟨Up.2 h,fun e=>by rw[Cx.kill];simp only[Hy,V7];exact e⟩
 refine I.map (F:=Qt j fun _=> .junk) (fun k S e _=> ?_) (fun l=> ?_) (fun hP φ v h=> ?_) (fun hP φ c h=> ?_)
 ·rw[Hy]at e
  obtain⟨S0,h0,rfl⟩:=aj.1 e
  exact⟨S0,h0,rfl⟩
 ·rfl
 ·by_cases hk:Fb j φ
  ·rw[Qs hk];exact h.weak hP fun k _=>hl k
  ·rw[Ol (FR.noKeep hj h) hk];trivial
 ·by_cases hk:Fb j φ
  ·rw[Qs hk];exact h.weak hP fun k _=>hl k
  ·have hk':Pg j φ:=by
    cases φ<;>first|trivial|exact h.elim|(obtain⟨v,_,h⟩:=h;exact FR.noKeep hj h)
   rw[Ol hk' hk]
   exact FC.men I.ltP I.rvlt h
def Cx.turn(Γ:Cx)(j:Nat)(F:AW→AW):Cx:=⟨Γ.ts.map fun p=>(p.1,Qt j F p.2),(j, .gone)::Γ.ss.map fun p=>(p.1,Uo (Qt j F) p.2)⟩
theorem Pf.gone(I:B8 E Γ rv fp f H){j id:Nat}(hl:Bo Γ.ss j)(hid:fp j id){ss':Ss}(h: ∀k,Bo ss' k→k≠j∧Bo Γ.ss k)(hn:E.h.length≤id):Pf E ss' fp H id:=
 .inr ⟨hn,(I.fplt j id hl hid).1,fun k l e=>(h k l).1 (I.inj k j id (h k l).2 hl e hid)⟩
theorem RO{F:AW→AW}{ss:Ss}{j:Nat}: ∀k,Bo ((j, .gone)::ss.map fun p=>(p.1,Uo F p.2)) k↔k≠j∧Bo ss k:=by
 intro k
 by_cases hk:k=j
 ·subst hk
  simp only[Bo,AM,qt,liveO,false_iff]
  exact fun h=>h.1 rfl
 ·rw[V5 hk,Up]
  exact⟨fun h=>⟨hk,h⟩,fun h=>h.2⟩
theorem yZ{F:AW→AW}{ss:Ss}{j k:Nat}(hk:k≠j)(h:DH (AM ss k)=true):DH (AM ((j, .gone)::ss.map fun p=>(p.1,Uo F p.2)) k)=true:=by
 simp only[AM,qo (jz hk),Hy,V7];exact h
theorem B8.turn(I:B8 E Γ rv fp f H){j:Nat}{F:AW→AW}(hj:DH (AM Γ.ss j)=false)
  (hF:(∀i,Pf E Γ.ss fp H i→Pf E (Γ.turn j F).ss fp H i)→ ∀φ v,¬Fb j φ→FR rv Γ.ss (Pf E Γ.ss fp H) H φ v→FR rv (Γ.turn j F).ss (Pf E (Γ.turn j F).ss fp H) H (F φ) v∧FC rv (Γ.turn j F).ss (Pf E (Γ.turn j F).ss fp H) H (F φ) [v]):
  B8 E (Γ.turn j F) rv fp f H:=by
 have hlv: ∀k,Bo (Γ.turn j F).ss k↔k≠j∧Bo Γ.ss k:=RO
 have keep: ∀φ,Fb j φ→ ∀k,¬Fb k φ→Bo Γ.ss k→Bo (Γ.turn j F).ss k∧(DH (AM Γ.ss k)=true→DH (AM (Γ.turn j F).ss k)=true):=fun φ h k hk l=>
  have hkj:k≠j:=fun e=>hk (e▸h)
  ⟨(hlv k).2 ⟨hkj,l⟩,yZ hkj⟩
 refine I.map (F:=Qt j F) (fun k S e hg=> ?_) (fun _=>rfl) (fun hP φ v h=> ?_) (fun hP φ c h=> ?_)
 ·simp only[Cx.turn,AM]at e
  split at e
  ·cases e;exact absurd rfl hg
  ·rw[Hy]at e
   obtain⟨S0,h0,rfl⟩:=aj.1 e
   exact⟨S0,h0,rfl⟩
 ·by_cases hn:Fb j φ
  ·rw[Qs hn];exact h.weak hP (keep φ hn)
  ·rw[Ol (FR.noKeep hj h) hn];exact(hF hP φ v hn h).1
 ·by_cases hn:Fb j φ
  ·rw[Qs hn];exact h.weak hP (keep φ hn)
  ·have: ∃v,c=[v]∧FR rv Γ.ss (Pf E Γ.ss fp H) H φ v:=by
    cases φ<;>first|exact h|exact h.elim|exact absurd trivial hn
   obtain⟨v,rfl,h'⟩:=this
   rw[Ol (FR.noKeep hj h') hn]
   exact(hF hP φ v hn h').2
theorem FR.one{ss:Ss}{P:Nat→Prop}(hi: ∀j,Bo ss j→Cc (rv j)≤H.length){φ:AW}{v:AV}{j:Nat}(hp: ∀i,P i→i<H.length)(hn: ¬Fb j φ)(h:FR rv ss P H φ v):B0 [v]≤H.length:=by
 simpa [B0]using FR.men hp hi (by rintro rfl;exact hn trivial) h
def rowF(t:T)(g:GS t.α):AW→AW
 | .own _=> .val (T.sl t) g
 |_=> .junk
theorem B8.new(I:B8 E Γ rv fp f H){j:Nat}(hl:Bo Γ.ss j)(hn:je j iT=true)(i:Nat)(h:fp j i):E.h.length≤i:=by
 rcases dq i E.h.length with h'|h'
 ·have h1:=((I.fplt j i hl h).2 h').2
  have h2:j<iT:=by rw[je,Nat.ble_eq]at hn;exact hn
  omega
 ·exact h'
theorem B8.frzRow(I:B8 E Γ rv fp f H){j:Nat}{t:T}{g:GS t.α}(hj:AM Γ.ss j=some (.row t g))(hnb:je j iT=true):B8 E (Γ.turn j (rowF t g)) rv fp f H:=by
 have hl:Bo Γ.ss j:=Nz hj rfl
 have hn:=I.new hl hnb
 have hs:=I.slots j _ hj
 have hlv: ∀k,Bo (Γ.turn j (rowF t g)).ss k↔k≠j∧Bo Γ.ss k:=RO
 refine I.turn (by rw[hj];rfl) fun hP φ v hr h=> ?_
 have hnk:Pg j φ:=FR.noKeep (by rw[hj];rfl) h
 have hone:=FR.one I.rvlt I.ltP hr h
 cases φ with
 |own k=>
  simp only[Fb,ne_eq,ig]at hr
  subst hr
  obtain⟨_,rfl⟩:=h
  have:Sb t (Pf E (Γ.turn k (rowF t g)).ss fp H) H (rv k) g:=by
   cases g with
   |nil=>exact hs.1
   |mk l=>
    obtain⟨id,els,h1,h0,h2,h3⟩:=hs
    rw[h1]
    have hk:=(h0 id).2 rfl
    refine⟨Pf.gone I hl hk (fun k lk=>(hlv k).1 lk) (hn id hk),els,?_,h3.mono fun i hi=>⟨hP i hi,rfl⟩⟩
    simp[E4,h2]
  exact⟨Iy.2 this,_,rfl,this⟩
 |ep k i o=>exact⟨trivial,hone⟩
 |cp k o=>exact⟨trivial,hone⟩
 |oc k o s n=>exact⟨trivial,hone⟩
 |val t x=>exact absurd trivial hr
 |rp t x=>exact absurd trivial hr
 |tup l=>exact absurd trivial hr
 |junk=>exact absurd trivial hr
 |con c=>exact absurd trivial hr
 |kv k=>exact absurd hnk hr
 |fnv g js ks=>exact absurd hnk hr
 |aggk js=>exact absurd hnk hr
 |tupk js=>exact absurd hnk hr
def kI(t:T)(x:t.α):AW→AW
 | .cp _ 0=> .rp t x
 |_=> .junk
theorem B8.frzCell(I:B8 E Γ rv fp f H){j n:Nat}{t:T}{x:t.α}(hj:AM Γ.ss j=some (.cells [(n, .val t x)]))(hnb:je j iT=true):B8 E (Γ.turn j (kI t x)) rv fp f H:=by
 have hl:Bo Γ.ss j:=Nz hj rfl
 have hn:=I.new hl hnb
 have hs:=I.slots j _ hj
 have hlv: ∀k,Bo (Γ.turn j (kI t x)).ss k↔k≠j∧Bo Γ.ss k:=RO
 refine I.turn (by rw[hj];rfl) fun hP φ v hr h=> ?_
 have hnk:Pg j φ:=FR.noKeep (by rw[hj];rfl) h
 have hone:=FR.one I.rvlt I.ltP hr h
 cases φ with
 |cp k o=>
  simp only[Fb,ne_eq,ig]at hr
  subst hr
  cases o with
  |succ o=>exact⟨trivial,hone⟩
  |zero=>
   obtain⟨_,id,e,rfl⟩:=h
   obtain⟨id',cs,h1,h0,h2,c,d,h3,h4,h5,h6⟩:=hs
   rw[e]at h1
   cases h1
   have h6':d=[]:=h6
   subst h6'
   simp only[dv]at h3
   subst h3
   have hk:=(h0 id).2 rfl
   have hp:=Pf.gone I hl hk (fun k lk=>(hlv k).1 lk) (hn id hk)
   have hlen:=t.len h5
   have:qM t (Pf E (Γ.turn k (kI t x)).ss fp H) H (.ptr id 0) x:=by
    refine⟨hp,cs,0,by simp[place,h2],by omega,?_,fun m hm=>by simp only[Cc];exact hm _ hp⟩
    have:sub cs 0 t.sz=cs:=by simp only[sub,db];exact av (by omega)
    rw[this]
    exact t.mono (fun i hi=>⟨hP i hi,rfl⟩) h5
   exact⟨this,_,rfl,this⟩
 |own k=>exact⟨trivial,hone⟩
 |oc k o s n=>exact⟨trivial,hone⟩
 |ep k i o=>exact⟨trivial,hone⟩
 |val t x=>exact absurd trivial hr
 |rp t x=>exact absurd trivial hr
 |tup l=>exact absurd trivial hr
 |junk=>exact absurd trivial hr
 |con c=>exact absurd trivial hr
 |kv k=>exact absurd hnk hr
 |fnv g js ks=>exact absurd hnk hr
 |aggk js=>exact absurd hnk hr
 |tupk js=>exact absurd hnk hr
def keepP:Option BY→Prop
 |some (.keep _)=>True
 |_=>False
def QK(ss:Ss):List Nat→Prop
 |[]=>True
 |j::r=>keepP (AM ss j)∧QK ss r
theorem sF{o:Option BY}(h:keepP o):DH o=true:=by
 unfold keepP at h
 split at h
 ·rfl
 ·exact h.elim
theorem QI{ss:Ss}: ∀{l:List Nat},QK ss l→N0 ss l
 |[],_,j,hj=>by cases hj
 |k::l,h,j,hj=>by
  rcases bu.1 hj with rfl|hj
  ·exact sF h.1
  ·exact QI h.2 j hj
def Nw(ss:Ss):AW→Prop
 | .own k=>Bo ss k
 | .ep k _ _=>Bo ss k
 | .cp k _=>Bo ss k
 | .oc k _ _ _=>Bo ss k
 | .kv k=>QK ss [k]
 | .fnv _ js ks=>QK ss (js++ks)
 | .aggk js=>QK ss js
 | .tupk js=>QK ss js
 |_=>True
def rA(ss:Ss):List (Nat×AW)→Prop
 |[]=>True
 |p::r=>Nw ss p.2∧rA ss r
def refS(ss:Ss):BY→Prop
 | .cells ps=>rA ss ps
 | .keep φ=>Nw ss φ
 | .ghost φ=>Nw ss φ
 | .rowk _ els=>QK ss els.flatten
 |_=>True
def subT(Γ:Cx)(ss:Ss):Ts→Prop
 |[]=>True
 |(t,φ)::r=>(BM Γ.ts t=some φ∧Nw ss φ)∧subT Γ ss r
def subS(Γ:Cx)(ss:Ss):Ss→Prop
 |[]=>True
 |(j,S)::r=>(AM Γ.ss j=some S∧refS ss S)∧subS Γ ss r
def Sub(Γ' Γ:Cx):Prop:=subT Γ Γ'.ss Γ'.ts∧subS Γ Γ'.ss Γ'.ss
theorem dP{ss:Ss}: ∀{ts:Ts} {t:Nat} {φ:AW},subT Γ ss ts→BM ts t=some φ→BM Γ.ts t=some φ∧Nw ss φ
 |[],_,_,_,e=>by simp[BM]at e
 |(u,ψ)::r,t,φ,h,e=>by
  simp only[BM]at e
  split at e
  ·rename_i hu;cases e;subst hu;exact h.1
  ·exact dP h.2 e
theorem Jr{ss:Ss}: ∀{l:Ss} {j:Nat} {S:BY},subS Γ ss l→AM l j=some S→AM Γ.ss j=some S∧refS ss S
 |[],_,_,_,e=>by simp[AM]at e
 |(u,ψ)::r,t,φ,h,e=>by
  simp only[AM]at e
  split at e
  ·rename_i hu;cases e;subst hu;exact h.1
  ·exact Jr h.2 e
theorem YR{ss:Ss}{φ:AW}(h:Nw ss φ): ∀j,¬Fb j φ→Bo ss j∧(¬Pg j φ→DH (AM ss j)=true):=by
 intro j hj
 have key: ∀{l:List Nat},QK ss l→j∈l→Bo ss j∧DH (AM ss j)=true:=fun h hm=>⟨M5 (QI h j hm),QI h j hm⟩
 cases φ<;>first
  |exact absurd trivial hj
  |(simp only[Fb,ne_eq,ig]at hj;subst hj;exact⟨h,fun hn=>absurd trivial hn⟩)
  |(simp only[Fb,ne_eq,ig]at hj;exact⟨(key h (by simp[hj])).1,fun _=>(key h (by simp[hj])).2⟩)
  |exact⟨(key h (ig.1 hj)).1,fun _=>(key h (ig.1 hj)).2⟩
theorem YQ{ss:Ss}: ∀{ps:List (Nat×AW)},rA ss ps→ ∀p∈ps,Nw ss p.2
 |[],_,p,hp=>by cases hp
 |q::r,h,p,hp=>by
  rcases bu.1 hp with rfl|hp
  ·exact h.1
  ·exact YQ h.2 p hp
theorem B8.sub{Γ':Cx}(I:B8 E Γ rv fp f H)(h:Sub Γ' Γ):B8 E Γ' rv fp f H:=by
 have hlv: ∀k,Bo Γ'.ss k→Bo Γ.ss k:=by
  intro k l
  cases e:AM Γ'.ss k with
  |none=>simp only[Bo,e]at l;exact l.elim
  |some S=>
   have:=(Jr h.2 e).1
   simp only[Bo,e]at l
   simp only[Bo,this];exact l
 have hP: ∀i,Pf E Γ.ss fp H i→Pf E Γ'.ss fp H i:=fun i=>Pf.same hlv
 have hsame: ∀φ,Nw Γ'.ss φ→Wl rv rv Γ.ss Γ'.ss φ:=fun φ r j hj l=>by
  have hl:=(YR r j hj).1
  refine⟨⟨hl,fun e=> ?_⟩,rfl⟩
  cases e':AM Γ'.ss j with
  |none=>simp only[Bo,e']at hl;exact hl.elim
  |some S=>rw[(Jr h.2 e').1]at e;exact e
 refine⟨I.le,I.base,I.wf,fun k i l e=>I.fplt k i (hlv k l) e,fun k l=>I.rvlt k (hlv k l),fun k l=>(I.scal k (hlv k l)).imp (fun e=> ?_) id,fun k k' i l l' e e'=>I.inj k k' i (hlv k l) (hlv k' l') e e',?_,?_,?_⟩
 ·cases e':AM Γ'.ss k with
  |none=>simp only[Bo,e']at l;exact l.elim
  |some S=>rw[(Jr h.2 e').1]at e;exact e
 ·intro k S e
  obtain⟨e',r⟩:=Jr h.2 e
  refine(I.slots k S e').keep rfl rfl (fun i hi=>⟨hP i hi,rfl⟩) (be _) (fun _ _=>rfl) (fun ps hps p hp=> ?_) (fun φ hφ=> ?_) fun sz els he=> ?_
  ·subst hps
   exact hsame p.2 (YQ r p hp)
  ·subst hφ
   exact hsame φ r
  ·subst he
   exact hsame (.aggk els.flatten) r
 ·intro t φ e
  obtain⟨e',r⟩:=dP h.1 e
  exact(I.temps t φ e').mono (fun i hi=>⟨hP i hi,rfl⟩) (hsame φ r)
 ·intro k φ e
  obtain⟨e',r⟩:=Jr h.2 e
  exact(I.gh k φ e').mono (fun i hi=>⟨hP i hi,rfl⟩) (hsame φ r)
end
end
section
def Ly{σ β:Type}(F:σ→Option (σ⊕β)):Nat→σ→Option β
 |0,_=>none
 |n+1,s=>(F s).bind fun
  | .inl s'=>Ly F n s'
  | .inr b=>some b
open Classical in
noncomputable def iter{σ β:Type}(F:σ→Option (σ⊕β))(s:σ):Option β:=
 if h: ∃n,(Ly F n s).isSome=true then Ly F (d5 h) s else none
section
variable{σ β:Type}{F:σ→Option (σ⊕β)}
theorem Ti: ∀{n m:Nat} {s:σ} {b:β},n≤m→Ly F n s=some b→Ly F m s=some b
 |0,_,_,_,_,h=>by simp[Ly]at h
 |n+1,0,_,_,hm,_=>by omega
 |n+1,m+1,s,b,hm,h=>by
  simp only[Ly]at h ⊢
  obtain⟨r,hr,h⟩:=ab.1 h
  rw[hr]
  cases r with
  |inl s'=>exact Ti (by omega) h
  |inr b'=>exact h
theorem jA{n:Nat}{s:σ}{b:β}(h:Ly F n s=some b):iter F s=some b:=by
 unfold iter
 have hx: ∃n,(Ly F n s).isSome=true:=⟨n,by rw[h];rfl⟩
 rw[dif_pos hx]
 obtain⟨b',hb⟩:=bl.1 (jv hx)
 have h1:=Ti (fo n (d5 hx)) h
 have h2:=Ti (d9 n (d5 hx)) hb
 rw[hb,←h2,h1]
theorem V8{s:σ}{b:β}(h:iter F s=some b): ∃n,Ly F n s=some b:=by
 unfold iter at h
 split at h
 ·exact⟨_,h⟩
 ·cases h
theorem BN{s s':σ}(h:F s=some (.inl s')):iter F s=iter F s':=by
 apply Option.ext
 intro b
 constructor
 ·intro e
  obtain⟨n,hn⟩:=V8 e
  cases n with
  |zero=>simp[Ly]at hn
  |succ n=>simp only[Ly,h,aa]at hn;exact jA hn
 ·intro e
  obtain⟨n,hn⟩:=V8 e
  exact jA (n:=n+1) (by simp only[Ly,h,aa];exact hn)
theorem Bm{s:σ}{b:β}(h:F s=some (.inr b)):iter F s=some b:=
 jA (n:=1) (by simp only[Ly,h,aa])
end
inductive Kf where
 |seq (y:AC)
 |blk (id:Nat)
noncomputable def Is(tb:Di):List Kf→Ex×Fr×Az→Option (Ex×Fr×Az)
 |[],r=>some r
 | .seq y::ks,(.normal,f,h)=>(Bj tb (CC tb) y f h).bind (Is tb ks)
 | .seq _::ks,r=>Is tb ks r
 | .blk id::ks,(.exit id',f,h)=>if id'=id then Is tb ks (.normal,f,h)else Is tb ks (.exit id',f,h)
 | .blk _::ks,r=>Is tb ks r
abbrev Oj(ρ:Type):=R7→ρ→Ex→Fr→Az→Prop
structure Aa(tb:Di)(Γ:Cx)(c:AC)(ks:List Kf){ρ:Type}(Q:Oj ρ) where
 m:Option ρ
 ok: ∀E f H,Rel E Γ f H→ ∀r,m=some r→ ∃e f' H',(Bj tb (CC tb) c f H).bind (Is tb ks)=some (e,f',H')∧Q E r e f' H'
def rg(q:Bool)(l:List Br):AC:=if q then .regq l else .reg l
section
variable{tb:Di}{Γ:Cx}{ks:List Kf}{ρ:Type}{Q:Oj ρ}
def Aa.of{c c':AC}{ks':List Kf}(h: ∀f H,(Bj tb (CC tb) c' f H).bind (Is tb ks')=(Bj tb (CC tb) c f H).bind (Is tb ks))(s:Aa tb Γ c ks Q):Aa tb Γ c' ks' Q:=
 ⟨s.m,fun E f H R r hr=>by rw[h];exact s.ok E f H R r hr⟩
def Aa.weak{c:AC}{Γ':Cx}(s:Aa tb Γ' c ks Q)(h:Sub Γ' Γ):Aa tb Γ c ks Q:=
 ⟨s.m,fun E f H ⟨rv,fp,I⟩ r hr=>s.ok E f H ⟨rv,fp,I.sub h⟩ r hr⟩
def Aa.turn{c:AC}{Γ':Cx}(h: ∀E f H,Rel E Γ f H→Rel E Γ' f H)(s:Aa tb Γ' c ks Q):Aa tb Γ c ks Q:=
 ⟨s.m,fun E f H R r hr=>s.ok E f H (h E f H R) r hr⟩
def Aa.frzRow{c:AC}(j:Nat){t:T}{g:GS t.α}(h:AM Γ.ss j=some (.row t g))(hn:je j iT=true)(s:Aa tb (Γ.turn j (rowF t g)) c ks Q):Aa tb Γ c ks Q:=
 s.turn fun _ _ _ ⟨rv,fp,I⟩=>⟨rv,fp,I.frzRow h hn⟩
theorem DN{q:Bool}{f:Fr}{H:Az}:Bj tb (CC tb) (rg q []) f H=some (.normal,f,H):=by
 cases q<;>simp[rg,Bj,ops,I9]
def Af{x y:AC}(s:Aa tb Γ x (.seq y::ks) Q):Aa tb Γ (.seq x y) ks Q:=
 s.of fun f H=>by
  simp only[Bj]
  cases Bj tb (CC tb) x f H with
  |none=>rfl
  |some p=>obtain⟨e,f',H'⟩:=p;cases e<;>simp[Is]
def Av{id:Nat}{x:AC}(s:Aa tb Γ x (.blk id::ks) Q):Aa tb Γ (.blk id x) ks Q:=
 s.of fun f H=>by
  simp only[Bj]
  cases Bj tb (CC tb) x f H with
  |none=>rfl
  |some p=>
   obtain⟨e,f',H'⟩:=p
   cases e<;>simp[Is]
   split<;>simp
def Ac{q:Bool}{y:AC}(s:Aa tb Γ y ks Q):Aa tb Γ (rg q []) (.seq y::ks) Q:=
 s.of fun f H=>by simp[DN,Is]
def A5{q:Bool}{id:Nat}(s:Aa tb Γ (rg q []) ks Q):Aa tb Γ (rg q []) (.blk id::ks) Q:=
 s.of fun f H=>by simp[DN,Is]
def Aa.skip(s:Aa tb Γ (rg false []) ks Q):Aa tb Γ .skip ks Q:=
 s.of fun f H=>by simp[DN,Bj]
def AB{id:Nat}{y:AC}(s:Aa tb Γ (.exit id) ks Q):Aa tb Γ (.exit id) (.seq y::ks) Q:=
 s.of fun f H=>by simp[Bj,Is]
def AN{id:Nat}(s:Aa tb Γ (rg false []) ks Q):Aa tb Γ (.exit id) (.blk id::ks) Q:=
 s.of fun f H=>by simp[Bj,Is,DN]
def Aa0{id id':Nat}(h:fv id id'=false)(s:Aa tb Γ (.exit id) ks Q):Aa tb Γ (.exit id) (.blk id'::ks) Q:=
 s.of fun f H=>by
  have:id≠id':=by rintro rfl;simp[lu]at h
  simp[Bj,Is,this]
theorem YH{f:Fr}{H:Az}: ∀ks:List Kf,Is tb ks (.ret,f,H)=some (.ret,f,H)
 |[]=>rfl
 | .seq _::ks=>by simp[Is,YH ks]
 | .blk _::ks=>by simp[Is,YH ks]
def Cd(tb:Di)(Γ:Cx)(a:AO)(φ:AW):Prop:= ∀E rv fp f H,B8 E Γ rv fp f H→FR rv Γ.ss (Pf E Γ.ss fp H) H φ (eval tb f a)
def Fa(tb:Di)(Γ:Cx)(o:HB){β:Type}(a:Option β)(φ:β→AW):Prop:=
 ∀E rv fp f H,B8 E Γ rv fp f H→ ∀b,a=some b→ ∃v u,BC tb (CC tb) (eval tb f) H o=some (v,u)∧u.getD H=H∧FR rv Γ.ss (Pf E Γ.ss fp H) H (φ b) v
theorem Ej{q:Bool}{d:Option Nat}{o:HB}{l:List Br}{f:Fr}{H:Az}{v:AV}{u:Option Az}(h:BC tb (CC tb) (eval tb f) H o=some (v,u))(hu:u.getD H=H):
  Bj tb (CC tb) (rg q (⟨d,none,o⟩::l)) f H=Bj tb (CC tb) (rg q l) (put f d v) H:=by
 cases q<;>simp[rg,Bj,ops,I9,wanted,h,hu]
theorem Lj{d:Option Nat}{o:HB}{l:List Br}{f:Fr}{H:Az}{v:AV}{u:Option Az}(h:BC tb (CC tb) (eval tb f) H o=some (v,u)):
  Bj tb (CC tb) (rg false (⟨d,none,o⟩::l)) f H=Bj tb (CC tb) (rg false l) (put f d v) (u.getD H):=by
 simp[rg,Bj,ops,wanted,h]
def Aa.op{q:Bool}{d:Nat}{o:HB}{l:List Br}{β:Type}{a:Option β}{φ:β→AW}(h:Fa tb Γ o a φ)(k:(b:β)→Aa tb (Γ.push d (φ b)) (rg q l) ks Q):Aa tb Γ (rg q (⟨some d,none,o⟩::l)) ks Q:=
 ⟨a.bind fun b=>(k b).m,fun E f H ⟨rv,fp,I⟩ r hr=>by
  obtain⟨b,hb,hr⟩:=ab.1 hr
  obtain⟨v,u,h1,h2,h3⟩:=h E rv fp f H I b hb
  obtain⟨e,f',H',h4,h5⟩:=(k b).ok E (put f (some d) v) H ⟨rv,fp,I.push h3⟩ r hr
  exact⟨e,f',H',by rw[Ej h1 h2];exact h4,h5⟩⟩
def Ad{q:Bool}{d:Nat}{o:HB}{l:List Br}{φ:AW}(h:Fa tb Γ o (some ()) fun _=>φ)(k:Aa tb (Γ.push d φ) (rg q l) ks Q):Aa tb Γ (rg q (⟨some d,none,o⟩::l)) ks Q:=
 ⟨k.m,fun E f H ⟨rv,fp,I⟩ r hr=>by
  obtain⟨v,u,h1,h2,h3⟩:=h E rv fp f H I () rfl
  obtain⟨e,f',H',h4,h5⟩:=k.ok E (put f (some d) v) H ⟨rv,fp,I.push h3⟩ r hr
  exact⟨e,f',H',by rw[Ej h1 h2];exact h4,h5⟩⟩
def An{q:Bool}{d:Nat}{o:HB}{l:List Br}{t:T}{x:t.α}(h:Fa tb Γ o (some ()) fun _=> .val t x)(k:(y:t.α)→Aa tb (Γ.push d (.val t y)) (rg q l) ks Q):Aa tb Γ (rg q (⟨some d,none,o⟩::l)) ks Q:=
 Ad h (k x)
def XN(tb:Di)(Γ:Cx)(d:Option Nat)(o:HB){β:Type}(a:Option β)(Γ':β→Cx):Prop:=
 ∀E rv fp f H,B8 E Γ rv fp f H→ ∀b,a=some b→ ∃v u,BC tb (CC tb) (eval tb f) H o=some (v,u)∧ ∃rv' fp',B8 E (Γ' b) rv' fp' (put f d v) (u.getD H)
def By{d:Option Nat}{o:HB}{l:List Br}{β:Type}{a:Option β}{Γ':β→Cx}(h:XN tb Γ d o a Γ')(k:(b:β)→Aa tb (Γ' b) (rg false l) ks Q):Aa tb Γ (rg false (⟨d,none,o⟩::l)) ks Q:=
 ⟨a.bind fun b=>(k b).m,fun E f H ⟨rv,fp,I⟩ r hr=>by
  obtain⟨b,hb,hr⟩:=ab.1 hr
  obtain⟨v,u,h1,rv',fp',h3⟩:=h E rv fp f H I b hb
  obtain⟨e,f',H',h4,h5⟩:=(k b).ok E _ _ ⟨rv',fp',h3⟩ r hr
  exact⟨e,f',H',by rw[Lj h1];exact h4,h5⟩⟩
def Aa.stop{c:AC}:Aa tb Γ c ks Q:=⟨Option.none,fun _ _ _ _ _ h=>(by cases h)⟩
def Aa.join{c:AC}{τ:Type}(Γj:τ→Cx)(k:(p:τ)→Aa tb (Γj p) (rg false []) ks Q)(main:((p:τ)→Aa tb (Γj p) (rg false []) ks Q)→Aa tb Γ c ks Q):Aa tb Γ c ks Q:=main k
theorem F1{P:Nat→Prop}{H:Az}{v:AV}{x:Bool}:T.b.V P H v x↔v= .b x:=R5
theorem BX{k:IntKind}{P:Nat→Prop}{H:Az}{v:AV}{x:Int}:(T.int k).V P H v x↔v= .i k x:=R5
theorem Ep{P:Nat→Prop}{H:Az}{v:AV}{x:AG}:Ak.V P H v x↔v= .s x:=R5
theorem Wj{P:Nat→Prop}{H:Az}{v:AV}{x:UInt8}:T.u8.V P H v x↔v= .i .u8 x.toNat:=R5
theorem kY{P:Nat→Prop}{H:Az}{v:AV}{x:UInt16}:T.u16.V P H v x↔v= .i .u16 x.toNat:=R5
theorem kX{P:Nat→Prop}{H:Az}{v:AV}{x:UInt32}:T.u32.V P H v x↔v= .i .u32 x.toNat:=R5
theorem kW{P:Nat→Prop}{H:Az}{v:AV}{x:UInt64}:T.u64.V P H v x↔v= .i .u64 x.toNat:=R5
def Aa.cond{a:AO}{b:Bool}{x y:AC}(h:Cd tb Γ a (.val T.b b))(s:Aa tb Γ x ks Q)(s':Aa tb Γ y ks Q):Aa tb Γ (.cond a x y) ks Q:=
 ⟨if b=true then s.m else s'.m,fun E f H ⟨rv,fp,I⟩ r hr=>by
  have hv:=F1.1 (h E rv fp f H I)
  cases b with
  |true=>
   obtain⟨e,f',H',h4,h5⟩:=s.ok E f H ⟨rv,fp,I⟩ r (by simpa using hr)
   exact⟨e,f',H',by simp only[Bj,hv,qt];exact h4,h5⟩
  |false=>
   obtain⟨e,f',H',h4,h5⟩:=s'.ok E f H ⟨rv,fp,I⟩ r (by simpa using hr)
   exact⟨e,f',H',by simp only[Bj,hv,au,qu];exact h4,h5⟩⟩
def qF(tb:Di){σ τ:Type}(Γl:σ→Cx)(Γx:τ→Cx)(id:Nat)(ks:List Kf)(Q:Oj ρ):Oj (σ⊕(τ⊕ρ)):=fun E r e f H=>
 match r with
 | .inl s=>e= .normal∧Rel E (Γl s) f H
 | .inr (.inl p)=>e= .exit id∧Rel E (Γx p) f H
 | .inr (.inr r)=>e≠ .normal∧ ∃e' f' H',Is tb ks (e,f,H)=some (e',f',H')∧Q E r e' f' H'
theorem Th: ∀{l:List Nat} {f:Fr} {t:Nat},t∈l→get (keepL l f) t=get f t
 |u::l,f,t,h=>by
  simp only[keepL,bn,get]
  by_cases e:u=t
  ·subst e;rw[qn rfl]
  ·rw[qo e]
   rcases bu.1 h with e'|h
   ·exact absurd e'.symm e
   ·exact Th h
def nE(l:List Nat)(ts:Ts):Bool:=ts.all fun p=>l.any (fv p.1)
theorem Zk{l:List Nat}: ∀{ts:Ts} {t:Nat} {φ:AW},nE l ts=true→BM ts t=some φ→t∈l
 |[],_,_,_,e=>by simp[BM]at e
 |(u,ψ)::r,t,φ,h,e=>by
  simp only[nE,fc,af]at h
  simp only[BM]at e
  split at e
  ·rename_i hu
   subst hu
   obtain⟨x,hx,hb⟩:=kd.1 h.1
   have hb':u=x:=cv hb
   exact hb'▸hx
  ·exact Zk h.2 e
theorem Rel.keep{E:R7}{f:Fr}{H:Az}{l:List Nat}(h:nE l Γ.ts=true):Rel E Γ f H→Rel E Γ (keepL l f) H
 |⟨rv,fp,I⟩=>⟨rv,fp,I.fr fun _ _ e=>Th (Zk h e)⟩
noncomputable def Aa.loop{σ τ:Type}{lv:List Nat}{x:AC}{id:Nat}(Γl:σ→Cx)(Γx:τ→Cx)(s0:σ)(h0:Sub (Γl s0) Γ)(hl: ∀s,nE lv (Γl s).ts=true)
  (body:(s:σ)→Aa tb (Γl s) x [] (qF tb Γl Γx id ks Q)) (k:(p:τ)→Aa tb (Γx p) (.exit id) ks Q):Aa tb Γ (.loop lv x) ks Q:=
 ⟨(iter (fun s=>(body s).m) s0).bind (a8 (fun p=>(k p).m) some),fun E f H ⟨rv,fp,I⟩ r hr=>by
  obtain⟨b,hb,hr⟩:=ab.1 hr
  obtain⟨n,hn⟩:=V8 hb
  have key: ∀n s f H,Rel E (Γl s) f H→Ly (fun s=>(body s).m) n s=some b→ ∃e f' H',S9 (Lu lv (Bj tb (CC tb) x)) n f H=some (e,f',H')∧e≠ .normal∧qF tb Γl Γx id ks Q E (.inr b) e f' H':=by
   intro n
   induction n with
   |zero=>intro s f H _ h;simp[Ly]at h
   |succ n ih=>
    intro s f H R h
    simp only[Ly]at h
    obtain⟨r1,h1,h⟩:=ab.1 h
    obtain⟨e,f',H',h2,h3⟩:=(body s).ok E (keepL lv f) H (R.keep (hl s)) r1 h1
    have h2':Bj tb (CC tb) x (keepL lv f) H=some (e,f',H'):=by
     obtain⟨p,hp,h2⟩:=ab.1 h2
     rw[hp,←h2];rfl
    cases r1 with
    |inl s'=>
     obtain⟨rfl,R'⟩:=h3
     obtain⟨e2,f2,H2,h4,h5⟩:=ih s' (keepL lv f') H' (R'.keep (hl s')) h
     exact⟨e2,f2,H2,by simp only[S9,Lu,h2',an];exact h4,h5⟩
    |inr b'=>
     simp only[ae]at h
     subst h
     have hne:e≠ .normal:=by
      cases b' with
      |inl p=>rw[h3.1];simp
      |inr r=>exact h3.1
     refine⟨e,f',H',?_,hne,h3⟩
     simp only[S9,Lu,h2',an]
     cases e<;>first|exact absurd rfl hne|rfl
  obtain⟨e,f1,H1,h1,h2,h3⟩:=key n s0 f H ⟨rv,fp,I.sub h0⟩ hn
  have hlp:Bj tb (CC tb) (.loop lv x) f H=some (e,f1,H1):=by
   simp only[Bj]
   exact Zj _ h1
  rw[hlp]
  cases b with
  |inr r'=>
   simp only[pa,ae]at hr
   subst hr
   exact h3.2
  |inl p=>
   obtain⟨rfl,R⟩:=h3
   simp only[fj]at hr
   obtain⟨e2,f2,H2,h4,h5⟩:=(k p).ok E f1 H1 R r hr
   exact⟨e2,f2,H2,by simpa [Bj]using h4,h5⟩⟩
def Aa.next{q:Bool}{σ τ:Type}{Γl:σ→Cx}{Γx:τ→Cx}{id:Nat}(s:σ)(h:Sub (Γl s) Γ):Aa tb Γ (rg q []) [] (qF tb Γl Γx id ks Q):=
 ⟨some (.inl s),fun E f H ⟨rv,fp,I⟩ r hr=>by
  cases hr
  exact⟨.normal,f,H,by simp[DN,Is],rfl,rv,fp,I.sub h⟩⟩
def B9{σ τ:Type}{Γl:σ→Cx}{Γx:τ→Cx}{id:Nat}(p:τ)(h:Sub (Γx p) Γ):Aa tb Γ (.exit id) [] (qF tb Γl Γx id ks Q):=
 ⟨some (.inr (.inl p)),fun E f H ⟨rv,fp,I⟩ r hr=>by
  cases hr
  exact⟨.exit id,f,H,by simp[Bj,Is],rfl,rv,fp,I.sub h⟩⟩
def UR(s:Aa tb Γ .ret [] Q):Aa tb Γ .ret ks Q:=
 s.of fun f H=>by simp[Bj,YH,Is]
def B1{σ τ:Type}{Γl:σ→Cx}{Γx:τ→Cx}{id:Nat}{ks':List Kf}(s:Aa tb Γ .ret ks Q):Aa tb Γ .ret ks' (qF tb Γl Γx id ks Q):=
 UR ⟨s.m.map fun r=> .inr (.inr r),fun E f H R r hr=>by
  obtain⟨r',h1,rfl⟩:=aj.1 hr
  obtain⟨e,f',H',h2,h3⟩:=s.ok E f H R r' h1
  refine⟨.ret,f,H,by simp[Bj,Is],by simp,e,f',H',?_,h3⟩
  simpa [Bj]using h2⟩
end
end
section
def Cl:List T→Type
 |[]=>Unit
 |[a]=>a.α
 |a::b::r=>a.α×Cl (b::r)
def TK(P:Nat→Prop)(H:Az):(l:List T)→List AV→Cl l→Prop
 |[],vs,_=>vs=[]
 |[a],vs,x=> ∃v,vs=[v]∧a.V P H v x
 |a::b::r,vs,x=> ∃v q,vs=v::q∧a.V P H v x.1∧TK P H (b::r) q x.2
def OutR(P:Nat→Prop)(H:Az)(l:List T)(v:AV)(x:Cl l):Prop:= ∃vs,v=GN vs∧TK P H l vs x
structure CallR(tb:Di)(g:Nat)(P:Nat→Prop)(h:Az)(args:List AV)(Rs:List T)(r:Cl Rs):Prop where
 call: ∃v u,BK tb (CC tb) h g args=some (v,u)∧u.getD h=h∧OutR P h Rs v r
def Spec(tb:Di)(g:Nat)(As Rs:List T)(F:Cl As→Option (Cl Rs)):Prop:=
 ∀(P:Nat→Prop) (h:Az) (args:List AV) (xs:Cl As),(∀i,P i→i<h.length)→D1 h≤h.length→TK P h As args xs→ ∀r,F xs=some r→CallR tb g P h args Rs r
section
variable{tb:Di}
theorem TK.mono{P Q:Nat→Prop}{H G:Az}(m: ∀i,P i→Q i∧G[i]? =H[i]?): ∀{l:List T} {vs:List AV} {x:Cl l},TK P H l vs x→TK Q G l vs x
 |[],_,_,h=>h
 |[a],_,_,⟨v,e,h⟩=>⟨v,e,h.mono m⟩
 |_::_::_,_,_,⟨v,q,e,h,g⟩=>⟨v,q,e,h.mono m,TK.mono m g⟩
theorem TK.frz{P Q:Nat→Prop}{H:Az}{n:Nat}(hw:D1 (H.take n)≤n)(hp: ∀i,P i→i<n→Q i): ∀{l:List T} {vs:List AV} {x:Cl l},(∀t∈l,t.dep≤11)→TK P H l vs x→
  ∃vs',jI H n vs=some vs'∧TK Q (H.take n) l vs' x
 |[],_,_,_,h=>by rw[show _=[]from h];exact⟨[],rfl,rfl⟩
 |[a],_,_,hd,⟨v,e,h⟩=>by
  obtain⟨v',e',r⟩:=h.frz (d:=11) (hd a bj) (by omega) hw hp
  exact⟨[v'],by rw[e];simp[jI,DY,e'],v',rfl,r⟩
 |a::b::l,_,_,hd,⟨v,q,e,h,g⟩=>by
  obtain⟨v',e',r⟩:=h.frz (d:=11) (hd a bj) (by omega) hw hp
  obtain⟨q',e2,r2⟩:=TK.frz hw hp (fun t ht=>hd t (bg _ ht)) g
  refine⟨v'::q',?_,v',q',rfl,r,r2⟩
  have e2':DY (Am.frz H n 12) q=some q':=e2
  rw[e];simp[jI,DY,e',e2']
def ResR(E:R7)(Rs:List T)(res:List LG)(r:Cl Rs)(f:Fr)(H:Az):Prop:=
 ∃P vs,(∀i,P i→i<E.h.length→E.P0 i)∧results f H res=some vs∧TK P H Rs vs r∧E.h.length≤H.length∧ ∀i,i<E.h.length→E.K i→H[i]? =E.h[i]?
def QRes(Rs:List T)(res:List LG):Oj (Cl Rs):=fun E r e f H=>(e= .ret∨e= .normal)∧ResR E Rs res r f H
def Aa1(Γ:Cx)(a:LG)(t:T)(x:t.α):Prop:=
 ∀E rv fp f H,B8 E Γ rv fp f H→ ∀r vs,results f H r=some vs→ ∃v,results f H (a::r)=some (v::vs)∧t.V (Pf E Γ.ss fp H) H v x
inductive qE(Γ:Cx):(Rs:List T)→List LG→Cl Rs→Type 1 where
 |nil:qE Γ [] [] ()
 |one {a:LG} {t:T} {x:t.α}:Aa1 Γ a t x→qE Γ [t] [a] x
 |cons {a:LG} {t u:T} {x:t.α} {Rs:List T} {l:List LG} {y:Cl (u::Rs)}:Aa1 Γ a t x→qE Γ (u::Rs) l y→qE Γ (t::u::Rs) (a::l) (x,y)
theorem qE.spec{Γ:Cx}{E:R7}{rv:Nat→AV}{fp:Fp}{f:Fr}{H:Az}(I:B8 E Γ rv fp f H): ∀{Rs:List T} {l:List LG} {y:Cl Rs},qE Γ Rs l y→ ∃vs,results f H l=some vs∧TK (Pf E Γ.ss fp H) H Rs vs y
 |_,_,_, .nil=>⟨[],rfl,rfl⟩
 |_,_,_, .one h=>by
  obtain⟨v,h1,h2⟩:=h E rv fp f H I [] [] rfl
  exact⟨[v],h1,v,rfl,h2⟩
 |_,_,_, .cons h r=>by
  obtain⟨vs,g1,g2⟩:=r.spec I
  obtain⟨v,h1,h2⟩:=h E rv fp f H I _ vs g1
  exact⟨v::vs,h1,v,vs,rfl,h2,g2⟩
def Aa.ret{Γ:Cx}{ks:List Kf}{Rs:List T}{res:List LG}{r:Cl Rs}(h:qE Γ Rs res r):Aa tb Γ .ret ks (QRes Rs res):=
 UR ⟨some r,fun E f H ⟨rv,fp,I⟩ r' hr=>by
  cases hr
  obtain⟨vs,h1,h2⟩:=h.spec I
  refine⟨.ret,f,H,by simp[Bj,Is], .inl rfl,Pf E Γ.ss fp H,vs,?_,h1,h2,I.le,I.base⟩
  rintro i (h|h) hi
  ·exact h.2
  ·omega⟩
def Aa.fin{Γ:Cx}{q:Bool}{Rs:List T}{res:List LG}{r:Cl Rs}(h:qE Γ Rs res r):Aa tb Γ (rg q []) [] (QRes Rs res):=
 ⟨some r,fun E f H ⟨rv,fp,I⟩ r' hr=>by
  cases hr
  obtain⟨vs,h1,h2⟩:=h.spec I
  refine⟨.normal,f,H,by simp[DN,Is], .inr rfl,Pf E Γ.ss fp H,vs,?_,h1,h2,I.le,I.base⟩
  rintro i (h|h) hi
  ·exact h.2
  ·omega⟩
theorem Ax{Γ:Cx}{n:Nat}{t:T}{x:t.α}(h:BM Γ.ts n=some (.val t x)):Aa1 Γ (.tmp n) t x:=by
 intro E rv fp f H I r vs hr
 exact⟨_,by simp[results,hr],I.temps n _ h⟩
def Xb:(l:List T)→Nat→Cl l→Ts
 |[],_,_=>[]
 |[a],k,x=>[(k, .val a x)]
 |a::b::r,k,x=>(k, .val a x.1)::Xb (b::r) (k+1) x.2
theorem fQ{P:Nat→Prop}{H:Az}{rv:Nat→AV}{ss:Ss}: ∀{l:List T} {vs:List AV} {k:Nat} {x:Cl l},TK P H l vs x→ ∀t φ,BM (Xb l k x) t=some φ→k≤t∧FR rv ss P H φ (get ((vs.zipIdx k).map fun p=>(p.2,p.1)) t)
 |[],_,_,_,_,t,φ,e=>by simp[Xb,BM]at e
 |[a],_,k,x,⟨v,rfl,h⟩,t,φ,e=>by
  simp only[Xb,BM]at e
  split at e
  ·rename_i hk
   cases e
   subst hk
   exact⟨be _,by simpa [get,FR]using h⟩
  ·cases e
 |a::b::r,_,k,x,⟨v,q,rfl,h,g⟩,t,φ,e=>by
  simp only[Xb,BM]at e
  simp only[ke,bn,get]
  split at e
  ·rename_i hk
   cases e
   subst hk
   exact⟨be _,by rw[qn rfl];exact h⟩
  ·rename_i hk
   obtain⟨h1,h2⟩:=fQ g t φ e
   exact⟨by omega,by rw[qo hk];exact h2⟩
theorem TK.length{P:Nat→Prop}{H:Az}: ∀{l:List T} {vs:List AV} {x:Cl l},TK P H l vs x→vs.length=l.length
 |[],_,_,h=>by rw[show _=[]from h];rfl
 |[a],_,_,⟨v,rfl,h⟩=>rfl
 |a::b::r,_,_,⟨v,q,rfl,h,g⟩=>by simp[TK.length g]
theorem Spec.of{g:Nat}{fn:CI}{As Rs:List T}(hf:tb.prim g=none∧tb.fns g=some fn)(hw:fn.warm=false)(hn:fn.np=As.length)(hd:Rs.all (fun t=>oe t.dep 11)=true)
  (s:(xs:Cl As)→Aa tb ⟨Xb As 0 xs,[]⟩ fn.body [] (QRes Rs fn.res)):Spec tb g As Rs fun xs=>(s xs).m:=by
 intro P h args xs hP hwf hargs r hr
 let E:R7:=⟨h,P,fun _=>True,hP,fun _ _=>trivial,fun _=> .junk⟩
 have hPf: ∀i,P i→Pf E [] (fun _ _=>False) h i∧h[i]? =h[i]? :=fun i hi=>⟨.inl ⟨hP i hi,hi⟩,rfl⟩
 have I:B8 E ⟨Xb As 0 xs,[]⟩ (fun _=> .junk) (fun _ _=>False) (args.zipIdx.map fun p=>(p.2,p.1)) h:=by
  refine⟨be _,fun _ _ _=>rfl,hwf,fun j id l=>l.elim,fun j l=>l.elim,fun j l=>l.elim,fun j k id l=>l.elim,fun j S e=>by simp[AM]at e,fun t φ e=> ?_,fun j φ e=>by simp[AM]at e⟩
  exact(fQ (hargs.mono hPf) t φ e).2
 obtain⟨e,f',H',h1,he,P',vs,hP',h2,h3,hle,hbase⟩:=(s xs).ok E _ h ⟨_,_,I⟩ r hr
 have h4:H'.take h.length=h:=by
  apply ii
  intro i
  rw[dp]
  split
  ·rename_i hi;exact hbase i hi trivial
  ·rename_i hi;rw[f9 (by omega)]
 have h1':Bj tb (CC tb) fn.body (args.zipIdx.map fun p=>(p.2,p.1)) h=some (e,f',H'):=by
  obtain⟨p,hp,h1⟩:=ab.1 h1
  rw[hp,←h1];rfl
 have hwf':D1 (H'.take h.length)≤h.length:=by rw[h4];exact hwf
 obtain⟨vs',h5,h6⟩:=h3.frz hwf' hP' fun t ht=>i7 (cd.1 hd t ht)
 have hbody:body tb (CC tb) fn args h=some (GN vs',some h):=by
  have hnp:args.length=fn.np:=by rw[hn,hargs.length]
  simp only[body,hnp,qt,h1',aa]
  have hq:YX fn.warm h.length H' vs=(GN vs',some h):=by
   rw[hw]
   simp only[YX,Zn,h5]
   rw[qn hwf',h4]
  rcases he with rfl|rfl
  ·simp[h2,hq]
  ·simp[h2,hq]
 refine⟨GN vs',some h,?_,rfl,vs',rfl,by rw[h4]at h6;exact h6⟩
 simp only[BK,hf.1]
 rw[Rb,hf.2]
 simp only[aa]
 exact hbody
end
end
section
section
variable{tb:Di}{Γ:Cx}
theorem BT{n:Nat}{φ:AW}(h:BM Γ.ts n=some φ):Cd tb Γ (.t n) φ:=fun _ _ _ _ _ I=>I.temps n φ h
def findD(ts:Ts)(n:Nat):AW:=match BM ts n with
 |some φ=>φ
 |none=> .junk
theorem Ah{n:Nat}:Cd tb Γ (.t n) (findD Γ.ts n):=fun E rv fp f H I=>by
 unfold findD
 cases h:BM Γ.ts n with
 |none=>trivial
 |some φ=>exact I.temps n φ h
theorem r_{α:Sort _}{a:α}:a=a:=rfl
theorem AA{k:IntKind}{n:Int}:Cd tb Γ (.k (.i k n)) (.val (T.int k) n):=fun _ _ _ _ _ _=>BX.2 rfl
theorem Dy{x:Bool}:Cd tb Γ (.k (.b x)) (.val T.b x):=fun _ _ _ _ _ _=>F1.2 rfl
theorem Cy{x:AG}:Cd tb Γ (.k (.s x)) (.val Ak x):=fun _ _ _ _ _ _=>Ep.2 rfl
theorem Jj{n:Int}(x:UInt8)(h:n=x.toNat):Cd tb Γ (.k (.i .u8 n)) (.val T.u8 x):=fun _ _ _ _ _ _=>Wj.2 (by rw[h];rfl)
theorem W4{n:Int}(x:UInt16)(h:n=x.toNat):Cd tb Γ (.k (.i .u16 n)) (.val T.u16 x):=fun _ _ _ _ _ _=>kY.2 (by rw[h];rfl)
theorem Gv{n:Int}(x:UInt32)(h:n=x.toNat):Cd tb Γ (.k (.i .u32 n)) (.val T.u32 x):=fun _ _ _ _ _ _=>kX.2 (by rw[h];rfl)
theorem Dz{n:Int}(x:UInt64)(h:n=x.toNat):Cd tb Γ (.k (.i .u64 n)) (.val T.u64 x):=fun _ _ _ _ _ _=>kW.2 (by rw[h];rfl)
theorem Cz{t:T}:Cd tb Γ (.k .nils) (.val (T.sl t) .nil):=fun _ _ _ _ _ _=>Iy.2 rfl
theorem Ap{a:AO}{φ:AW}(h:Cd tb Γ a φ):Fa tb Γ (.mv a) (some ()) fun _=>φ:=
 fun E rv fp f H I _ _=>⟨_,none,rfl,rfl,h E rv fp f H I⟩
structure IT where
 t:T
 k:IntKind
 toI:t.α→Int
 ofI:Int→t.α
 V: ∀{P:Nat→Prop} {H:Az} {v:AV} {x:t.α},t.V P H v x↔v= .i k (toI x)
 h: ∀n,toI (ofI n)=k.wrap n
theorem uQ(n:Int):IntKind.u8.wrap n=n%256:=by simp[ql,f4,j4]
theorem lJ(n:Int):IntKind.u16.wrap n=n%65536:=by simp[ql,f4,j4]
theorem lI(n:Int):IntKind.u32.wrap n=n%4294967296:=by simp[ql,f4,j4]
theorem lH(n:Int):IntKind.u64.wrap n=n%18446744073709551616:=by simp[ql,f4,j4]
def IT.int(k:IntKind):IT:=⟨T.int k,k,fun x=>x,k.wrap,BX,fun _=>rfl⟩
def IT.u8:IT:=⟨T.u8, .u8,fun x:UInt8=>(x.toNat:Int),fun n=>bc (n%256).toNat,Wj,fun n=>by
 rw[uQ,fk];omega⟩
def IT.u16:IT:=⟨T.u16, .u16,fun x:UInt16=>(x.toNat:Int),fun n=>bw (n%65536).toNat,kY,fun n=>by
 rw[lJ,gn];omega⟩
def IT.u32:IT:=⟨T.u32, .u32,fun x:UInt32=>(x.toNat:Int),fun n=>pb (n%4294967296).toNat,kX,fun n=>by
 rw[lI,UInt32.toNat_ofNat'];omega⟩
def IT.u64:IT:=⟨T.u64, .u64,fun x:UInt64=>(x.toNat:Int),fun n=>ei (n%18446744073709551616).toNat,kW,fun n=>by
 rw[lH,io];omega⟩
theorem Mm{rv:Nat→AV}{ss:Ss}{P:Nat→Prop}{H:Az}{I:IT}{x:I.t.α}{v:AV}(h:FR rv ss P H (.val I.t x) v):v= .i I.k (I.toI x):=I.V.1 h
theorem SF{rv:Nat→AV}{ss:Ss}{P:Nat→Prop}{H:Az}(I:IT){n:Int}:FR rv ss P H (.val I.t (I.ofI n)) (.i I.k (I.k.wrap n)):=I.V.2 (by rw[I.h])
section
variable{I J:IT}{x y:I.t.α}{a b:AO}
theorem AP(ha:Cd tb Γ a (.val I.t x))(hb:Cd tb Γ b (.val I.t y)):Fa tb Γ (.bin .add a b) (some (I.ofI (I.toI x+I.toI y))) fun z=> .val I.t z:=by
 rintro E rv fp f H R z ⟨⟩
 exact⟨_,none,by simp only[BC,Mm (ha E rv fp f H R),Mm (hb E rv fp f H R),bin,qt];rfl,rfl,SF I⟩
theorem DL(ha:Cd tb Γ a (.val I.t x))(hb:Cd tb Γ b (.val I.t y)):Fa tb Γ (.bin .sub a b) (some (I.ofI (I.toI x-I.toI y))) fun z=> .val I.t z:=by
 rintro E rv fp f H R z ⟨⟩
 exact⟨_,none,by simp only[BC,Mm (ha E rv fp f H R),Mm (hb E rv fp f H R),bin,qt];rfl,rfl,SF I⟩
theorem Gk(ha:Cd tb Γ a (.val I.t x))(hb:Cd tb Γ b (.val I.t y)):Fa tb Γ (.bin .mul a b) (some (I.ofI (I.toI x*I.toI y))) fun z=> .val I.t z:=by
 rintro E rv fp f H R z ⟨⟩
 exact⟨_,none,by simp only[BC,Mm (ha E rv fp f H R),Mm (hb E rv fp f H R),bin,qt];rfl,rfl,SF I⟩
theorem N2(ha:Cd tb Γ a (.val I.t x))(hb:Cd tb Γ b (.val I.t y)):Fa tb Γ (.bin .quo a b) (if I.toI y=0 then none else some (I.ofI ((I.toI x).tdiv (I.toI y)))) fun z=> .val I.t z:=by
 intro E rv fp f H R z hz
 split at hz
 ·cases hz
 ·rename_i h0
  cases hz
  exact⟨_,none,by simp only[BC,Mm (ha E rv fp f H R),Mm (hb E rv fp f H R),bin,qt,qo h0];rfl,rfl,SF I⟩
def FA(op:BinOp)(k:IntKind)(x y:Int):Int:=
 match op with
 | .and=>(cm k.bits x&&&cm k.bits y).toNat
 | .or=>(cm k.bits x|||cm k.bits y).toNat
 | .xor=>(cm k.bits x^^^cm k.bits y).toNat
 |_=>(cm k.bits x&&& ~~~(cm k.bits y)).toNat
theorem h_and(ha:Cd tb Γ a (.val I.t x))(hb:Cd tb Γ b (.val I.t y)):Fa tb Γ (.bin .and a b) (some (I.ofI (FA .and I.k (I.toI x) (I.toI y)))) fun z=> .val I.t z:=by
 rintro E rv fp f H R z ⟨⟩
 exact⟨_,none,by simp only[BC,Mm (ha E rv fp f H R),Mm (hb E rv fp f H R),bin,qt];rfl,rfl,SF I⟩
theorem sJ(ha:Cd tb Γ a (.val I.t x))(hb:Cd tb Γ b (.val I.t y)):Fa tb Γ (.bin .or a b) (some (I.ofI (FA .or I.k (I.toI x) (I.toI y)))) fun z=> .val I.t z:=by
 rintro E rv fp f H R z ⟨⟩
 exact⟨_,none,by simp only[BC,Mm (ha E rv fp f H R),Mm (hb E rv fp f H R),bin,qt];rfl,rfl,SF I⟩
theorem eY{y:J.t.α}(ha:Cd tb Γ a (.val I.t x))(hb:Cd tb Γ b (.val J.t y)):Fa tb Γ (.bin .shl a b) (if J.toI y<0 then none else some (I.ofI (I.toI x*2^(min (J.toI y).toNat I.k.bits)))) fun z=> .val I.t z:=by
 intro E rv fp f H R z hz
 split at hz
 ·cases hz
 ·rename_i h0
  cases hz
  exact⟨_,none,by simp only[BC,Mm (ha E rv fp f H R),Mm (hb E rv fp f H R),bin,qo h0];rfl,rfl,SF I⟩
def cmpI:BinOp→Int→Int→Bool
 | .eql,x,y=>decide (x=y)
 | .neq,x,y=> !decide (x=y)
 | .lss,x,y=>decide (x<y)
 | .leq,x,y=>decide (x≤y)
 | .gtr,x,y=>decide (y<x)
 |_,x,y=>decide (y≤x)
def vR:BinOp→Bool
 | .eql| .neq| .lss| .leq| .gtr| .geq=>true
 |_=>false
theorem bin_cmp{op:BinOp}{k:IntKind}{x y:Int}(h:vR op=true):bin op (.i k x) (.i k y)=some (.b (cmpI op x y)):=by
 cases op<;>simp only[vR,au]at h<;>simp only[bin,qt,cmpI]<;>rfl
theorem Eg{op:BinOp}(h:vR op=true)(ha:Cd tb Γ a (.val I.t x))(hb:Cd tb Γ b (.val I.t y)):Fa tb Γ (.bin op a b) (some (cmpI op (I.toI x) (I.toI y))) fun z=> .val T.b z:=by
 rintro E rv fp f H R z ⟨⟩
 exact⟨_,none,by simp only[BC,Mm (ha E rv fp f H R),Mm (hb E rv fp f H R),bin_cmp h];rfl,rfl,F1.2 rfl⟩
theorem Dt{k:IntKind}(hk:k=J.k)(ha:Cd tb Γ a (.val I.t x)):Fa tb Γ (.cvi k a) (some (J.ofI (I.toI x))) fun z=> .val J.t z:=by
 rintro E rv fp f H R z ⟨⟩
 subst hk
 exact⟨_,none,by simp only[BC,Mm (ha E rv fp f H R)],rfl,SF J⟩
theorem h_max{mx:Bool}(ha:Cd tb Γ a (.val I.t x))(hb:Cd tb Γ b (.val I.t y)):Fa tb Γ (.mnx mx a b) (some (if mx then(if I.toI y>I.toI x then y else x)else(if I.toI y<I.toI x then y else x))) fun z=> .val I.t z:=by
 rintro E rv fp f H R z ⟨⟩
 refine⟨_,none,by simp only[BC,Mm (ha E rv fp f H R),Mm (hb E rv fp f H R),qt];rfl,rfl,I.V.2 ?_⟩
 cases mx<;>simp only[qt,au,qu]<;>split<;>rfl
end
theorem eZ{k:IntKind}{x y:Int}{a b:AO}(ha:Cd tb Γ a (.val (T.int k) x))(hb:Cd tb Γ b (.val (T.int k) y)):Fa tb Γ (.bin .rem a b) (if y=0 then none else some (x.tmod y)) fun z=> .val (T.int k) z:=by
 intro E rv fp f H R z hz
 split at hz
 ·cases hz
 ·rename_i h0
  cases hz
  exact⟨_,none,by simp only[BC,BX.1 (ha E rv fp f H R),BX.1 (hb E rv fp f H R),bin,qt,qo h0];rfl,rfl,BX.2 rfl⟩
theorem h_shr{k:IntKind}{J:IT}{x:Int}{y:J.t.α}{a b:AO}(ha:Cd tb Γ a (.val (T.int k) x))(hb:Cd tb Γ b (.val J.t y)):Fa tb Γ (.bin .shr a b) (if J.toI y<0 then none else some (x.fdiv (2^(min (J.toI y).toNat k.bits)))) fun z=> .val (T.int k) z:=by
 intro E rv fp f H R z hz
 split at hz
 ·cases hz
 ·rename_i h0
  cases hz
  exact⟨_,none,by simp only[BC,BX.1 (ha E rv fp f H R),Mm (hb E rv fp f H R),bin,qo h0];rfl,rfl,BX.2 rfl⟩
structure NT extends IT where
 lt: ∀x,0≤toI x∧toI x<2^k.bits
 w: ∀n,0≤n→n<2^k.bits→k.wrap n=n
def NT.u8:NT:=⟨IT.u8,fun x=>⟨by simp[IT.u8],by have:x.toNat<256:=UInt8.toNat_lt x;simp only[IT.u8,f4];omega⟩,fun n h0 h1=>by simp only[IT.u8,f4]at*;rw[uQ];omega⟩
def NT.u16:NT:=⟨IT.u16,fun x=>⟨by simp[IT.u16],by have:x.toNat<65536:=UInt16.toNat_lt x;simp only[IT.u16,f4];omega⟩,fun n h0 h1=>by simp only[IT.u16,f4]at*;rw[lJ];omega⟩
def NT.u32:NT:=⟨IT.u32,fun x=>⟨by simp[IT.u32],by have:x.toNat<4294967296:=UInt32.toNat_lt x;simp only[IT.u32,f4];omega⟩,fun n h0 h1=>by simp only[IT.u32,f4]at*;rw[lI];omega⟩
def NT.u64:NT:=⟨IT.u64,fun x=>⟨by simp[IT.u64],by have:x.toNat<18446744073709551616:=UInt64.toNat_lt x;simp only[IT.u64,f4];omega⟩,fun n h0 h1=>by simp only[IT.u64,f4]at*;rw[lH];omega⟩
theorem QR{I:NT}{x y:I.t.α}{a b:AO}(ha:Cd tb Γ a (.val I.t x))(hb:Cd tb Γ b (.val I.t y)):Fa tb Γ (.bin .rem a b) (if I.toI y=0 then none else some (I.ofI ((I.toI x).tmod (I.toI y)))) fun z=> .val I.t z:=by
 intro E rv fp f H R z hz
 split at hz
 ·cases hz
 ·rename_i h0
  cases hz
  have h1:=I.lt x
  have h2:=I.lt y
  have hm:(I.toI x).tmod (I.toI y)=(I.toI x)%(I.toI y):=Int.tmod_eq_emod_of_nonneg h1.1
  have hw:=I.w ((I.toI x).tmod (I.toI y)) (by rw[hm];exact Int.emod_nonneg _ h0) (by rw[hm];exact Int.lt_of_lt_of_le (Int.emod_lt_of_pos _ (by omega)) (by omega))
  refine⟨_,none,by simp only[BC,Mm (I:=I.toIT) (ha E rv fp f H R),Mm (I:=I.toIT) (hb E rv fp f H R),bin,qt,qo h0];rfl,rfl,?_⟩
  have:=SF (rv:=rv) (ss:=Γ.ss) (P:=Pf E Γ.ss fp H) (H:=H) I.toIT (n:=(I.toI x).tmod (I.toI y))
  rwa [hw]at this
theorem VC{I:NT}{J:IT}{x:I.t.α}{y:J.t.α}{a b:AO}(ha:Cd tb Γ a (.val I.t x))(hb:Cd tb Γ b (.val J.t y)):Fa tb Γ (.bin .shr a b) (if J.toI y<0 then none else some (I.ofI ((I.toI x).fdiv (2^(min (J.toI y).toNat I.k.bits))))) fun z=> .val I.t z:=by
 intro E rv fp f H R z hz
 split at hz
 ·cases hz
 ·rename_i h0
  cases hz
  have h1:=I.lt x
  have hp:(0:Int)<2^(min (J.toI y).toNat I.k.bits):=by exact_mod_cast Nat.two_pow_pos _
  have hm:(I.toI x).fdiv (2^(min (J.toI y).toNat I.k.bits))=(I.toI x)/(2^(min (J.toI y).toNat I.k.bits)):=l7 _ (by omega)
  have hw:=I.w ((I.toI x).fdiv (2^(min (J.toI y).toNat I.k.bits))) (by rw[hm];exact Int.ediv_nonneg h1.1 (by omega)) (by rw[hm];exact Int.lt_of_le_of_lt (Int.ediv_le_self _ h1.1) h1.2)
  refine⟨_,none,by simp only[BC,Mm (I:=I.toIT) (ha E rv fp f H R),Mm (hb E rv fp f H R),bin,qo h0];rfl,rfl,?_⟩
  have:=SF (rv:=rv) (ss:=Γ.ss) (P:=Pf E Γ.ss fp H) (H:=H) I.toIT (n:=(I.toI x).fdiv (2^(min (J.toI y).toNat I.k.bits)))
  rwa [hw]at this
section
variable{a b:AO}
theorem EQ{x:Bool}(ha:Cd tb Γ a (.val T.b x)):Fa tb Γ (.un .not a) (some (!x)) fun z=> .val T.b z:=by
 rintro E rv fp f H R z ⟨⟩
 exact⟨_,none,by simp only[BC,F1.1 (ha E rv fp f H R),un];rfl,rfl,F1.2 rfl⟩
def Dj{α:Type}(l:List α)(i:Int):Option α:=if 0≤i then l[i.toNat]? else none
def Qr(len:Nat)(lo hi:Option Int):Option (Nat×Nat):=
 (match hi with
  |none=>some len
  |some n=>if 0≤n∧n≤len then some n.toNat else none).bind fun h=>
 (match lo with
  |none=>some 0
  |some n=>if 0≤n∧n≤h then some n.toNat else none).bind fun l=>some (l,h)
def Ga{α:Type}(l:List α)(lo hi:Option Int):Option (List α):=(Qr l.length lo hi).map fun p=>(l.take p.2).drop p.1
inductive OpO(tb:Di)(Γ:Cx):Option AO→Option Int→Prop where
 |none:OpO tb Γ none none
 |some {a:AO} {k:IntKind} {n:Int}:Cd tb Γ a (.val (T.int k) n)→OpO tb Γ (some a) (some n)
theorem Wd{lo hi:Option AO}{l h:Option Int}(hl:OpO tb Γ lo l)(hh:OpO tb Γ hi h){E:R7}{rv:Nat→AV}{fp:Fp}{f:Fr}{H:Az}(R:B8 E Γ rv fp f H)(len:Nat):Hz (eval tb f) len lo hi=Qr len l h:=by
 cases hl with
 |none=>
  cases hh with
  |none=>rfl
  |some hh=>simp only[Hz,Qr,KP,BX.1 (hh E rv fp f H R),HE,aa]
 |some hl=>
  cases hh with
  |none=>simp only[Hz,Qr,KP,BX.1 (hl E rv fp f H R),HE,aa]
  |some hh=>simp only[Hz,Qr,KP,BX.1 (hl E rv fp f H R),BX.1 (hh E rv fp f H R),HE,aa]
variable{x y:AG}
theorem CJ(ha:Cd tb Γ a (.val Ak x))(hb:Cd tb Γ b (.val Ak y)):Fa tb Γ (.bin .add a b) (if x.length+y.length≤2*Bs then some (x++y)else none) fun z=> .val Ak z:=by
 intro E rv fp f H R z hz
 split at hz
 ·rename_i h0
  cases hz
  exact⟨_,none,by simp only[BC,Ep.1 (ha E rv fp f H R),Ep.1 (hb E rv fp f H R),bin,qn h0];rfl,rfl,Ep.2 rfl⟩
 ·cases hz
theorem FB(ha:Cd tb Γ a (.val Ak x))(hb:Cd tb Γ b (.val Ak y)):Fa tb Γ (.bin .eql a b) (some (decide (x=y))) fun z=> .val T.b z:=by
 rintro E rv fp f H R z ⟨⟩
 exact⟨_,none,by simp only[BC,Ep.1 (ha E rv fp f H R),Ep.1 (hb E rv fp f H R),bin];rfl,rfl,F1.2 (by congr 1;rw[i8];simp)⟩
theorem jC(ha:Cd tb Γ a (.val Ak x))(hb:Cd tb Γ b (.val Ak y)):Fa tb Γ (.bin .neq a b) (some (!decide (x=y))) fun z=> .val T.b z:=by
 rintro E rv fp f H R z ⟨⟩
 exact⟨_,none,by simp only[BC,Ep.1 (ha E rv fp f H R),Ep.1 (hb E rv fp f H R),bin];rfl,rfl,F1.2 (by congr 2;rw[i8];simp)⟩
abbrev qj:=T.int .i64
theorem Ck(ha:Cd tb Γ a (.val Ak x)):Fa tb Γ (.lens a) (some (x.length:Int)) fun z=> .val qj z:=by
 rintro E rv fp f H R z ⟨⟩
 exact⟨_,none,by simp only[BC,Ep.1 (ha E rv fp f H R)],rfl,BX.2 rfl⟩
theorem D8{k:IntKind}{n:Int}(ha:Cd tb Γ a (.val Ak x))(hb:Cd tb Γ b (.val (T.int k) n)):Fa tb Γ (.ixs a b) (Dj x n) fun z=> .val T.u8 z:=by
 intro E rv fp f H R z hz
 simp only[Dj]at hz
 split at hz
 ·rename_i h0
  exact⟨_,none,by simp only[BC,Ep.1 (ha E rv fp f H R),BX.1 (hb E rv fp f H R),HE,aa,qn h0,hz,an],rfl,Wj.2 rfl⟩
 ·cases hz
theorem GA{lo hi:Option AO}{l h:Option Int}(ha:Cd tb Γ a (.val Ak x))(hl:OpO tb Γ lo l)(hh:OpO tb Γ hi h):Fa tb Γ (.sls a lo hi) (Ga x l h) fun z=> .val Ak z:=by
 intro E rv fp f H R z hz
 obtain⟨p,hp,rfl⟩:=aj.1 hz
 exact⟨_,none,by simp only[BC,Ep.1 (ha E rv fp f H R),Wd hl hh R,hp,an],rfl,Ep.2 rfl⟩
end
def gd(g:Nat)(w:Bool)(o:Br):Br:=match o.g with
 |none=>{o with g:=some (g,w)}
 |some _=>o
def uX:List Nat→List Br→Bool
 |_,[]=>true
 |seen,o::r=>(match o.g with
  |none=>true
  |some (t,_)=>seen.any (fv t))&&uX (match o.d with|some d=>d::seen|none=>seen) r
def HF(l:List Br):List Nat:=l.filterMap (·.d)
structure AU(tb:Di)(Γ:Cx)(q:Bool)(l:List Br)(t:Nat) where
 m:Option Bool
 ok: ∀E rv fp f H,B8 E Γ rv fp f H→ ∀b,m=some b→ ∃f',Bj tb (CC tb) (rg q l) f H=some (.normal,f',H)∧get f' t= .b b∧ ∀u,u∉HF l→get f' u=get f u
def AU.nil{q:Bool}{t:Nat}{b:Bool}(h:Cd tb Γ (.t t) (.val T.b b)):AU tb Γ q [] t:=
 ⟨some b,fun E rv fp f H I _ hb=>by
  cases hb
  exact⟨f,DN,F1.1 (h E rv fp f H I),fun _ _=>rfl⟩⟩
def AU.op{q:Bool}{t d:Nat}{o:HB}{l:List Br}{β:Type}{a:Option β}{φ:β→AW}(h:Fa tb Γ o a φ)(k:(b:β)→AU tb (Γ.push d (φ b)) q l t):AU tb Γ q (⟨some d,none,o⟩::l) t:=
 ⟨a.bind fun b=>(k b).m,fun E rv fp f H I r hr=>by
  obtain⟨b,hb,hr⟩:=ab.1 hr
  obtain⟨v,u,h1,h2,h3⟩:=h E rv fp f H I b hb
  obtain⟨f',h4,h5,h6⟩:=(k b).ok E rv fp (put f (some d) v) H (I.push h3) r hr
  refine⟨f',by rw[Ej h1 h2];exact h4,h5,fun u hu=> ?_⟩
  simp only[HF,jf,bu,not_or]at hu
  rw[h6 u hu.2]
  simp only[put,get]
  rw[qo (jz hu.1)]⟩
def BB{q:Bool}{t d:Nat}{o:HB}{l:List Br}{u:T}{x:u.α}(h:Fa tb Γ o (some ()) fun _=> .val u x)(k:(y:u.α)→AU tb (Γ.push d (.val u y)) q l t):AU tb Γ q (⟨some d,none,o⟩::l) t:=
 ⟨(k x).m,(AU.op (a:=some ()) (φ:=fun _=> .val u x) h fun _=>k x).ok⟩
def AE{q:Bool}{t d:Nat}{o:HB}{l:List Br}{φ:AW}(h:Fa tb Γ o (some ()) fun _=>φ)(k:AU tb (Γ.push d φ) q l t):AU tb Γ q (⟨some d,none,o⟩::l) t:=
 ⟨k.m,(AU.op (a:=some ()) (φ:=fun _=>φ) h fun _=>k).ok⟩
theorem EJ{q:Bool}: ∀{l r:List Br} {f f':Fr} {H H':Az},Bj tb (CC tb) (rg q l) f H=some (.normal,f',H')→Bj tb (CC tb) (rg q (l++r)) f H=Bj tb (CC tb) (rg q r) f' H'
 |[],r,f,f',H,H',h=>by rw[DN]at h;cases h;rfl
 |o::l,r,f,f',H,H',h=>by
  cases q with
  |true=>
   simp only[rg,qt,Bj,dt,I9]at h ⊢
   cases hw:wanted f o.g with
   |none=>rw[hw]at h;simp at h
   |some w=>
    rw[hw]at h
    simp only[aa]at h ⊢
    cases w with
    |false=>
     simp only[au,qu]at h ⊢
     exact EJ (q:=true) (l:=l) (r:=r) (by simpa [rg,Bj]using h)
    |true=>
     simp only[qt]at h ⊢
     cases hp:BC tb (CC tb) (eval tb f) H o.o with
     |none=>rw[hp]at h;simp at h
     |some p=>
      rw[hp]at h
      simp only[aa]at h ⊢
      split at h
      ·rename_i hs
       rw[qn hs]
       exact EJ (q:=true) (l:=l) (r:=r) (by simpa [rg,Bj]using h)
      ·simp at h
  |false=>
   simp only[rg,au,qu,Bj,dt,ops]at h ⊢
   cases hw:wanted f o.g with
   |none=>rw[hw]at h;simp at h
   |some w=>
    rw[hw]at h
    simp only[aa]at h ⊢
    cases w with
    |false=>
     simp only[au,qu]at h ⊢
     exact EJ (q:=false) (l:=l) (r:=r) (by simpa [rg,Bj]using h)
    |true=>
     simp only[qt]at h ⊢
     cases hp:BC tb (CC tb) (eval tb f) H o.o with
     |none=>rw[hp]at h;simp at h
     |some p=>
      rw[hp]at h
      simp only[aa]at h ⊢
      exact EJ (q:=false) (l:=l) (r:=r) (by simpa [rg,Bj]using h)
def K3(g:Nat)(w:Bool):Nat→List Br→Option (List Br×List Br)
 |0,L=>some ([],L)
 |n+1,⟨d,some (g',w'),o⟩::r=>(K3 g w n r).map fun p=>(if fv g' g&&(w'==w)then⟨d,none,o⟩::p.1 else⟨d,some (g',w'),o⟩::p.1,p.2)
 |_,_=>none
theorem G7{g:Nat}{w:Bool}: ∀{n:Nat} {L l R:List Br},K3 g w n L=some (l,R)→L=l.map (gd g w)++R
 |0,L,l,R,h=>by simp only[K3,ae,ch]at h;rw[←h.1,←h.2];rfl
 |n+1,[],l,R,h=>by simp[K3]at h
 |n+1,⟨d,none,o⟩::r,l,R,h=>by simp[K3]at h
 |n+1,⟨d,some (g',w'),o⟩::r,l,R,h=>by
  simp only[K3]at h
  obtain⟨p,hp,h⟩:=aj.1 h
  have ih:=G7 (l:=p.1) (R:=p.2) hp
  simp only[ch]at h
  obtain⟨h1,rfl⟩:=h
  split at h1
  ·rename_i hc
   simp only[af,beq_iff_eq]at hc
   obtain⟨hc,rfl⟩:=hc
   have hc:=cv hc
   subst hc
   rw[←h1,ih];rfl
  ·rw[←h1,ih];rfl
theorem wanted_put{f:Fr}{g:Nat}{w:Bool}{v:AV}{d:Option Nat}(h:d≠some g):get (put f d v) g=get f g:=by
 cases d with
 |none=>rfl
 |some d=>simp only[put,get];rw[qo (fun e=>h (by rw[e]))]
theorem YJ{q:Bool}{g:Nat}{w:Bool}: ∀{l:List Br} {f:Fr} {H:Az},get f g= .b w→g∉HF l→Bj tb (CC tb) (rg q (l.map (gd g w))) f H=Bj tb (CC tb) (rg q l) f H
 |[],_,_,_,_=>rfl
 |o::l,f,H,h,hn=>by
  have hd:o.d≠some g:=fun e=>hn (by simp[HF,e])
  have hn':g∉HF l:=fun e=>hn (by
   simp only[HF,jf]at e ⊢
   cases o.d<;>simp[e])
  have hwt:wanted f (gd g w o).g=wanted f o.g:=by
   cases ho:o.g with
   |none=>simp[gd,ho,wanted,h]
   |some p=>simp[gd,ho]
  have hoo:(gd g w o).o=o.o:=by cases ho:o.g<;>simp[gd,ho]
  have hod:(gd g w o).d=o.d:=by cases ho:o.g<;>simp[gd,ho]
  have ih: ∀v H',Bj tb (CC tb) (rg q (l.map (gd g w))) (put f o.d v) H'=Bj tb (CC tb) (rg q l) (put f o.d v) H':=fun v H'=>YJ (by rw[wanted_put (w:=w) hd];exact h) hn'
  cases q with
  |true=>
   have ih': ∀v H',I9 tb (CC tb) H' (l.map (gd g w)) (put f o.d v)=I9 tb (CC tb) H' l (put f o.d v):=fun v H'=>by
    have:=ih v H'
    simp only[rg,qt,Bj]at this
    cases h1:I9 tb (CC tb) H' (l.map (gd g w)) (put f o.d v)<;>cases h2:I9 tb (CC tb) H' l (put f o.d v)<;>simp_all
   simp only[rg,qt,Bj,bn,I9,hwt,hoo,hod,ih']
  |false=>
   have ih': ∀v H',ops tb (CC tb) (l.map (gd g w)) (put f o.d v) H'=ops tb (CC tb) l (put f o.d v) H':=fun v H'=>by
    have:=ih v H'
    simp only[rg,au,qu,Bj]at this
    cases h1:ops tb (CC tb) (l.map (gd g w)) (put f o.d v) H'<;>cases h2:ops tb (CC tb) l (put f o.d v) H'<;>simp_all [Prod.ext_iff]
   simp only[rg,au,qu,Bj,bn,ops,hwt,hoo,hod,ih']
theorem Nv{q:Bool}{g:Nat}{w:Bool}: ∀{l:List Br} {seen:List Nat} {f:Fr} {H:Az},get f g= .b (!w)→g∉HF l→uX seen l=true→(∀t∈seen,get f t= .tup [])→
  ∃f',Bj tb (CC tb) (rg q (l.map (gd g w))) f H=some (.normal,f',H)∧ ∀u,u∉HF l→get f' u=get f u
 |[],seen,f,H,_,_,_,_=>⟨f,DN,fun _ _=>rfl⟩
 |o::l,seen,f,H,h,hn,hs,hseen=>by
  have hd:o.d≠some g:=fun e=>hn (by simp[HF,e])
  have hn':g∉HF l:=fun e=>hn (by
   simp only[HF,jf]at e ⊢
   cases o.d<;>simp[e])
  simp only[uX,af]at hs
  have hwt:wanted f (gd g w o).g=some false:=by
   cases ho:o.g with
   |none=>simp[gd,ho,wanted,h]
   |some p=>
    obtain⟨t,b⟩:=p
    simp only[gd,ho,wanted]
    have:=hs.1
    rw[ho]at this
    obtain⟨x,hx,hb⟩:=kd.1 this
    have hb:=cv hb
    subst hb
    rw[hseen _ hx]
  have hod:(gd g w o).d=o.d:=by cases ho:o.g<;>simp[gd,ho]
  obtain⟨f',h1,h2⟩:=Nv (q:=q) (w:=w) (l:=l) (seen:=match o.d with|some d=>d::seen|none=>seen) (f:=put f o.d (.tup [])) (H:=H)
   (by rw[wanted_put (w:=w) hd];exact h) hn' hs.2 (fun t ht=>by
    cases hdd:o.d with
    |none=>rw[hdd]at ht;exact hseen t ht
    |some d=>
     rw[hdd]at ht
     simp only[put,get]
     by_cases e:d=t
     ·rw[qn e]
     ·rw[qo e]
      rcases bu.1 ht with e'|ht
      ·exact absurd e'.symm e
      ·exact hseen t ht)
  refine⟨f',?_,fun u hu=> ?_⟩
  ·cases q with
   |true=>
    simp only[rg,qt,Bj]at h1 ⊢
    simp only[bn,I9,hwt,aa,au,qu,hod];exact h1
   |false=>
    simp only[rg,au,qu,Bj]at h1 ⊢
    simp only[bn,ops,hwt,aa,au,qu,hod];exact h1
  ·have hu':u∉HF l:=fun e=>hu (by
    simp only[HF,jf]at e ⊢
    cases o.d<;>simp[e])
   rw[h2 u hu']
   exact wanted_put (w:=w) fun e=>hu (by simp[HF,e])
def cF(l:List Nat)(n:Nat):Bool:=l.any (fv n)
theorem Js{l:List Nat}{n:Nat}(h:cF l n=false):n∉l:=by
 intro hm
 rw[cF,List.any_eq_false]at h
 exact h n hm (by simp)
def wP(l:List Nat)(ts:Ts):Bool:=ts.all fun p=> !cF l p.1
theorem HX{l:List Nat}: ∀{ts:Ts} {t:Nat} {φ:AW},wP l ts=true→BM ts t=some φ→t∉l
 |[],_,_,_,e=>by simp[BM]at e
 |(u,ψ)::r,t,φ,h,e=>by
  simp only[wP,fc,af,cg]at h
  simp only[BM]at e
  split at e
  ·rename_i hu;subst hu;exact Js h.1
  ·exact HX (by simpa [wP]using h.2) e
def U7(g:Nat)(l:List Br)(ts:Ts):Bool:=uX [] l&&(!cF (HF l) g&&wP (HF l) ts)
theorem YZ{f:Fr}{H:Az}{E:R7}{rv:Nat→AV}{fp:Fp}(I:B8 E Γ rv fp f H){d:Nat}{z:Bool}:B8 E (Γ.push d (.val T.b z)) rv fp (put f (some d) (.b z)) H:=I.push (F1.2 rfl)
def Bw(b:Bool)(m:Option Bool):Option Bool:=if b=true then m else some false
def HD(b:Bool)(m:Option Bool):Option Bool:=if b=true then some true else m
variable{ks:List Kf}{ρ:Type}{Q:Oj ρ}
def Aa.and{q:Bool}{L l rest:List Br}{g t d:Nat}{b:Bool}(n:Nat)(og:BM Γ.ts g=some (.val T.b b))(h:K3 g true n L=some (l,⟨some d,none, .pick (.t g) (.t t) (.k (.b false))⟩::rest))(hc:U7 g l Γ.ts=true)
  (PX:AU tb Γ q l t) (k:(z:Bool)→Aa tb (Γ.push d (.val T.b z)) (rg q rest) ks Q):Aa tb Γ (rg q L) ks Q:=
 ⟨(Bw b PX.m).bind fun z=>(k z).m,fun E f H ⟨rv,fp,I⟩ r hr=>by
  obtain⟨z,hz,hr⟩:=ab.1 hr
  have hL:=G7 h
  simp only[U7,af,cg]at hc
  obtain⟨hc1,hc2,hc3⟩:=hc
  have hg:=F1.1 (I.temps g _ og)
  have hng:=Js hc2
  have fin: ∃f',Bj tb (CC tb) (rg q (l.map (gd g true))) f H=some (.normal,f',H)∧(∀u,u∉HF l→get f' u=get f u)∧(if b then get f' t else .b false)= .b z:=by
   cases b with
   |true=>
    obtain⟨f',h1,h2,h3⟩:=PX.ok E rv fp f H I z (by simpa [Bw,HD]using hz)
    exact⟨f',by rw[YJ hg hng];exact h1,h3,by simpa using h2⟩
   |false=>
    obtain⟨f',h1,h2⟩:=Nv (tb:=tb) (q:=q) (w:=true) (H:=H) hg hng hc1 (by simp)
    exact⟨f',h1,h2,by simpa [Bw,HD]using hz⟩
  obtain⟨f',h1,h2,h3⟩:=fin
  have hp:BC tb (CC tb) (eval tb f') H (.pick (.t g) (.t t) (.k (.b false)))=some (.b z,none):=by
   simp only[BC,eval,h2 g hng,hg]
   rw[←h3]
  have I':B8 E Γ rv fp f' H:=I.fr fun u φ e=>h2 u (HX hc3 e)
  obtain⟨e,f2,H2,h4,h5⟩:=(k z).ok E _ H ⟨rv,fp,YZ I'⟩ r hr
  exact⟨e,f2,H2,by rw[hL,EJ h1,Ej hp rfl];exact h4,h5⟩⟩
def Aa.or{q:Bool}{L l rest:List Br}{g t d:Nat}{b:Bool}(n:Nat)(og:BM Γ.ts g=some (.val T.b b))(h:K3 g false n L=some (l,⟨some d,none, .pick (.t g) (.k (.b true)) (.t t)⟩::rest))(hc:U7 g l Γ.ts=true)
  (PX:AU tb Γ q l t) (k:(z:Bool)→Aa tb (Γ.push d (.val T.b z)) (rg q rest) ks Q):Aa tb Γ (rg q L) ks Q:=
 ⟨(HD b PX.m).bind fun z=>(k z).m,fun E f H ⟨rv,fp,I⟩ r hr=>by
  obtain⟨z,hz,hr⟩:=ab.1 hr
  have hL:=G7 h
  simp only[U7,af,cg]at hc
  obtain⟨hc1,hc2,hc3⟩:=hc
  have hg:=F1.1 (I.temps g _ og)
  have hng:=Js hc2
  have fin: ∃f',Bj tb (CC tb) (rg q (l.map (gd g false))) f H=some (.normal,f',H)∧(∀u,u∉HF l→get f' u=get f u)∧(if b then .b true else get f' t)= .b z:=by
   cases b with
   |false=>
    obtain⟨f',h1,h2,h3⟩:=PX.ok E rv fp f H I z (by simpa [Bw,HD]using hz)
    exact⟨f',by rw[YJ hg hng];exact h1,h3,by simpa using h2⟩
   |true=>
    obtain⟨f',h1,h2⟩:=Nv (tb:=tb) (q:=q) (w:=false) (H:=H) hg hng hc1 (by simp)
    exact⟨f',h1,h2,by simpa [Bw,HD]using hz⟩
  obtain⟨f',h1,h2,h3⟩:=fin
  have hp:BC tb (CC tb) (eval tb f') H (.pick (.t g) (.k (.b true)) (.t t))=some (.b z,none):=by
   simp only[BC,eval,h2 g hng,hg]
   rw[←h3]
  have I':B8 E Γ rv fp f' H:=I.fr fun u φ e=>h2 u (HX hc3 e)
  obtain⟨e,f2,H2,h4,h5⟩:=(k z).ok E _ H ⟨rv,fp,YZ I'⟩ r hr
  exact⟨e,f2,H2,by rw[hL,EJ h1,Ej hp rfl];exact h4,h5⟩⟩
def AU.and{q:Bool}{L l rest:List Br}{g t t' d:Nat}{b:Bool}(n:Nat)(og:BM Γ.ts g=some (.val T.b b))(h:K3 g true n L=some (l,⟨some d,none, .pick (.t g) (.t t) (.k (.b false))⟩::rest))(hc:U7 g l Γ.ts=true)
  (hd:(HF l).all (cF (HF L))=true) (hd':(d::HF rest).all (cF (HF L))=true)
  (PX:AU tb Γ q l t) (k:(z:Bool)→AU tb (Γ.push d (.val T.b z)) q rest t'):AU tb Γ q L t':=
 ⟨(Bw b PX.m).bind fun z=>(k z).m,fun E rv fp f H I r hr=>by
  obtain⟨z,hz,hr⟩:=ab.1 hr
  have hL:=G7 h
  simp only[U7,af,cg]at hc
  obtain⟨hc1,hc2,hc3⟩:=hc
  have hg:=F1.1 (I.temps g _ og)
  have hng:=Js hc2
  have sub: ∀{m:List Nat},m.all (cF (HF L))=true→ ∀u,u∉HF L→u∉m:=fun hm u hu hum=>by
   have:=cd.1 hm u hum
   obtain⟨x,hx,hb⟩:=kd.1 this
   exact hu (cv hb▸hx)
  have fin: ∃f',Bj tb (CC tb) (rg q (l.map (gd g true))) f H=some (.normal,f',H)∧(∀u,u∉HF l→get f' u=get f u)∧(if b then get f' t else .b false)= .b z:=by
   cases b with
   |true=>
    obtain⟨f',h1,h2,h3⟩:=PX.ok E rv fp f H I z (by simpa [Bw,HD]using hz)
    exact⟨f',by rw[YJ hg hng];exact h1,h3,by simpa using h2⟩
   |false=>
    obtain⟨f',h1,h2⟩:=Nv (tb:=tb) (q:=q) (w:=true) (H:=H) hg hng hc1 (by simp)
    exact⟨f',h1,h2,by simpa [Bw,HD]using hz⟩
  obtain⟨f',h1,h2,h3⟩:=fin
  have hp:BC tb (CC tb) (eval tb f') H (.pick (.t g) (.t t) (.k (.b false)))=some (.b z,none):=by
   simp only[BC,eval,h2 g hng,hg]
   rw[←h3]
  have I':B8 E Γ rv fp f' H:=I.fr fun u φ e=>h2 u (HX hc3 e)
  obtain⟨f2,h4,h5,h6⟩:=(k z).ok E rv fp _ H (YZ I') r hr
  refine⟨f2,by rw[hL,EJ h1,Ej hp rfl];exact h4,h5,fun u hu=> ?_⟩
  have hu':=sub hd' u hu
  rw[h6 u fun e=>hu' (bg _ e),wanted_put (w:=true) (fun e=>hu' (by cases e;exact bj)),h2 u (sub hd u hu)]⟩
def AU.or{q:Bool}{L l rest:List Br}{g t t' d:Nat}{b:Bool}(n:Nat)(og:BM Γ.ts g=some (.val T.b b))(h:K3 g false n L=some (l,⟨some d,none, .pick (.t g) (.k (.b true)) (.t t)⟩::rest))(hc:U7 g l Γ.ts=true)
  (hd:(HF l).all (cF (HF L))=true) (hd':(d::HF rest).all (cF (HF L))=true)
  (PX:AU tb Γ q l t) (k:(z:Bool)→AU tb (Γ.push d (.val T.b z)) q rest t'):AU tb Γ q L t':=
 ⟨(HD b PX.m).bind fun z=>(k z).m,fun E rv fp f H I r hr=>by
  obtain⟨z,hz,hr⟩:=ab.1 hr
  have hL:=G7 h
  simp only[U7,af,cg]at hc
  obtain⟨hc1,hc2,hc3⟩:=hc
  have hg:=F1.1 (I.temps g _ og)
  have hng:=Js hc2
  have sub: ∀{m:List Nat},m.all (cF (HF L))=true→ ∀u,u∉HF L→u∉m:=fun hm u hu hum=>by
   have:=cd.1 hm u hum
   obtain⟨x,hx,hb⟩:=kd.1 this
   exact hu (cv hb▸hx)
  have fin: ∃f',Bj tb (CC tb) (rg q (l.map (gd g false))) f H=some (.normal,f',H)∧(∀u,u∉HF l→get f' u=get f u)∧(if b then .b true else get f' t)= .b z:=by
   cases b with
   |false=>
    obtain⟨f',h1,h2,h3⟩:=PX.ok E rv fp f H I z (by simpa [Bw,HD]using hz)
    exact⟨f',by rw[YJ hg hng];exact h1,h3,by simpa using h2⟩
   |true=>
    obtain⟨f',h1,h2⟩:=Nv (tb:=tb) (q:=q) (w:=false) (H:=H) hg hng hc1 (by simp)
    exact⟨f',h1,h2,by simpa [Bw,HD]using hz⟩
  obtain⟨f',h1,h2,h3⟩:=fin
  have hp:BC tb (CC tb) (eval tb f') H (.pick (.t g) (.k (.b true)) (.t t))=some (.b z,none):=by
   simp only[BC,eval,h2 g hng,hg]
   rw[←h3]
  have I':B8 E Γ rv fp f' H:=I.fr fun u φ e=>h2 u (HX hc3 e)
  obtain⟨f2,h4,h5,h6⟩:=(k z).ok E rv fp _ H (YZ I') r hr
  refine⟨f2,by rw[hL,EJ h1,Ej hp rfl];exact h4,h5,fun u hu=> ?_⟩
  have hu':=sub hd' u hu
  rw[h6 u fun e=>hu' (bg _ e),wanted_put (w:=true) (fun e=>hu' (by cases e;exact bj)),h2 u (sub hd u hu)]⟩
end
end
section
structure AR(t u:T)(off:Nat) where
 get:t.α→u.α
 put:t.α→u.α→t.α
 le:off+u.sz≤t.sz
 getR: ∀{P:Nat→Prop} {H:Az} {cs:List AV} {x:t.α},t.R P H cs x→u.R P H (sub cs off u.sz) (get x)
 putR: ∀{P:Nat→Prop} {H:Az} {cs:List AV} {x:t.α} {c:List AV} {y:u.α},t.R P H cs x→u.R P H c y→t.R P H (BA cs off c) (put x y)
def Ao(t:T):AR t t 0 where
 get:=fun x=>x
 put:=fun _ y=>y
 le:=by omega
 getR:=fun{P H cs x} h=>by
  have:=t.len h
  rw[show sub cs 0 t.sz=cs by simp only[sub,db];exact av (by omega)];exact h
 putR:=fun{P H cs x c y} h g=>by
  have h1:=t.len h
  have h2:=t.len g
  rw[show BA cs 0 c=c by simp[BA,jp (show cs.length≤c.length by omega)]];exact g
def LF{a b u:T}{off:Nat}(F:AR a u off):AR (G5 a b) u off where
 get:=fun x=>F.get x.1
 put:=fun x y=>(F.put x.1 y,x.2)
 le:=dy F.le (Nat.le_add_right _ _)
 getR:=fun{P H cs x} ⟨c,d,e,h,g⟩=>by
  have h1:=a.len h
  have h2:=F.le
  have:=F.getR h
  rw[show sub cs off u.sz=sub c off u.sz by
   subst e
   simp only[sub]
   rw[dn (by omega),d8 (by simp;omega)]]
  exact this
 putR:=fun{P H cs x c' y} ⟨c,d,e,h,g⟩ k=>by
  have h1:=a.len h
  have h2:=F.le
  have h3:=u.len k
  refine⟨BA c off c',d,?_,F.putR h k,g⟩
  subst e
  simp only[BA]
  rw[d8 (by omega),dn (by omega)]
  simp
def E6{a b u:T}{off:Nat}(F:AR b u off):AR (G5 a b) u (a.sz+off) where
 get:=fun x=>F.get x.2
 put:=fun x y=>(x.1,F.put x.2 y)
 le:=by have:=F.le;show a.sz+off+u.sz≤a.sz+b.sz;omega
 getR:=fun{P H cs x} ⟨c,d,e,h,g⟩=>by
  have h1:=a.len h
  have:=F.getR g
  rw[show sub cs (a.sz+off) u.sz=sub d off u.sz by
   subst e
   simp only[sub]
   rw[←ck,ez h1]]
  exact this
 putR:=fun{P H cs x c' y} ⟨c,d,e,h,g⟩ k=>by
  have h1:=a.len h
  refine⟨c,BA d off c',?_,h,F.putR g k⟩
  subst e
  simp only[BA]
  rw[gw,av (by omega),show a.sz+off-c.length=off by omega]
  rw[show a.sz+off+c'.length=c.length+(off+c'.length) by omega,←ck,ez rfl]
  simp
def IY{t u:T}{off:Nat}{β:Type}{f:β→t.α}{g:t.α→β}{hfg: ∀y,f (g y)=y}(F:AR t u off):AR (UQ t β f g hfg) u off where
 get:=fun x=>F.get (f x)
 put:=fun x y=>g (F.put (f x) y)
 le:=F.le
 getR:=fun h=>F.getR h
 putR:=fun{P H cs x c y} h k=>by
  show t.R P H _ (f (g _))
  rw[hfg]
  exact F.putR h k
def Ar.set{α:Type}{n:Nat}(a:Ar α n)(i:Nat)(x:α):Ar α n:=⟨a.l.set i x,by rw[fy];exact a.len⟩
section
variable{tb:Di}{Γ:Cx}{a b:AO}
theorem Sb.len{t:T}{P:Nat→Prop}{H:Az}{v:AV}: ∀{g:GS t.α},Sb t P H v g→Pn v=some g.l.length
 | .nil,h=>by rw[show v=_ from h];rfl
 | .mk l,⟨bp,els,e,h⟩=>by
  have hl:=h.length
  cases v<;>simp only[Mc]at bp<;>simp only[E4]at e<;>simp only[Pn,GS.l,ae]
  ·split at e
   ·cases e;exact hl
   ·cases e
  ·obtain⟨r,hr,e⟩:=ab.1 e
   split at e
   ·rename_i hc
    cases e
    rw[a6,bh]at hl
    omega
   ·cases e
  ·obtain⟨r,hr,e⟩:=ab.1 e
   split at e
   ·cases e
    rename_i hc
    rw[←hl]
    have: ∀(n:Nat) (l:List AV) (sz:Nat),(BR sz n l).length=n:=by
     intro n
     induction n with
     |zero=>intro l sz;rfl
     |succ n ih=>intro l sz;simp[BR,ih]
    exact(this _ _ _).symm
   ·cases e
theorem Sb.els{t:T}{P:Nat→Prop}{H:Az}{v:AV}: ∀{g:GS t.α},Sb t P H v g→ ∃els,E4 H t.sz v=some els∧CL t P H els g.l
 | .nil,h=>by rw[show v=_ from h];exact⟨[],rfl,trivial⟩
 | .mk l,⟨_,els,e,h⟩=>⟨els,e,h⟩
theorem C5{t:T}{g:GS t.α}(ha:Cd tb Γ a (.val (T.sl t) g)):Fa tb Γ (.len a) (some (g.l.length:Int)) fun z=> .val qj z:=by
 rintro E rv fp f H R z ⟨⟩
 exact⟨_,none,by simp only[BC,(Iy.1 (ha E rv fp f H R)).len,an],rfl,BX.2 rfl⟩
theorem U6{sz:Nat}: ∀{n i:Nat} {l c:List AV},n*sz≤l.length→(BR sz n l)[i]? =some c→sub l (i*sz) sz=c∧i*sz+sz≤l.length
 |0,i,l,c,_,h=>by simp[BR]at h
 |n+1,0,l,c,hl,h=>by
  simp only[BR,bx,ae]at h
  rw[ci]at hl
  exact⟨by simpa [sub]using h,by omega⟩
 |n+1,i+1,l,c,hl,h=>by
  simp only[BR,c0]at h
  rw[ci]at hl
  obtain⟨h1,h2⟩:=U6 (l:=l.drop sz) (by simp;omega) h
  simp only[bh]at h2
  refine⟨?_,by rw[ci];omega⟩
  simp only[sub,ck]at h1 ⊢
  rw[show(i+1)*sz=sz+i*sz by rw[ci];omega];exact h1
theorem OB{els:List (List AV)}{i:Nat}{c:List AV}(hc:els[i]? =some c):(els.drop i).flatten=c++(els.drop (i+1)).flatten:=by
 obtain⟨hi,rfl⟩:=ca.1 hc
 rw[bk hi,bm]
theorem Yo{c d:List AV}{o k:Nat}(h:o+k≤c.length):sub (c++d) o k=sub c o k:=by
 simp only[sub]
 rw[dn (by omega),d8 (by simp;omega)]
theorem Sb.addr{t:T}{P:Nat→Prop}{H:Az}{v:AV}{i:Nat}{x:t.α}: ∀{g:GS t.α},Sb t P H v g→g.l[i]? =some x→ ∃p,SD H t.sz v i=some p∧qM t P H p x
 | .nil,_,h=>by simp[GS.l]at h
 | .mk l,⟨bp,els,e,h⟩,hx=>by
  obtain⟨c,hc,hr⟩:=h.get hx
  have hi:i<els.length:=(ca.1 hc).1
  have hlen:=t.len hr
  have hsub: ∀cs:List AV,cs=c→sub cs 0 t.sz=c:=fun cs e=>by
   subst e;simp only[sub,db];exact av (by omega)
  simp only[SD,e,aa,qn hi]
  cases v<;>simp only[Mc]at bp
  ·refine⟨.ip c 0,by simp[hc],trivial,c,0,rfl,by omega,by rw[hsub c rfl];exact hr,fun m hm=> ?_⟩
   simpa [Cc]using t.men hr hm
  ·rename_i id k lo len
   simp only[E4]at e
   obtain⟨r,hrow,e⟩:=ab.1 e
   split at e
   ·rename_i hcd
    cases e
    have hc':r.2.2[lo+i]? =some c:=by
     rw[dp]at hc
     split at hc
     ·rwa [eo]at hc
     ·cases hc
    refine⟨.pe id k (lo+i) 0,rfl,bp,_,0,by simp only[place,hrow,aa,qn hcd.1];rfl,by rw[OB hc'];simp;omega,by rw[OB hc',Yo (by omega),hsub c rfl];exact hr,fun m hm=>by simp only[Cc];exact hm _ bp⟩
   ·cases e
  ·rename_i sz' id off len
   simp only[E4]at e
   obtain⟨r,hrow,e⟩:=ab.1 e
   split at e
   ·rename_i hcd
    cases e
    obtain⟨h1,h2⟩:=U6 (by simp;omega) hc
    simp only[bh]at h2
    refine⟨.ptr id (off+i*t.sz),rfl,bp,r,off+i*t.sz,by simp[place,hrow],by omega,?_,fun m hm=>by simp only[Cc];exact hm _ bp⟩
    have:sub r (off+i*t.sz) t.sz=c:=by
     simp only[sub,ck]at h1 ⊢;exact h1
    rw[this];exact hr
   ·cases e
theorem Ef{t:T}{g:GS t.α}{k:IntKind}{i:Int}{sz:Nat}(hs:sz=t.sz)(ha:Cd tb Γ a (.val (T.sl t) g))(hb:Cd tb Γ b (.val (T.int k) i)):Fa tb Γ (.ias sz a b) (Dj g.l i) fun x=> .rp t x:=by
 intro E rv fp f H R x hx
 simp only[Dj]at hx
 split at hx
 ·rename_i h0
  obtain⟨p,h1,h2⟩:=(Iy.1 (ha E rv fp f H R)).addr hx
  subst hs
  exact⟨p,none,by simp only[BC,BX.1 (hb E rv fp f H R),HE,aa,qn h0,h1,val,an],rfl,h2⟩
 ·cases hx
theorem qM.load{t:T}{P:Nat→Prop}{H:Az}{p:AV}{x:t.α}(h:qM t P H p x): ∃v,load H t.agg t.sz p=some v∧t.V P H v x:=by
 obtain⟨_,cs,off,e,l,r,_⟩:=h
 obtain⟨v,h1,h2⟩:=T.V.of r
 exact⟨v,by simp only[Am.load,e,aa,qn l,h1],h2⟩
theorem Gz{t:T}{x:t.α}{ag:Bool}{n:Nat}(hag:ag=t.agg)(hn:n=t.sz)(ha:Cd tb Γ a (.rp t x)):Fa tb Γ (.ld ag n a) (some ()) fun _=> .val t x:=by
 rintro E rv fp f H R z ⟨⟩
 obtain⟨v,h1,h2⟩:=qM.load (ha E rv fp f H R)
 subst hag hn
 exact⟨v,none,by simp only[BC,h1,val,an],rfl,h2⟩
theorem qM.shift{t u:T}{off:Nat}(F:AR t u off){P:Nat→Prop}{H:Az}{p:AV}{x:t.α}(h:qM t P H p x): ∃v,shift off p=some v∧qM u P H v (F.get x):=by
 obtain⟨hp,cs,o,e,l,r,hm⟩:=h
 have hle:=F.le
 have hr:=F.getR r
 have hsub:sub (sub cs o t.sz) off u.sz=sub cs (o+off) u.sz:=by
  simp only[sub]
  rw[gb,ji,ck,f3 (by omega)]
 rw[hsub]at hr
 cases p<;>simp only[iR]at hp<;>simp only[place]at e
 ·rename_i id o'
  obtain⟨cs',hc,e⟩:=aj.1 e
  cases e
  refine⟨_,rfl,hp,cs,o+off,by simp[place,hc],by omega,hr,fun m hm=>by simp only[Cc];exact hm _ hp⟩
 ·rename_i id n i o'
  obtain⟨row,hrow,e⟩:=ab.1 e
  split at e
  ·rename_i hn
   cases e
   refine⟨_,rfl,hp,_,_,by simp only[place,hrow,aa];rw[qn hn],by omega,hr,fun m hm=>by simp only[Cc];exact hm _ hp⟩
  ·cases e
 ·rename_i cs' o'
  cases e
  exact⟨_,rfl,hp,cs,o+off,rfl,by omega,hr,fun m h=>by simpa [Cc]using hm m h⟩
end
end
section
def L8:List (Nat×AW)→Nat→Option (Nat×AW×Nat)
 |[],_=>none
 |(n,φ)::r,o=>if je o n then some (n,φ,o)else L8 r (o-n)
def X0:List (Nat×AW)→Nat→AW→List (Nat×AW)
 |[],_,_=>[]
 |(n,φ)::r,o,ψ=>if je o n then(n,ψ)::r else(n,φ)::X0 r (o-n) ψ
theorem UK{a b:Nat}:je a b=true↔a<b:=by
 rw[je,Nat.ble_eq];exact o9
section
variable{rv:Nat→AV}{ss:Ss}{P:Nat→Prop}{H:Az}
theorem Ha: ∀{ps:List (Nat×AW)} {o o' N:Nat} {φ:AW} {cs:List AV},PR rv ss P H ps cs→L8 ps o=some (N,φ,o')→
  ∃b c,c.length=N∧o=b+o'∧o'<c.length∧b+c.length≤cs.length∧FC rv ss P H φ c∧(∀m k,m+k≤c.length→sub cs (b+m) k=sub c m k)∧
   (∀m d ψ,m+d.length≤c.length→FC rv ss P H ψ (BA c m d)→PR rv ss P H (X0 ps o ψ) (BA cs (b+m) d))
 |[],o,o',N,φ,cs,_,h=>by simp[L8]at h
 |(n,ψ)::r,o,o',N,φ,cs,⟨c,d,e,hl,hc,hr⟩,h=>by
  simp only[L8]at h
  split at h
  ·rename_i ho
   rw[UK]at ho
   cases h
   subst e
   refine⟨0,c,hl,by omega,by omega,by simp,hc,?_,?_⟩
   ·intro m k hm
    simp only[sub,da]
    rw[dn (by omega),d8 (by simp;omega)]
   ·intro m d' χ hm hf
    simp only[X0,UK.2 ho,qt]
    refine⟨BA c m d',d,?_,?_,hf,hr⟩
    ·simp only[BA,da]
     rw[d8 (by omega),dn (by omega)]
     simp
    ·simp only[BA,aw,a6,bh];omega
  ·rename_i ho
   have ho': ¬o<n:=fun e=>ho (UK.2 e)
   obtain⟨b,c',h0,h1,h2,h3,h4,h5,h6⟩:=Ha hr h
   subst e
   refine⟨n+b,c',h0,by omega,h2,by simp;omega,h4,?_,?_⟩
   ·intro m k hm
    rw[←h5 m k hm]
    simp only[sub]
    rw[show n+b+m=c.length+(b+m) by omega,←ck,ez rfl]
   ·intro m d' χ hm hf
    have:=h6 m d' χ hm hf
    simp only[X0,qo ho]
    refine⟨c,_,?_,hl,hc,this⟩
    simp only[BA]
    rw[gw,av (by omega),show n+b+m-c.length=b+m by omega]
    rw[show n+b+m+d'.length=c.length+(b+m+d'.length) by omega,←ck,ez rfl]
    simp
end
def Cx.setS(Γ:Cx)(j:Nat)(S:BY):Cx:=⟨Γ.ts,(j,S)::Γ.ss⟩
section
variable{tb:Di}{Γ:Cx}{a b:AO}
theorem A6{j o off:Nat}(ha:Cd tb Γ a (.cp j o)):Fa tb Γ (.fa off a) (some ()) fun _=> .cp j (o+off):=by
 rintro E rv fp f H R z ⟨⟩
 obtain⟨l,id,e,hv⟩:=ha E rv fp f H R
 exact⟨.ptr id (o+off),none,by simp only[BC,hv,shift,val,an],rfl,l,id,e,rfl⟩
theorem Ho{E:R7}{rv:Nat→AV}{fp:Fp}{f:Fr}{H:Az}(R:B8 E Γ rv fp f H){j:Nat}{ps:List (Nat×AW)}(hj:AM Γ.ss j=some (.cells ps)){id:Nat}(e:rv j= .ptr id 0):
  ∃cs,(∀i,fp j i↔i=id)∧C3 H id=some cs∧PR rv Γ.ss (Pf E Γ.ss fp H) H ps cs:=by
 obtain⟨id',cs,h1,h0,h2,h3⟩:=R.slots j _ hj
 rw[e]at h1;cases h1
 exact⟨cs,h0,h2,h3⟩
theorem AF{t u:T}{x:t.α}{j o o' n N:Nat}{ag:Bool}{ps:List (Nat×AW)}(ha:Cd tb Γ a (.cp j o))(hj:AM Γ.ss j=some (.cells ps))(hp:L8 ps o=some (N, .val t x,o'))(F:AR t u o')(hag:ag=u.agg)(hn:n=u.sz):
  Fa tb Γ (.ld ag n a) (some ()) fun _=> .val u (F.get x):=by
 rintro E rv fp f H R z ⟨⟩
 obtain⟨l,id,e,hv⟩:=ha E rv fp f H R
 obtain⟨cs,h0,h2,h3⟩:=Ho R hj e
 obtain⟨b',c,e0,e1,e2,e3,e4,e5,_⟩:=Ha h3 hp
 have hle:=F.le
 have hl:=t.len e4
 have hr:=F.getR e4
 rw[←e5 o' u.sz (by omega),←e1]at hr
 obtain⟨v,g1,g2⟩:=T.V.of hr
 subst hag hn
 exact⟨v,none,by simp only[BC,hv,Am.load,place,h2,an,aa,qn (show o+u.sz≤cs.length by omega),g1,val],rfl,g2⟩
def isRef:AW→Bool
 | .own _=>true
 | .cp _ _=>true
 | .ep _ _ _=>true
 | .rp _ _=>true
 | .oc _ _ _ _=>true
 | .con _=>true
 | .fnv _ _ _=>true
 | .kv _=>true
 |_=>false
theorem yR{φ:AW}(h:isRef φ=true){rv:Nat→AV}{ss:Ss}{P:Nat→Prop}{H:Az}{c:List AV}:FC rv ss P H φ c↔ ∃v,c=[v]∧FR rv ss P H φ v:=by
 cases φ<;>simp only[isRef,au]at h<;>exact o9
theorem Bx{φ:AW}{j o N:Nat}{ps:List (Nat×AW)}(ha:Cd tb Γ a (.cp j o))(hj:AM Γ.ss j=some (.cells ps))(hp:L8 ps o=some (N,φ,0))(hφ:isRef φ=true):
  Fa tb Γ (.ld false 1 a) (some ()) fun _=>φ:=by
 rintro E rv fp f H R z ⟨⟩
 obtain⟨l,id,e,hv⟩:=ha E rv fp f H R
 obtain⟨cs,h0,h2,h3⟩:=Ho R hj e
 obtain⟨b',c,e0,e1,e2,e3,e4,e5,_⟩:=Ha h3 hp
 obtain⟨v,rfl,hr⟩:=(yR hφ).1 e4
 have hs:=e5 0 1 (by simp)
 rw[ja]at e1 hs
 subst e1
 simp only[bb,bz]at e3
 exact⟨v,none,by simp only[BC,hv,Am.load,place,h2,an,aa,qn (show o+1≤cs.length by omega),hs,val];rfl,rfl,hr⟩
theorem Yp{cs d:List AV}{o:Nat}(h:o+d.length≤cs.length):(BA cs o d).length=cs.length:=by
 simp only[BA,aw,a6,bh];omega
theorem Ph{cs d:List AV}{o m:Nat}(h:B0 cs≤m)(g:B0 d≤m):B0 (BA cs o d)≤m:=by
 simp only[BA,GP]
 have:=QF cs o
 have:=Ny cs (o+d.length)
 omega
theorem M_st{φ ψ:AW}{j o o' n N:Nat}{ps:List (Nat×AW)}(ha:Cd tb Γ a (.cp j o))(hj:AM Γ.ss j=some (.cells ps))(hp:L8 ps o=some (N,φ,o'))
  (hb: ∀E rv fp f H,B8 E Γ rv fp f H→ ∀c,FC rv Γ.ss (Pf E Γ.ss fp H) H φ c→c.length=N→o'<c.length→(cellsOf (eval tb f b)).length=n∧o'+n≤c.length∧B0 (cellsOf (eval tb f b))≤H.length∧FC rv Γ.ss (Pf E Γ.ss fp H) H ψ (BA c o' (cellsOf (eval tb f b)))):
  XN tb Γ none (.st n a b) (some ()) fun _=>Γ.setS j (.cells (X0 ps o ψ)):=by
 rintro E rv fp f H R z ⟨⟩
 obtain⟨l,id,e,hv⟩:=ha E rv fp f H R
 obtain⟨cs,h0,h2,h3⟩:=Ho R hj e
 obtain⟨b',c,e0,e1,e2,e3,e4,e5,e6⟩:=Ha h3 hp
 obtain⟨g1,g2,g3,g4⟩:=hb E rv fp f H R c e4 e0 e2
 have hpr:=e6 o' _ ψ (by omega) g4
 rw[←e1]at hpr
 have hmen:=PR.men R.ltP R.rvlt h3
 have hlt:=(R.fplt j id l ((h0 id).2 rfl)).1
 have hv0:=R.rvlt j l
 obtain⟨rv',fp',_,_,R'⟩:=R.set (j:=j) (S:= .cells (X0 ps o ψ)) (v:=rv j) (o:= .cells (ED H id) (BA cs o (cellsOf (eval tb f b)))) (by rw[hj];rfl) l h0 (by simp only[E7];exact Ph hmen g3) rfl hv0 (.inl rfl) (R.scal j l) fun rv' fp' e1 e2 hP hs=>
  ⟨id,_,by rw[e1,e],e2,by simp[C3,hlt],PR.mono hP (by simp) (fun p _=>hs p.2 (.inl rfl)) hpr⟩
 refine⟨.junk,some (H.set id (CB.cells (ED H id) (BA cs o (cellsOf (eval tb f b))))),?_,rv',fp',R'⟩
 simp only[BC,hv,store,h2,aa]
 rw[qn ⟨g1,by omega⟩]
 rfl
theorem AT{t u:T}{x:t.α}{y:u.α}{j o o' n N:Nat}{ps:List (Nat×AW)}(ha:Cd tb Γ a (.cp j o))(hb:Cd tb Γ b (.val u y))(hj:AM Γ.ss j=some (.cells ps))(hp:L8 ps o=some (N, .val t x,o'))(F:AR t u o')(hn:n=u.sz):
  XN tb Γ none (.st n a b) (some (F.put x y)) fun z=>Γ.setS j (.cells (X0 ps o (.val t z))):=by
 have:=M_st (n:=n) (ψ:= .val t (F.put x y)) ha hj hp (b:=b) fun E rv fp f H R c hc _ _=>by
  have hv:=T.V.cells (hb E rv fp f H R)
  have hle:=F.le
  have h1:=u.len hv
  have h2:=t.len hc
  exact⟨by rw[h1,hn],by omega,u.men hv R.ltP,F.putR hc hv⟩
 intro E rv fp f H R z hz
 cases hz
 exact this E rv fp f H R () rfl
theorem B3{t:T}{d t0:Nat}{z:List AV}(j:Nat)(hz:z=t.zc)(hj:AM Γ.ss j=none):XN tb Γ (some d) (.alloc t0 z) (some t.z) fun z=>⟨(d, .cp j 0)::Γ.ts,(j, .cells [(t.sz, .val t z)])::Γ.ss⟩:=by
 intro E rv fp f H R _ hz0
 cases hz0
 subst hz
 have hzm:B0 t.zc≤0:=t.men (t.hz (fun _=>False) []) (fun _ h=>h.elim)
 obtain⟨rv',fp',h1,h2,h3⟩:=R.more (j:=j) (S:= .cells [(t.sz, .val t t.z)]) (v:= .ptr H.length 0) (o:= .cells (some t0) t.zc) (Ht hj) (by simp only[E7];omega) rfl (by simp[Cc]) rfl fun rv' fp' e1 e2 hP hs=>
  ⟨_,t.zc,e1,e2,by simp[C3],t.zc,[],(dv _).symm,t.len (t.hz (fun _=>False) []),t.hz _ _,rfl⟩
 exact⟨_,_,rfl,rv',fp',h3.push (φ:= .cp j 0) ⟨h2,_,h1,rfl⟩⟩
theorem Er{t:T}{x:t.α}{d n t0:Nat}(j:Nat)(hn:n=t.sz)(hj:AM Γ.ss j=none)(ha:Cd tb Γ a (.val t x)):XN tb Γ (some d) (.box t0 n a) (some ()) fun _=>⟨(d, .cp j 0)::Γ.ts,(j, .cells [(t.sz, .val t x)])::Γ.ss⟩:=by
 rintro E rv fp f H R _ ⟨⟩
 have hv:=T.V.cells (ha E rv fp f H R)
 have hl:=t.len hv
 have hm:=t.men hv R.ltP
 obtain⟨rv',fp',h1,h2,h3⟩:=R.more (j:=j) (S:= .cells [(t.sz, .val t x)]) (v:= .ptr H.length 0) (o:= .cells (some t0) (cellsOf (eval tb f a))) (Ht hj) (by simp only[E7];omega) rfl (by simp[Cc]) rfl fun rv' fp' e1 e2 hP hs=>
  ⟨_,cellsOf (eval tb f a),e1,e2,by simp[C3],cellsOf (eval tb f a),[],(dv _).symm,hl,t.mono hP hv,rfl⟩
 refine⟨.ptr H.length 0,some (H++[CB.cells (some t0) (cellsOf (eval tb f a))]),by simp only[BC];rw[qn (by rw[hl,hn])],rv',fp',h3.push (φ:= .cp j 0) ⟨h2,_,h1,rfl⟩⟩
def appG{α:Type}:GS α→List α→GS α
 | .nil,[]=> .nil
 | .nil,l=> .mk l
 | .mk a,l=> .mk (a++l)
theorem B8.moreNil{E:R7}{rv:Nat→AV}{fp:Fp}{f:Fr}{H:Az}(R:B8 E Γ rv fp f H){j:Nat}(t:T)(hj: ¬Bo Γ.ss j): ∃rv' fp',rv' j= .nils∧Bo ((j, .row t .nil)::Γ.ss) j∧B8 E ⟨Γ.ts,(j, .row t .nil)::Γ.ss⟩ rv' fp' f H:=
 R.chg (F:=fun _=>False) (v:= .nils) (G:=H) (by
   cases e:DH (AM Γ.ss j)with
   |false=>rfl
   |true=>exact absurd (M5 e) hj) rfl (be _) (fun _ _ _=>rfl) (fun _ h=>h.elim) (fun l=>absurd l hj) R.wf (by simp[Cc]) (.inr rfl) fun rv' fp' e1 e2 _ _=>⟨e1,fun i h=>by rw[e2]at h;exact h⟩
theorem Ma{t:T}{n j:Nat}(hj:AM Γ.ss j=none)(ha:BM Γ.ts n=some (.val (T.sl t) .nil)): ∀E f H,Rel E Γ f H→Rel E ⟨(n, .own j)::Γ.ts,(j, .row t .nil)::Γ.ss⟩ f H:=by
 rintro E f H ⟨rv,fp,R⟩
 obtain⟨rv',fp',h1,h2,I⟩:=R.moreNil t (Ht hj)
 have hv:get f n= .nils:=Iy.1 (R.temps n _ ha)
 refine⟨rv',fp',I.le,I.base,I.wf,I.fplt,I.rvlt,I.scal,I.inj,I.slots,fun u φ e=> ?_,I.gh⟩
 simp only[BM]at e
 split at e
 ·rename_i hu
  cases e
  subst hu
  exact⟨h2,by rw[h1,hv]⟩
 ·exact I.temps u φ e
end
end
section
section
variable{tb:Di}{Γ:Cx}{a b:AO}
def NewL(tb:Di)(Γ:Cx)(a:AO)(t:T)(l:List t.α):Prop:= ∀E rv fp f H,B8 E Γ rv fp f H→ ∃els,mW H t.sz (eval tb f a)=some els∧CL t (Pf E Γ.ss fp H) H els l
theorem Mj{t:T}{g:GS t.α}(ha:Cd tb Γ a (.val (T.sl t) g)):NewL tb Γ a t g.l:=by
 intro E rv fp f H R
 have hv:=Iy.1 (ha E rv fp f H R)
 obtain⟨els,e,h⟩:=hv.els
 refine⟨els,?_,h⟩
 have hs:=hv.sca
 cases hx:eval tb f a<;>rw[hx]at e hv<;>first
  |exact e
  |(cases g<;>first|(have hv':=hv;cases hv';done)|(have:=hv.1;simp only[Mc]at this;done))
theorem fT{P:Nat→Prop}{H:Az}: ∀l:AG,CL T.u8 P H (BQ l) l
 |[]=>trivial
 |c::l=>⟨rfl,fT l⟩
def M7{α:Type}(bytes:Nat)(g:GS α)(l:List α):Option (GS α):=if(g.l.length+l.length)*bytes≤Bs then some (appG g l)else none
theorem S8: ∀(x y:List (List AV)),Dc (x++y)=max (Dc x) (Dc y)
 |[],y=>by simp[Dc]
 |z::x,y=>by simp only[dt,Dc,S8 x y];omega
theorem HA{t:T}{g:GS t.α}{l:List t.α}{d j t0 sz bytes:Nat}(hs:sz=t.sz)(ha:Cd tb Γ a (.own j))(hj:AM Γ.ss j=some (.row t g))(hb:NewL tb Γ b t l):
  XN tb Γ (some d) (.app t0 sz bytes a b) (M7 bytes g l) fun g'=>⟨(d, .own j)::(Γ.kill j).ts,(j, .row t g')::(Γ.kill j).ss⟩:=by
 intro E rv fp f H R g' hg
 simp only[M7]at hg
 split at hg
 ·rename_i hle
  cases hg
  subst hs
  obtain⟨els,e,hels⟩:=hb E rv fp f H R
  have hel:=hels.length
  have hlive:Bo Γ.ss j:=Nz hj rfl
  have hnk:DH (AM Γ.ss j)=false:=by rw[hj];rfl
  have hka:=qI R hnk
  have K:=R.kill j hnk
  have hkk:DH (AM (Γ.kill j).ss j)=false:=by rw[Cx.kill];simp only[Hy,V7];exact hnk
  have hkl:Bo (Γ.kill j).ss j:=Up.2 hlive
  have hslot:=R.slots j _ hj
  have hPk: ∀i,Pf E Γ.ss fp H i→Pf E (Γ.kill j).ss fp H i:=fun i=>Pf.same fun k l=>Up.1 l
  have hels':=hels.mono (Q:=Pf E (Γ.kill j).ss fp H) (G:=H) fun i hi=>⟨hPk i hi,rfl⟩
  have hmen:=hels'.men K.ltP
  obtain⟨_,hv⟩:=ha E rv fp f H R
  simp only[BC,e,aa,hv]
  cases g with
  |nil=>
   obtain⟨hr,hf⟩:=hslot
   rw[hr]
   simp only[GS.l,bz,da]at hle
   cases l with
   |nil=>
    have:els=[]:=fb.1 hel
    subst this
    obtain⟨rv',fp',h1,h2,h3⟩:=K.chg (j:=j) (S:= .row t .nil) (v:= .nils) (F:=fp j) (G:=H) hkk rfl (be _) (fun _ _ _=>rfl) (fun i hi=>absurd hi (hf i)) (fun _=> .inr hka) K.wf (by simp[Cc]) (.inr rfl)
     fun rv' fp' e1 e2 _ _=>⟨e1,fun i=>by rw[e2];exact hf i⟩
    exact⟨.nils,none,rfl,rv',fp',h3.push (φ:= .own j) ⟨h2,h1.symm⟩⟩
   |cons x l=>
    have hne: ¬els.length=0:=by rw[hel];simp
    obtain⟨rv',fp',h1,h2,h3⟩:=K.chg (j:=j) (S:= .row t (.mk (x::l))) (v:= .orow H.length els.length 0 els.length) (F:=fun i=>i=H.length) (G:=H++[.row (some t0) false t.sz els]) hkk rfl (by simp) (fun i hi _=>br hi)
     (fun i hi=> .inr ⟨by omega,by simp;omega⟩) (fun _=> .inr hka) (by rw[RN];have:=K.wf;simp only[D1,E7,aw,bb,bz];omega) (by simp[Cc]) (.inr rfl)
     fun rv' fp' e1 e2 hP _=>⟨_,els,e1,fun i=>by rw[e2],by simp[rowAt],hels'.mono hP⟩
    refine⟨.orow H.length els.length 0 els.length,some (H++[CB.row (some t0) false t.sz els]),?_,rv',fp',h3.push (φ:= .own j) ⟨h2,h1.symm⟩⟩
    simp only[Wg,qo hne]
    rw[qn (by rw[hel];exact hle)]
  |mk q=>
   obtain⟨id,old,hr,hf,h2,h3⟩:=hslot
   rw[hr]
   have hlen:=h3.length
   have h3':=h3.mono (Q:=Pf E (Γ.kill j).ss fp H) (G:=H) fun i hi=>⟨hPk i hi,rfl⟩
   have hm3:=h3'.men K.ltP
   have hidlt:=(K.fplt j id hkl ((hf id).2 rfl)).1
   simp only[GS.l]at hle
   simp only[Wg,h2,aa]
   rw[qn ⟨trivial,trivial,trivial,trivial,by rw[hlen,hel];exact hle,trivial⟩]
   by_cases h0:els.length=0
   ·rw[qn h0]
    have hnil:els=[]:=fb.1 h0
    subst hnil
    have hl0:l=[]:=fb.1 hel.symm
    subst hl0
    obtain⟨rv',fp',g1,g2,g3⟩:=K.chg (j:=j) (S:= .row t (.mk q)) (v:=rv j) (F:=fp j) (G:=H) hkk rfl (be _) (fun _ _ _=>rfl) (fun i hi=> .inl ⟨hkl,hi⟩) (fun _=> .inl rfl) K.wf (K.rvlt j hkl) (.inr (by rw[hr];rfl))
     fun rv' fp' e1 e2 hP _=>⟨id,old,by rw[e1];exact hr,by rw[e2];exact hf,h2,h3'.mono hP⟩
    refine⟨.orow id old.length 0 old.length,none,rfl,rv',fp',?_⟩
    have:=g3.push (d:=d) (φ:= .own j) (v:=rv j) ⟨g2,g1.symm⟩
    rw[hr]at this
    simpa [appG,Cx.push]using this
   ·rw[qo h0]
    obtain⟨rv',fp',g1,g2,g3⟩:=K.set (j:=j) (S:= .row t (.mk (q++l))) (v:= .orow id (old++els).length 0 (old++els).length) (o:= .row (W9 (ED H id) t0) false t.sz (old++els)) hkk hkl hf (by simp only[E7,S8];omega) rfl (by simp only[Cc];omega) (.inr hka) (.inr rfl)
     fun rv' fp' e1 e2 hP _=>⟨id,old++els,e1,e2,by simp[rowAt,hidlt],(h3'.app hels').mono hP⟩
    refine⟨.orow id (old++els).length 0 (old++els).length,some (H.set id (.row (W9 (ED H id) t0) false t.sz (old++els))),by rw[aw],rv',fp',g3.push (φ:= .own j) ⟨g2,g1.symm⟩⟩
 ·cases hg
def mkG{α:Type}(z:α)(bytes:Nat)(l c:Int):Option (GS α):=if 0≤l∧l≤c∧c*bytes≤Bs then some (.mk (aq l.toNat z))else none
theorem all_zero{t:T}{P:Nat→Prop}{H:Az}: ∀n,CL t P H (aq n t.zc) (aq n t.z)
 |0=>trivial
 |n+1=>⟨t.hz P H,all_zero n⟩
theorem W6{z:List AV}(h:B0 z≤0): ∀n,Dc (aq n z)≤0
 |0=>by simp[Dc]
 |n+1=>by simp only[jg,Dc];have:=W6 h n;omega
theorem M_mks{t:T}{d t0 sz bytes:Nat}{zero:List AV}{k k':IntKind}{l c:Int}(j:Nat)(hs:sz=t.sz)(hz:zero=t.zc)(hj:AM Γ.ss j=none)(ha:Cd tb Γ a (.val (T.int k) l))(hb:Cd tb Γ b (.val (T.int k') c)):
  XN tb Γ (some d) (.mks t0 sz bytes zero a b) (mkG t.z bytes l c) fun g=>⟨(d, .own j)::Γ.ts,(j, .row t g)::Γ.ss⟩:=by
 intro E rv fp f H R g hg
 simp only[mkG]at hg
 split at hg
 ·rename_i hc
  cases hg
  subst hs hz
  have hzm:B0 t.zc≤0:=t.men (t.hz (fun _=>False) []) (fun _ h=>h.elim)
  have hzz:=W6 hzm l.toNat
  obtain⟨rv',fp',h1,h2,h3⟩:=R.more (j:=j) (S:= .row t (.mk (aq l.toNat t.z))) (v:= .orow H.length l.toNat 0 l.toNat) (o:= .row (some t0) false t.sz (aq l.toNat t.zc)) (Ht hj) (by simp only[E7];omega) rfl (by simp[Cc]) rfl fun rv' fp' e1 e2 hP hs=>
   ⟨_,aq l.toNat t.zc,by simpa using e1,e2,by simp[rowAt],all_zero _⟩
  refine⟨.orow H.length l.toNat 0 l.toNat,some (H++[CB.row (some t0) false t.sz (aq l.toNat t.zc)]),?_,rv',fp',h3.push (d:=d) (φ:= .own j) ⟨h2,h1.symm⟩⟩
  simp only[BC,BX.1 (ha E rv fp f H R),BX.1 (hb E rv fp f H R),HE,aa]
  rw[qn hc]
 ·cases hg
theorem own_v{t:T}{g:GS t.α}{j:Nat}(ha:Cd tb Γ a (.own j))(hj:AM Γ.ss j=some (.row t g)){E:R7}{rv:Nat→AV}{fp:Fp}{f:Fr}{H:Az}(R:B8 E Γ rv fp f H):
  (g= .nil∧eval tb f a= .nils)∨ ∃id els l,g= .mk l∧rv j= .orow id els.length 0 els.length∧(∀i,fp j i↔i=id)∧rowAt H id=some (false,t.sz,els)∧CL t (Pf E Γ.ss fp H) H els l∧eval tb f a= .orow id els.length 0 els.length:=by
 obtain⟨_,hv⟩:=ha E rv fp f H R
 have hs:=R.slots j _ hj
 cases g with
 |nil=>exact .inl ⟨rfl,hv.trans hs.1⟩
 |mk l=>
  obtain⟨id,els,h1,h0,h2,h3⟩:=hs
  exact .inr ⟨id,els,l,rfl,h1,h0,h2,h3,hv.trans h1⟩
theorem h_lenO{t:T}{g:GS t.α}{j:Nat}(ha:Cd tb Γ a (.own j))(hj:AM Γ.ss j=some (.row t g)):Fa tb Γ (.len a) (some (g.l.length:Int)) fun z=> .val qj z:=by
 rintro E rv fp f H R z ⟨⟩
 rcases own_v ha hj R with ⟨rfl,hv⟩|⟨id,els,l,rfl,_,_,_,h,hv⟩
 ·exact⟨_,none,by simp only[BC,hv,Pn,an];rfl,rfl,BX.2 rfl⟩
 ·exact⟨_,none,by simp only[BC,hv,Pn,an,h.length];rfl,rfl,BX.2 rfl⟩
def BU(n:Nat)(i:Int):Option Nat:=if 0≤i∧i.toNat<n then some i.toNat else none
theorem NK{t:T}{g:GS t.α}{j sz:Nat}{k:IntKind}{i:Int}(hs:sz=t.sz)(ha:Cd tb Γ a (.own j))(hj:AM Γ.ss j=some (.row t g))(hb:Cd tb Γ b (.val (T.int k) i)):
  Fa tb Γ (.ias sz a b) (BU g.l.length i) fun n=> .ep j n 0:=by
 intro E rv fp f H R n hn
 simp only[BU]at hn
 split at hn
 ·rename_i hc
  cases hn
  subst hs
  have hl:Bo Γ.ss j:=Nz hj rfl
  rcases own_v ha hj R with ⟨rfl,hv⟩|⟨id,els,l,rfl,hid,_,hr,h,hv⟩
  ·simp[GS.l]at hc
  ·have hlen:=h.length
   simp only[GS.l]at hc
   have hx:SD H t.sz (.orow id els.length 0 els.length) i.toNat=some (.pe id els.length (0+i.toNat) 0):=by
    simp[SD,E4,hr,hlen,hc.2]
   refine⟨.pe id els.length (0+i.toNat) 0,none,by simp only[BC,hv,BX.1 (hb E rv fp f H R),HE,aa,qn hc.1,hx,val,an],rfl,hl,id,els.length,hid,by omega,by rw[da]⟩
 ·cases hn
theorem fA{t u:T}{g:GS t.α}{j i off n:Nat}{ag:Bool}(hag:ag=u.agg)(hn:n=u.sz)(F:AR t u off)(ha:Cd tb Γ a (.ep j i off))(hj:AM Γ.ss j=some (.row t g)):Fa tb Γ (.ld ag n a) ((g.l[i]?).map F.get) fun z=> .val u z:=by
 intro E rv fp f H R z hz
 obtain⟨x,hx,rfl⟩:=aj.1 hz
 obtain⟨_,id,m,hid,hi,hv⟩:=ha E rv fp f H R
 have hs:=R.slots j _ hj
 cases g with
 |nil=>simp[GS.l]at hx
 |mk l=>
  obtain⟨id',els,h1,h0,h2,h3⟩:=hs
  rw[hid]at h1;cases h1
  obtain⟨c,hc,hr⟩:=h3.get hx
  have hle:=F.le
  have hl:=t.len hr
  obtain⟨v,g1,g2⟩:=T.V.of (F.getR hr)
  subst hag hn
  refine⟨v,none,?_,rfl,g2⟩
  have hlf:off+u.sz≤((els.drop i).flatten).length:=by rw[OB hc];simp;omega
  simp only[BC,hv,Am.load,place,h2,aa,qn,an,qn hlf,val]
  rw[OB hc,Yo (by omega),g1];rfl
def GS.set{α:Type}:GS α→Nat→α→GS α
 | .nil,_,_=> .nil
 | .mk l,i,x=> .mk (l.set i x)
theorem wR{t u:T}{g:GS t.α}{y:u.α}{j i off n:Nat}(hn:n=u.sz)(F:AR t u off)(ha:Cd tb Γ a (.ep j i off))(hb:Cd tb Γ b (.val u y))(hj:AM Γ.ss j=some (.row t g)):
  XN tb Γ none (.st n a b) ((g.l[i]?).map fun x=>g.set i (F.put x y)) fun g'=>Γ.setS j (.row t g'):=by
 intro E rv fp f H R g' hg
 obtain⟨x,hx,rfl⟩:=aj.1 hg
 obtain⟨hl,id,m,hid,hi,hv⟩:=ha E rv fp f H R
 have hs:=R.slots j _ hj
 cases g with
 |nil=>simp[GS.l]at hx
 |mk l=>
  obtain⟨id',els,h1,h0,h2,h3⟩:=hs
  rw[hid]at h1;cases h1
  obtain⟨c,hc,hr⟩:=h3.get hx
  have hle:=F.le
  have hlen:=t.len hr
  have hy:=T.V.cells (hb E rv fp f H R)
  have hyl:=u.len hy
  have hput:=F.putR hr hy
  have hidlt:=(R.fplt j id hl ((h0 id).2 rfl)).1
  have hall:=h3.set (i:=i) hput
  have hmm:=hall.men R.ltP
  obtain⟨rv',fp',_,_,R'⟩:=R.set (j:=j) (S:= .row t (GS.set (.mk l) i (F.put x y))) (v:=rv j) (o:= .row (ED H id) false t.sz (els.set i (BA c off (cellsOf (eval tb f b))))) (by rw[hj];rfl) hl h0 (by simpa [E7]using hmm) rfl (R.rvlt j hl) (.inl rfl) (R.scal j hl)
   fun rv' fp' e1 e2 hP _=>⟨id,_,by rw[e1,hid,fy],e2,by simp[rowAt,hidlt],hall.mono hP⟩
  refine⟨.junk,some (H.set id (.row (ED H id) false t.sz (els.set i (BA c off (cellsOf (eval tb f b)))))),?_,rv',fp',R'⟩
  subst hn
  simp only[BC,hv,store,h2,aa]
  rw[qn ⟨trivial,trivial,hyl⟩]
  simp only[hc,aa]
  rw[qn (show off+u.sz≤c.length by omega)]
  rfl
end
end
section
section
variable{tb:Di}{Γ:Cx}{a b:AO}
theorem Wb{P:Nat→Prop}{H:Az}: ∀{els:List (List AV)} {l:AG},CL T.u8 P H els l→EY els=some l
 |[],[],_=>rfl
 |c::els,x::l,h=>by
  have hc:c=[.i .u8 x.toNat]:=h.1
  subst hc
  simp only[EY,Wb h.2,an]
  congr 2
  simp
theorem h_cvs{g:GS UInt8}(ha:Cd tb Γ a (.val (T.sl T.u8) g)):Fa tb Γ (.cvs a) (some g.l) fun z=> .val Ak z:=by
 rintro E rv fp f H R z ⟨⟩
 obtain⟨els,e,h⟩:=(Iy.1 (ha E rv fp f H R)).els
 refine⟨.s g.l,none,?_,rfl,Ep.2 rfl⟩
 have e':E4 H 1 (eval tb f a)=some els:=e
 simp only[BC,e',aa,Wb h,val];rfl
theorem h_cvsO{g:GS UInt8}{j:Nat}(ha:Cd tb Γ a (.own j))(hj:AM Γ.ss j=some (.row T.u8 g)):Fa tb Γ (.cvs a) (some g.l) fun z=> .val Ak z:=by
 rintro E rv fp f H R z ⟨⟩
 refine⟨.s g.l,none,?_,rfl,Ep.2 rfl⟩
 rcases own_v ha hj R with ⟨rfl,hv⟩|⟨id,els,l,rfl,_,_,hr,h,hv⟩
 ·simp only[BC,hv,E4,aa,EY,val];rfl
 ·have e':E4 H 1 (eval tb f a)=some els:=by
   have hr':rowAt H id=some (false,1,els):=hr
   simp[hv,E4,hr']
  simp only[BC,e',aa,Wb h,val];rfl
def Vz{α:Type}(g:GS α)(c d:Nat):GS α:=match g with
 | .nil=> .nil
 | .mk l=> .mk ((l.take d).drop c)
def slG{α:Type}(g:GS α)(lo hi:Option Int):Option (GS α):=(Qr g.l.length lo hi).map fun p=>Vz g p.1 p.2
theorem bnd_le{n:Nat}{lo hi:Option Int}{p:Nat×Nat}(h:Qr n lo hi=some p):p.1≤p.2∧p.2≤n:=by
 unfold Qr at h
 obtain⟨u,hu,h⟩:=ab.1 h
 obtain⟨l,hl,h⟩:=ab.1 h
 cases h
 have h1:u≤n:=by
  cases hi with
  |none=>cases hu;omega
  |some m=>simp only[]at hu;split at hu<;>cases hu;omega
 have h2:l≤u:=by
  cases lo with
  |none=>cases hl;omega
  |some m=>simp only[]at hl;split at hl<;>cases hl;omega
 exact⟨h2,h1⟩
theorem MS{sz:Nat}: ∀{len c d:Nat} {l:List AV},c≤d→d≤len→((BR sz len l).take d).drop c=BR sz (d-c) (l.drop (c*sz))
 |len,0,0,l,_,_=>by simp[BR]
 |len,c+1,0,l,h,_=>by omega
 |0,c,d+1,l,_,h=>by omega
 |len+1,0,d+1,l,_,h=>by
  have:=MS (sz:=sz) (len:=len) (c:=0) (d:=d) (l:=l.drop sz) (by omega) (by omega)
  simp only[db,jb,m7]at this
  simp[BR,this]
 |len+1,c+1,d+1,l,h1,h2=>by
  have:=MS (sz:=sz) (len:=len) (c:=c) (d:=d) (l:=l.drop sz) (by omega) (by omega)
  simp only[BR,im,jd,this,ck,ci]
  rw[show d+1-(c+1)=d-c by omega,pc sz]
theorem Sb.resl{t:T}{P:Nat→Prop}{H:Az}{v:AV}{c d:Nat}(h1:c≤d): ∀{g:GS t.α},d≤g.l.length→Sb t P H v g→ ∃w,Am.resl H t.sz v c d=some w∧Sb t P H w (Vz g c d)
 | .nil,_,h=>by rw[show v=_ from h];exact⟨.nils,rfl,rfl⟩
 | .mk l,hd,⟨bp,els,e,h⟩=>by
  have hl:=h.length
  simp only[GS.l]at hd
  have hall:=h.take (n:=d) |>.drop (n:=c)
  cases v<;>simp only[Mc]at bp<;>simp only[E4]at e
  ·split at e
   ·rename_i hs
    cases e
    subst hs
    exact⟨.sl t.sz ((els.take d).drop c),by simp[Am.resl],trivial,_,by simp[E4],hall⟩
   ·cases e
  ·rename_i id k lo len
   obtain⟨r,hr,e⟩:=ab.1 e
   split at e
   ·rename_i hc
    cases e
    rw[a6,bh]at hl
    refine⟨.orow id k (lo+c) (d-c),by simp only[Am.resl,hr,aa];rw[qn hc],bp,(r.2.2.drop (lo+c)).take (d-c),?_,?_⟩
    ·simp only[E4,hr,aa]
     rw[qn ⟨hc.1,hc.2.1,by omega⟩]
    ·have:(((r.2.2.drop lo).take len).take d).drop c=(r.2.2.drop (lo+c)).take (d-c):=by
      rw[ji,f3 (by omega),gb,ck]
     rw[this]at hall
     exact hall
   ·cases e
  ·rename_i sz' id off len
   obtain⟨r,hr,e⟩:=ab.1 e
   split at e
   ·rename_i hc
    have he:some (BR t.sz len (r.drop off))=some els:=e
    cases he
    obtain⟨hs,hc⟩:=hc
    subst hs
    have hcl:(BR t.sz len (r.drop off)).length=len:=by
     have: ∀(n:Nat) (l:List AV),(BR t.sz n l).length=n:=by
      intro n
      induction n with
      |zero=>intro l;rfl
      |succ n ih=>intro l;simp[BR,ih]
     exact this _ _
    rw[hcl]at hl
    refine⟨.ocel t.sz id (off+c*t.sz) (d-c),by simp only[Am.resl,qt],bp,BR t.sz (d-c) (r.drop (off+c*t.sz)),?_,?_⟩
    ·have hmul:(d-c)*t.sz+c*t.sz≤len*t.sz:=by
      rw[←fx];exact cr _ (by omega)
     simp only[E4,hr,aa]
     rw[qn ⟨trivial,by omega⟩]
    ·have:=MS (sz:=t.sz) (len:=len) (c:=c) (d:=d) (l:=r.drop off) h1 (by omega)
     rw[this,ck]at hall
     exact hall
   ·cases e
theorem h_sll{t:T}{g:GS t.α}{sz:Nat}{lo hi:Option AO}{l h:Option Int}(hs:sz=t.sz)(ha:Cd tb Γ a (.val (T.sl t) g))(hl:OpO tb Γ lo l)(hh:OpO tb Γ hi h):Fa tb Γ (.sll sz a lo hi) (slG g l h) fun z=> .val (T.sl t) z:=by
 intro E rv fp f H R z hz
 obtain⟨p,hp,rfl⟩:=aj.1 hz
 have hv:=Iy.1 (ha E rv fp f H R)
 obtain⟨h1,h2⟩:=bnd_le hp
 obtain⟨w,h3,h4⟩:=hv.resl h1 h2
 subst hs
 exact⟨w,none,by simp only[BC,hv.len,aa,Wd hl hh R,hp,h3,val,an],rfl,Iy.2 h4⟩
inductive uP(tb:Di)(Γ:Cx)(t:T):List (Nat×Nat×AO)→t.α→t.α→Prop where
 |nil (x:t.α):uP tb Γ t [] x x
 |cons {u:T} {off n:Nat} {a:AO} {r:List (Nat×Nat×AO)} {x z:t.α} {y:u.α} (F:AR t u off) (hn:n=u.sz) (h:Cd tb Γ a (.val u y)) (k:uP tb Γ t r (F.put x y) z):uP tb Γ t ((off,n,a)::r) x z
theorem uP.spec{t:T}{E:R7}{rv:Nat→AV}{fp:Fp}{f:Fr}{H:Az}(R:B8 E Γ rv fp f H): ∀{ps:List (Nat×Nat×AO)} {x z:t.α} {cs:List AV},uP tb Γ t ps x z→t.R (Pf E Γ.ss fp H) H cs x→
  ∃ds,MP cs (eval tb f) ps=some ds∧t.R (Pf E Γ.ss fp H) H ds z
 |_,_,_,cs, .nil _,h=>⟨cs,rfl,h⟩
 |_,_,_,cs, .cons (u:=u) (off:=off) F hn ho k,h=>by
  have hv:=T.V.cells (ho E rv fp f H R)
  have hl:=u.len hv
  have hle:=F.le
  have ht:=t.len h
  obtain⟨ds,h1,h2⟩:=k.spec R (F.putR h hv)
  refine⟨ds,?_,h2⟩
  simp only[MP]
  rw[qn ⟨by rw[hl,hn],by omega⟩]
  exact h1
theorem C9{t:T}{zero:List AV}{ps:List (Nat×Nat×AO)}{z:t.α}(hz:zero=t.zc)(ht:t.agg=true)(h:uP tb Γ t ps t.z z):Fa tb Γ (.bld zero ps) (some z) fun z=> .val t z:=by
 rintro E rv fp f H R _ ⟨⟩
 subst hz
 obtain⟨ds,h1,h2⟩:=h.spec R (t.hz _ _)
 exact⟨.agg ds,none,by simp only[BC,h1,an,val],rfl, .inl ⟨ht,ds,rfl,h2⟩⟩
inductive uO(tb:Di)(Γ:Cx)(t:T):List (Nat×AO)→List t.α→List t.α→Prop where
 |nil (l:List t.α):uO tb Γ t [] l l
 |cons {i:Nat} {a:AO} {r:List (Nat×AO)} {l m:List t.α} {y:t.α} (hi:je i l.length=true) (h:Cd tb Γ a (.val t y)) (k:uO tb Γ t r (l.set i y) m):uO tb Γ t ((i,a)::r) l m
theorem uO.spec{t:T}{E:R7}{rv:Nat→AV}{fp:Fp}{f:Fr}{H:Az}(R:B8 E Γ rv fp f H): ∀{ps:List (Nat×AO)} {l m:List t.α} {els:List (List AV)},uO tb Γ t ps l m→CL t (Pf E Γ.ss fp H) H els l→
  ∃ds,LA els t.sz (eval tb f) ps=some ds∧CL t (Pf E Γ.ss fp H) H ds m
 |_,_,_,els, .nil _,h=>⟨els,rfl,h⟩
 |_,_,_,els, .cons (i:=i) hi ho k,h=>by
  have hv:=T.V.cells (ho E rv fp f H R)
  have hl:=t.len hv
  have hlen:=h.length
  rw[UK]at hi
  obtain⟨ds,h1,h2⟩:=k.spec R (h.set (i:=i) hv)
  refine⟨ds,?_,h2⟩
  simp only[LA]
  rw[qn ⟨hl,by omega⟩]
  exact h1
theorem Hh{t:T}{zero:List (List AV)}{sz n:Nat}{ps:List (Nat×AO)}{l:List t.α}(hs:sz=t.sz)(hz:zero=aq n t.zc)(h:uO tb Γ t ps (aq n t.z) l):Fa tb Γ (.bll sz zero ps) (some l) fun l=> .val (T.sl t) (.mk l):=by
 rintro E rv fp f H R _ ⟨⟩
 subst hz hs
 obtain⟨ds,h1,h2⟩:=h.spec R (CL.rep (t.hz _ _) n)
 exact⟨.sl t.sz ds,none,by simp only[BC,h1,an,val],rfl,Iy.2 ⟨trivial,ds,by simp[E4],h2⟩⟩
theorem Ar.get_lt{α:Type}{n:Nat}(x:Ar α n){i:Nat}{y:α}(h:x.l[i]? =some y):i<n:=by
 have:=(ca.1 h).1
 have:=x.len
 omega
theorem oA{sz:Nat}: ∀{l:List (List AV)} {i:Nat} {c:List AV},(∀e∈l,e.length=sz)→l[i]? =some c→sub l.flatten (i*sz) sz=c
 |[],i,c,_,h=>by simp at h
 |d::l,0,c,hl,h=>by
  simp only[bx,ae]at h
  subst h
  have:=hl d bj
  simp[sub,this]
 |d::l,i+1,c,hl,h=>by
  simp only[c0]at h
  have h1:=hl d bj
  have:=oA (l:=l) (fun e he=>hl e (bg _ he)) h
  simp only[sub]at this ⊢
  rw[bm,show(i+1)*sz=d.length+i*sz by rw[ci];omega,←ck,ez rfl]
  exact this
theorem WD{sz:Nat}: ∀{l:List (List AV)} {i:Nat} {c:List AV},(∀e∈l,e.length=sz)→i<l.length→c.length=sz→BA l.flatten (i*sz) c=(l.set i c).flatten
 |[],i,c,_,h,_=>by simp at h
 |d::l,0,c,hl,h,hc=>by
  have:=hl d bj
  simp only[BA,jb,j5,da,dw,ir,bm]
  rw[hc,←this,ez rfl]
 |d::l,i+1,c,hl,h,hc=>by
  have h1:=hl d bj
  have ih:=WD (l:=l) (fun e he=>hl e (bg _ he)) (by simpa using h) hc
  simp only[BA]at ih ⊢
  rw[bm,jo,bm,←ih,show(i+1)*sz=d.length+i*sz by rw[ci];omega]
  rw[gw,av (by omega),show d.length+i*sz-d.length=i*sz by omega]
  rw[show d.length+i*sz+c.length=d.length+(i*sz+c.length) by omega,←ck,ez rfl]
  simp
def AR.at(n:Nat)(t:T)(i:Nat)(hi:i<n):AR (T.arr n t) t (i*t.sz) where
 get:=fun x=>x.l[i]'(by rw[x.len];exact hi)
 put:=fun x y=>x.set i y
 le:=by
  show i*t.sz+t.sz≤n*t.sz
  rw[←ci];exact cr _ hi
 getR:=fun{P H cs x} ⟨css,e,h⟩=>by
  obtain⟨c,hc,hr⟩:=h.get (i:=i) (x:=x.l[i]'(by rw[x.len];exact hi)) (ad _)
  rw[e,oA h.lens hc];exact hr
 putR:=fun{P H cs x c y} ⟨css,e,h⟩ k=>by
  have hlen:=h.length
  have hx:=x.len
  have hc:=t.len k
  exact⟨css.set i c,by rw[e];exact WD h.lens (by omega) hc,h.set k⟩
def Ko{t u w:T}{o o':Nat}(F:AR t u o)(G:AR u w o'):AR t w (o+o') where
 get:=fun x=>G.get (F.get x)
 put:=fun x y=>F.put x (G.put (F.get x) y)
 le:=by have:=F.le;have:=G.le;omega
 getR:=fun{P H cs x} h=>by
  have h1:=F.le
  have h2:=G.le
  have h3:=t.len h
  have:=G.getR (F.getR h)
  rw[show sub cs (o+o') w.sz=sub (sub cs o u.sz) o' w.sz by
   simp only[sub]
   rw[gb,ji,ck,f3 (by omega)]]
  exact this
 putR:=fun{P H cs x c y} h k=>by
  have h1:=F.le
  have h2:=G.le
  have h3:=t.len h
  have h4:=w.len k
  have:=F.putR h (G.putR (F.getR h) k)
  rw[show BA cs (o+o') c=BA cs o (BA (sub cs o u.sz) o' c) by
   have hsl:(BA (sub cs o u.sz) o' c).length=u.sz:=by
    rw[Yp]<;>simp only[sub,a6,bh]<;>omega
   apply ii
   intro i
   simp only[BA,sub,List.getElem?_append,dp,eo,aw,a6,bh]
   have hl2:(BA (sub cs o u.sz) o' c).length=u.sz:=hsl
   simp only[BA,sub,aw,a6,bh]at hl2
   repeat' split
   all_goals first|rfl|omega|(congr 1;omega)|(exfalso;omega)]
  exact this
theorem eV{n:Nat}{i:Int}{m:Nat}(h:BU n i=some m):0≤i∧m=i.toNat∧m<n:=by
 unfold BU at h
 split at h
 ·rename_i hc;cases h;exact⟨hc.1,rfl,hc.2⟩
 ·cases h
theorem C0{j o len sz:Nat}{k:IntKind}{i:Int}(ha:Cd tb Γ a (.cp j o))(hb:Cd tb Γ b (.val (T.int k) i)):Fa tb Γ (.iaa len sz a b) (BU len i) fun m=> .cp j (o+m*sz):=by
 intro E rv fp f H R m hm
 obtain⟨h0,rfl,h1⟩:=eV hm
 obtain⟨l,id,e,hv⟩:=ha E rv fp f H R
 exact⟨.ptr id (o+i.toNat*sz),none,by simp only[BC,hv,BX.1 (hb E rv fp f H R),HE,aa,qn (show 0≤i∧i<(len:Int) by omega),shift,val,an],rfl,l,id,e,rfl⟩
theorem h_iaa{t:T}{n len sz:Nat}{x:Ar t.α n}{k:IntKind}{i:Int}(hl:len=n)(hs:sz=t.sz)(ha:Cd tb Γ a (.rp (T.arr n t) x))(hb:Cd tb Γ b (.val (T.int k) i)):Fa tb Γ (.iaa len sz a b) (Dj x.l i) fun y=> .rp t y:=by
 intro E rv fp f H R y hy
 simp only[Dj]at hy
 split at hy
 ·rename_i h0
  have hlt:=x.get_lt hy
  subst hl hs
  obtain⟨v,h1,h2⟩:=qM.shift (AR.at len t i.toNat hlt) (ha E rv fp f H R)
  have:(AR.at len t i.toNat hlt).get x=y:=by
   have:=ca.1 hy
   exact this.2
  rw[this]at h2
  exact⟨v,none,by simp only[BC,BX.1 (hb E rv fp f H R),HE,aa,qn (show 0≤i∧i<(len:Int) by omega),h1,val,an],rfl,h2⟩
 ·cases hy
theorem h_ixa{t:T}{n len sz:Nat}{x:Ar t.α n}{ag:Bool}{k:IntKind}{i:Int}(hl:len=n)(hs:sz=t.sz)(hag:ag=t.agg)(ha:Cd tb Γ a (.val (T.arr n t) x))(hb:Cd tb Γ b (.val (T.int k) i)):Fa tb Γ (.ixa len sz ag a b) (Dj x.l i) fun y=> .val t y:=by
 intro E rv fp f H R y hy
 simp only[Dj]at hy
 split at hy
 ·rename_i h0
  have hlt:=x.get_lt hy
  subst hl hs hag
  rcases ha E rv fp f H R with ⟨_,cs,e,r⟩|⟨e,_⟩
  ·have hg:=(AR.at len t i.toNat hlt).getR r
   have:(AR.at len t i.toNat hlt).get x=y:=(ca.1 hy).2
   rw[this]at hg
   obtain⟨v,h1,h2⟩:=T.V.of hg
   have hlen:=(T.arr len t).len r
   have hlen':cs.length=len*t.sz:=hlen
   exact⟨v,none,by simp only[BC,e,BX.1 (hb E rv fp f H R),HE,aa,qn (show 0≤i∧i<(len:Int)∧len*t.sz≤cs.length by omega),h1,val,an],rfl,h2⟩
  ·cases e
 ·cases hy
theorem GB{s t:T}{x:s.α}{n j o o' m k N:Nat}{ag:Bool}{ps:List (Nat×AW)}(F:AR s (T.arr n t) o')(hag:ag=t.agg)(hk:k=t.sz)(ha:Cd tb Γ a (.cp j (o+m*t.sz)))(hj:AM Γ.ss j=some (.cells ps))(hp:L8 ps o=some (N, .val s x,o')):
  Fa tb Γ (.ld ag k a) ((F.get x).l[m]?) fun y=> .val t y:=by
 intro E rv fp f H R y hy
 have hlt:=(F.get x).get_lt hy
 obtain⟨l,id,e,hv⟩:=ha E rv fp f H R
 obtain⟨cs,h0,h2,h3⟩:=Ho R hj e
 obtain⟨b',c,e0,e1,e2,e3,e4,e5,_⟩:=Ha h3 hp
 have G:=Ko F (AR.at n t m hlt)
 have hr:=(Ko F (AR.at n t m hlt)).getR e4
 have hle:=(Ko F (AR.at n t m hlt)).le
 have hl:=s.len e4
 have:(Ko F (AR.at n t m hlt)).get x=y:=(ca.1 hy).2
 rw[this,←e5 (o'+m*t.sz) t.sz (by omega),show b'+(o'+m*t.sz)=o+m*t.sz by omega]at hr
 obtain⟨v,g1,g2⟩:=T.V.of hr
 subst hag hk
 exact⟨v,none,by simp only[BC,hv,Am.load,place,h2,an,aa,qn (show o+m*t.sz+t.sz≤cs.length by omega),g1,val],rfl,g2⟩
end
end
end Go.Proofs.YtobejhpigbllpaaGreatDoor.Am
