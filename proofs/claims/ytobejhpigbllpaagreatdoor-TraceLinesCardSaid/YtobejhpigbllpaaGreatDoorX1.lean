/-
  Each of the machine's operations does what the model's does: those that call nobody.
  Each of the machine's operations does what the model's does: rows that are made, grown, copied; maps; strings and bytes.
  Each of the machine's operations does what the model's does: what is equal; what is built of parts.
  Each of the machine's operations does what the model's does: ==, what is built of parts, copies.
  Each of the machine's operations does what the model's does: what is built of parts, copies.
  Each of the machine's operations does what the model's does: maps.
  Each of the machine's operations does what the model's does: rows that are made, texts and bytes, a text's runes.
  Each of the machine's operations does what the model's does: pointers seen as unsafe ones, texts that share a row's bytes.
  What an operation must be so that the machine's carries it out: a test by the machine's own eye, and that it is enough.
-/
import Derived.Laws.IdiomCopy
import Derived.Laws.StructEq
import Derived.Laws.Cells
import Derived.Laws.AppendOwn
import Derived.Laws.Tables
import Derived.ChangeKeysEq
import Derived.MapKept
import Derived.Laws.MakeOwn
import Derived.Laws.BytesString
import Derived.Lib.ConvBytes
import Derived.Lib.Builder
import Derived.Lib.UnsafeStr
import Derived.Test.YtobejhpigbllpaaGreatDoorX0
namespace Go.Proofs.YtobejhpigbllpaaGreatDoor.Am
def isS:AV→Value→Bool
 | .b x, .bool y=>x==y
 | .i k n, .int j m=>k==j&&n==m
 | .s l, .string s=>l==s.data.toList
 | .nilp, .pointer none=>true
 | .nils, .slice none 0 0=>true
 | .nilm, .map none=>true
 | .nilf, .nilFunc=>true
 | .nili, .nilIface=>true
 |_,_=>false
def NJ:List AV→List Value→Bool
 |[],[]=>true
 |a::r,v::q=>isS a v&&NJ r q
 |_,_=>false
def isV(a:AV)(v:Value):Bool:=
 match a,v with
 | .agg cs, .agg vs=>NJ cs vs.toList
 |a,v=>isS a v
theorem nJ{C:D4}{a:AV}{v:Value}(h:isS a v=true):Gc C a v∧scal a=true:=by
 unfold isS at h
 split at h<;>simp only[Bool.false_eq_true,Bool.and_eq_true,beq_iff_eq]at h
 ·subst h;exact⟨rfl,rfl⟩
 ·obtain⟨rfl,rfl⟩:=h;exact⟨rfl,rfl⟩
 ·subst h;exact⟨by simp[Gc],rfl⟩
 all_goals exact⟨rfl,rfl⟩
theorem LL{C:D4}: ∀{l:List AV} {vs:List Value},NJ l vs=true→Bg C l vs∧l.all scal=true
 |[],[],_=>⟨rfl,rfl⟩
 |[],_::_,h=>by simp[NJ]at h
 |_::_,[],h=>by simp[NJ]at h
 |_::_,v::q,h=>by
  simp only[NJ,Bool.and_eq_true]at h
  obtain⟨h1,h2⟩:=nJ (C:=C) h.1
  obtain⟨h3,h4⟩:=LL (C:=C) h.2
  exact⟨⟨v,q,rfl,h1,h3⟩,by simp[h2,h4]⟩
theorem nH{C:D4}{a:AV}{v:Value}(h:isV a v=true):Gc C a v:=by
 unfold isV at h
 split at h
 ·rename_i cs vs
  obtain⟨h1,h2⟩:=LL (C:=C) h
  exact⟨vs.toList,by simp,h2,h1⟩
 ·exact(nJ h).1
def Bk:AO→Operand→Bool
 | .t n, .tmp m=>n==m
 | .k a, .const v=>isV a v
 | .f n, .func m=>n==m
 | .g n, .global m=>n==m
 |_,_=>false
def OX:List AO→List Operand→Bool
 |[],[]=>true
 |x::r,y::q=>Bk x y&&OX r q
 |_,_=>false
def YH:Option AO→Option Operand→Bool
 |none,none=>true
 |some x,some y=>Bk x y
 |_,_=>false
def Fi(P:Program)(t:TypeId):Bool:=
 match P.underlying t with
 |some (.struct _)=>true
 |some (.array _ _)=>true
 |_=>false
structure By(C:D4)(f:Fr)(a:Act)(nt:Nat):Prop where
 rep: ∀t,Gc C (get f t) (a.tmps.getD t undef)
 size:a.tmps.size=nt
 defers:a.defers=[]
section
variable{cl:Nat→List AV→Ax→Lb}{P:Program}{tb:Dg}{C:D4}{f:Fr}{a:Act}{nt:Nat}
theorem AJ(I:Inv tb C)(F:By C f a nt){x:AO}{y:Operand}(h:Bk x y=true):Gc C (eval tb f x) (a.eval y):=by
 cases x<;>cases y<;>simp only[Bk,Bool.false_eq_true,beq_iff_eq]at h
 ·subst h;exact F.rep _
 ·exact nH h
 ·subst h;exact⟨[],[],rfl,rfl,rfl⟩
 ·subst h
  simp only[eval,Act.eval]
  split
  ·rename_i cs hg
   obtain⟨h1,h2,h3,vs,h4,h5⟩:=I.gl _ cs hg
   exact⟨_,0,vs,rfl,h1,h2,h4,h3,h5⟩
  ·trivial
theorem MX(I:Inv tb C)(F:By C f a nt): ∀{xs:List AO} {ys:List Operand},OX xs ys=true→Bg C (xs.map (eval tb f)) (ys.map a.eval)
 |[],[],_=>rfl
 |[],_::_,h=>by simp[OX]at h
 |_::_,[],h=>by simp[OX]at h
 |_::_,y::q,h=>by
  simp only[OX,Bool.and_eq_true]at h
  exact⟨a.eval y,q.map a.eval,rfl,AJ I F h.1,MX I F h.2⟩
theorem By.put(F:By C f a nt){D:D4}(X:KM C D){d:Option Nat}(hd: ∀t,d=some t→t<nt){x:AV}{v:Value}(r:Gc D x v):By D (put f d x) (a.put d v) nt:=by
 cases d with
 |none=>exact⟨fun t=>(F.rep t).ext X,F.size,F.defers⟩
 |some t=>
  have ht:=hd t rfl
  refine⟨fun u=> ?_,by simp[Act.put,F.size],F.defers⟩
  simp only[Am.put,get,Act.put]
  by_cases e:t=u
  ·subst e
   rw[if_pos rfl]
   have:(a.tmps.setIfInBounds t v).getD t undef=v:=by
    simp[Array.getD_eq_getD_getElem?,F.size,ht]
   rw[this];exact r
  ·rw[if_neg e]
   have:(a.tmps.setIfInBounds t v).getD u undef=a.tmps.getD u undef:=by
    simp[Array.getD_eq_getD_getElem?,Array.getElem?_setIfInBounds_ne e]
   rw[this];exact(F.rep u).ext X
theorem By.ext(F:By C f a nt){D:D4}(X:KM C D):By D f a nt:=⟨fun t=>(F.rep t).ext X,F.size,F.defers⟩
def Yields(tb:Dg)(C:D4)(r:AV×Option Ax)(x:Result Next):Prop:=
 ∃D:D4,KM C D∧Inv tb D∧D.H=r.2.getD C.H∧((∃v,x= .ok (.value v) D.w∧Gc D r.1 v)∨(x= .ok .skip D.w∧Gc D r.1 undef))
theorem Az(I:Inv tb C){r:AV}{v:Value}{x:Result Next}(h:x= .ok (.value v) C.w)(hr:Gc C r v):Yields tb C (r,none) x:=
 ⟨C,KM.refl C,I,rfl, .inl ⟨v,h,hr⟩⟩
theorem L9(I:Inv tb C){r:AV}{v:Value}{x:Result Next}{p:Place}{o:BW}{w:World}(hrest:Rest C.w w)(h:x= .ok (.value v) w)
  (hs:C.w.heap.size<w.heap.size) (hp:p.blk=C.w.heap.size) (hw: ∀b,b<C.w.heap.size→w.heap[b]? =C.w.heap[b]?)
  (ho:Obj (C.more p o w) p o) (hr:(C.more p o w).φ C.H.length=p→Gc (C.more p o w) r v):Yields tb C (r,some (C.H++[o])) x:=by
 obtain⟨X,hI,hφ⟩:=more I (o:=o) hrest hs hp hw
 exact⟨C.more p o w,X,hI ho,rfl, .inl ⟨v,h,hr hφ⟩⟩
theorem Zu{o:Oper}{r:AV×Option Ax}(h:Yields tb C r ((execOp a.eval o).run P C.w)){next:Act→World→Prop}{Q:Exit→Act→World→Prop}
  (k: ∀(v:Value) (D:D4),KM C D→Inv tb D→D.H=r.2.getD C.H→Gc D r.1 v→next (a.put o.dst v) D.w):o.wp P a C.w next Q:=by
 unfold Oper.wp
 obtain⟨D,X,I,hH,⟨v,e,hr⟩|⟨e,hr⟩⟩:=h
 ·rw[e];exact k v D X I hH hr
 ·rw[e];exact k undef D X I hH hr
theorem Av{t:TypeId}{d:TypeDesc}(h:P.underlying t=some d)(w:World):(underlying t).run P w= .ok d w:=by
 simp[underlying,h]
theorem Fj(t:TypeId)(w:World)(hd:(P.underlying t).isSome=true):(isAgg t).run P w= .ok (Fi P t) w:=by
 obtain⟨d,hd⟩:=Option.isSome_iff_exists.1 hd
 simp only[isAgg,Sem.run_bind,Av hd,Result.andThen_ok,Fi,hd]
 cases d<;>rfl
theorem Hi{t:TypeId}{i:TypeInfo}(h:P.info? t=some i)(w:World):(typeInfo t).run P w= .ok i w:=by
 simp[typeInfo,h]
theorem BX{t:TypeId}(h:(P.info? t).isSome=true)(w:World):(sizeOf t).run P w= .ok (P.cellsOf t) w:=by
 obtain⟨i,hi⟩:=Option.isSome_iff_exists.1 h
 simp[sizeOf,Hi hi,Program.cellsOf,hi]
theorem info_of_underlying{t:TypeId}{d:TypeDesc}(h:P.underlying t=some d):(P.info? t).isSome=true:=by
 unfold Program.underlying at h
 cases hi:P.info? t with
 |none=>rw[hi]at h;simp at h
 |some i=>rfl
theorem G3(b o n:Nat):(⟨b,o,none⟩:Addr).add n=⟨b,o+n,none⟩:=by
 unfold Addr.add;split<;>simp_all
theorem HC{w:World}{b o:Nat}{vs:List Value}(h:DY w b o vs):(loadCells ⟨b,o,none⟩ vs.length).run P w= .ok vs.toArray w:=
 run_loadCells_list (P:=P) w ⟨b,o,none⟩ vs fun j v e=>by rw[G3];exact h j v e
theorem DY.sub{w:World}{b base:Nat}{vs:List Value}(h:DY w b base vs)(off n:Nat):DY w b (base+off) ((vs.drop off).take n):=by
 intro j v e
 rw[List.getElem?_take]at e
 split at e
 ·rw[List.getElem?_drop]at e
  rw[Nat.add_assoc]
  exact h _ v e
 ·simp at e
theorem Om{cs:List AV}(h:cs.all scal=true)(off n:Nat):(sub cs off n).all scal=true:=by
 simp only[List.all_eq_true,sub]at*
 exact fun x hx=>h x (List.mem_of_mem_drop (List.mem_of_mem_take hx))
theorem T8{cs:List AV}{vs:List Value}{agg:Bool}{v:AV}(h:HS agg cs=some v)(hs:cs.all scal=true)(r:Bg C cs vs):
  (agg=true→Gc C v (.agg vs.toArray))∧(agg=false→ ∃x,vs=[x]∧Gc C v x):=by
 cases agg with
 |true=>
  simp only[HS]at h
  obtain rfl:=Option.some.inj h
  exact⟨fun _=>⟨vs,rfl,hs,r⟩,fun e=>by cases e⟩
 |false=>
  refine⟨fun e=>(by cases e),fun _=> ?_⟩
  match cs,h with
  |[c],h=>
   simp only[HS]at h
   obtain rfl:=Option.some.inj h
   obtain⟨x,q,e,h1,h2⟩:=r
   exact⟨x,by rw[e,show q=[]from h2],h1⟩
theorem YC(I:Inv tb C){x:AV}{v:Value}(r:Gc C x v){cs:List AV}{off:Nat}(h:place C.H x=some (cs,off)):
  ∃b base vs,v= .pointer (some ⟨b,base+off,none⟩)∧DY C.w b base vs∧Bg C cs vs∧cs.all scal=true:=by
 cases x<;>simp only[place]at h
 case ptr id o=>
  unfold Cq at h
  split at h
  ·rename_i t' cs' hc
   simp only[Option.map_some,Option.some.injEq,Prod.mk.injEq]at h
   obtain⟨rfl,rfl⟩:=h
   obtain⟨_,e⟩:=r
   obtain⟨vs,arr,et,fr,⟨h1,hlb⟩,h2,h3,h4,h5,h6⟩:=I.obj id _ hc
   exact⟨_,0,vs,by simpa using e,h5,h4,h3⟩
  ·simp at h
 case pe id n i o=>
  obtain⟨_,fz,sz,els,hg,hl,e⟩:=r
  simp only[hg,Option.bind_some]at h
  split at h
  ·rename_i hn
   simp only[Option.some.injEq,Prod.mk.injEq]at h
   obtain⟨rfl,rfl⟩:=h
   obtain⟨tl,hg',hlab⟩:=Iv hg
   obtain⟨vss,arr,et,fr,⟨h1,hfr0,hlb⟩,h2,h3,h4,h5,h6,h7,h8,h9⟩:=I.obj id _ hg'
   have hlens:=AY.lens (fun x hx=>(h4 x hx).1) h5
   have hfl: ∀(l:List (List Value)) (i:Nat),(∀y∈l,y.length=sz)→(l.drop i).flatten=l.flatten.drop (i*sz):=by
    intro l
    induction l with
    |nil=>intro i _;simp
    |cons y l ih=>
     intro i hy
     have hyl:=hy y List.mem_cons_self
     cases i with
     |zero=>simp
     |succ i=>
      simp only[List.drop_succ_cons,List.flatten_cons]
      rw[ih i (fun z hz=>hy z (List.mem_cons_of_mem _ hz)),show(i+1)*sz=y.length+i*sz by rw[hyl,Nat.succ_mul];omega,←List.drop_drop,List.drop_left' rfl]
   refine⟨_,(C.φ id).base+i*sz,(vss.drop i).flatten,by rw[e hn],fun j u hu=> ?_,AY.flat h5.drop,List.all_eq_true.2 fun x hx=>(by obtain⟨y,hy,hx⟩:=List.mem_flatten.1 hx;exact List.all_eq_true.1 (h4 y (List.mem_of_mem_drop hy)).2 x hx)⟩
   rw[hfl vss i hlens,List.getElem?_drop]at hu
   rw[Nat.add_assoc]
   exact h7 _ u hu
  ·simp at h
 case ip cs' o=>
  simp only[Option.some.injEq,Prod.mk.injEq]at h
  obtain⟨rfl,rfl⟩:=h
  obtain⟨b,base,vs,e,_,_,h1,h2,h3⟩:=r
  exact⟨b,base,vs,e,h1,h3,h2⟩
 all_goals simp at h
theorem sim_ld(I:Inv tb C)(F:By C f a nt){o:Oper}{t:TypeId}{x:AO}{y:Operand}(ho:o.op= .load t y)(hx:Bk x y=true)(hu:(P.underlying t).isSome=true)
  {r:AV×Option Ax} (h:val (load C.H (Fi P t) (P.cellsOf t) (eval tb f x))=some r):Yields tb C r ((execOp a.eval o).run P C.w):=by
 have hr:=AJ I F hx
 simp only[val,load]at h
 cases hp:place C.H (eval tb f x)with
 |none=>rw[hp]at h;simp at h
 |some p=>
  obtain⟨cs,off⟩:=p
  rw[hp]at h
  simp only[Option.bind_some]at h
  split at h
  ·rename_i hle
   cases hv:HS (Fi P t) (sub cs off (P.cellsOf t))with
   |none=>rw[hv]at h;simp at h
   |some v=>
    rw[hv]at h
    obtain rfl:=Option.some.inj h
    obtain⟨b,base,vs,e,hh,hl,hs⟩:=YC I hr hp
    have hsub:=hh.sub off (P.cellsOf t)
    have hrl:Bg C (sub cs off (P.cellsOf t)) ((vs.drop off).take (P.cellsOf t)):=hl.drop.take
    have hlen:((vs.drop off).take (P.cellsOf t)).length=P.cellsOf t:=by
     rw[hrl.length];simp only[sub,List.length_take,List.length_drop];omega
    obtain⟨q1,q2⟩:=T8 hv (Om hs off _) hrl
    have hinfo:(P.info? t).isSome=true:=by
     obtain⟨d,hd⟩:=Option.isSome_iff_exists.1 hu
     exact info_of_underlying hd
    have hlc:=HC (P:=P) hsub
    rw[hlen]at hlc
    cases hag:Fi P t with
    |true=>
     refine Az I (v:= .agg ((vs.drop off).take (P.cellsOf t)).toArray) ?_ (q1 hag)
     simp only[execOp,ho,e,Instr.loadAt,Instr.sureAddr,loadVar,Sem.run_bind,Sem.run_pure,Result.andThen_ok,Fj t C.w hu,hag,if_true,BX hinfo,hlc]
    |false=>
     obtain⟨z,hz,rz⟩:=q2 hag
     refine Az I (v:=z) ?_ rz
     have hc:C.w.cell? ⟨b,base+off,none⟩=some z:=by
      have:=hsub 0 z (by rw[hz];rfl)
      simpa using this
     simp only[execOp,ho,e,Instr.loadAt,Instr.sureAddr,loadVar,Sem.run_bind,Sem.run_pure,Result.andThen_ok,Fj t C.w hu,hag,Bool.false_eq_true,if_false,run_load,hc]
  ·simp at h
theorem rZ(I:Inv tb C)(F:By C f a nt){o:Oper}{x:AO}{y:Operand}(ho:o.op= .move y∨o.op= .assign y)(hx:Bk x y=true):Yields tb C (eval tb f x,none) ((execOp a.eval o).run P C.w):=by
 refine Az I (v:=a.eval y) ?_ (AJ I F hx)
 rcases ho with ho|ho<;>simp only[execOp,ho,Sem.run_pure]
theorem rX(I:Inv tb C)(F:By C f a nt){o:Oper}{x1 x2 x3:AO}{y1 y2 y3:Operand}(ho:o.op= .pick y1 y2 y3)(h1:Bk x1 y1=true)(h2:Bk x2 y2=true)(h3:Bk x3 y3=true)
  {t:Bool} (h:eval tb f x1= .b t):Yields tb C (if t then eval tb f x2 else eval tb f x3,none) ((execOp a.eval o).run P C.w):=by
 have r1:=AJ I F h1
 rw[h]at r1
 refine Az I (v:=if t then a.eval y2 else a.eval y3) ?_ ?_
 ·simp only[execOp,ho,show a.eval y1= .bool t from r1,asBool,Sem.run_bind,Sem.run_pure,Result.andThen_ok]
 ·cases t
  ·exact AJ I F h3
  ·exact AJ I F h2
theorem Ij(w:World)(o:Go.Obj):(w.alloc o).heap[w.heap.size]? =some o:=Array.getElem?_push_size
theorem alloc_old(w:World)(o:Go.Obj){b:Nat}(h:b<w.heap.size):(w.alloc o).heap[b]? =w.heap[b]? :=by
 show(w.heap.push o)[b]? =_
 rw[Array.getElem?_push,if_neg (by omega)]
theorem GU(w:World)(o:Go.Obj):(w.alloc o).heap.size=w.heap.size+1:=Array.size_push _
theorem Vp(I:Inv tb C){cs:List AV}{vs:Array Value}{e:TypeId}(hs:cs.all scal=true)(hr:Bg C cs vs.toList){x:Result Next}
  (h:x= .ok (.value (.pointer (some ⟨C.w.heap.size,0,none⟩))) (C.w.alloc (.cells vs e))):Yields tb C (.ptr C.H.length 0,some (C.H++[BW.cells (some e) cs])) x:=by
 have hlen:vs.size=cs.length:=by have:=hr.length;simpa using this
 have hlt:C.w.heap.size<(C.w.alloc (.cells vs e)).heap.size:=by rw[GU];omega
 refine L9 (w:=C.w.alloc (.cells vs e)) I (p:=⟨C.w.heap.size,0,vs.size⟩) ⟨rfl,rfl,rfl⟩ h hlt rfl (fun b hb=>alloc_old _ _ hb) ?_ ?_
 ·have X:=(more (w:=C.w.alloc (.cells vs e)) I (o:=BW.cells (some e) cs) (p:=⟨C.w.heap.size,0,vs.size⟩) ⟨rfl,rfl,rfl⟩ hlt rfl (fun b hb=>alloc_old _ _ hb)).1
  have hn:(C.more ⟨C.w.heap.size,0,vs.size⟩ (BW.cells (some e) cs) (C.w.alloc (.cells vs e))).w.heap[C.w.heap.size]? =some (.cells vs e):=Ij _ _
  refine⟨vs.toList,vs,e,(0,0),⟨hn,fun k hk=>by cases hk;rfl⟩,hlen,hs,hr.ext X,?_,?_⟩
  ·intro j v hj
   simp only[World.cell?,hn,Nat.zero_add]
   simpa using hj
  ·intro o ho
   simp only[World.frozen?,hn]
   simp
 ·intro hφ
  exact⟨⟨BW.cells (some e) cs,by simp[D4.more],rfl⟩,by rw[hφ]⟩
theorem oW(I:Inv tb C){o:Oper}{t:TypeId}{z:List AV}{i:TypeInfo}{zv:Value}(ho:o.op= .alloc t)(hi:P.info? t=some i)(hz:i.zero=some zv)(hv:NJ z zv.cells.toList=true):
  Yields tb C (.ptr C.H.length 0,some (C.H++[BW.cells (some t) z])) ((execOp a.eval o).run P C.w):=by
 obtain⟨h1,h2⟩:=LL (C:=C) hv
 refine Vp I (e:=t) h2 h1 ?_
 simp only[execOp,ho,Instr.alloc,zeroValue,Sem.run_bind,Hi hi,Result.andThen_ok,hz,Sem.run_pure,newVar,newRow,run_newObj]
 rfl
theorem nC{x:AV}{v:Value}(hx:scal x=true)(r:Gc C x v):v.oneCell'=true∧v.cells= #[v]:=by
 cases x<;>simp only[scal,Bool.false_eq_true]at hx<;>simp only[Gc]at r
 case pe=>obtain⟨⟨p,rfl⟩,_⟩:=r;exact⟨rfl,rfl⟩
 case orow=>obtain⟨⟨p,c,rfl⟩,_⟩:=r;exact⟨rfl,rfl⟩
 case ptr=>obtain⟨_,rfl⟩:=r;exact⟨rfl,rfl⟩
 case ip=>obtain⟨_,_,_,rfl,_⟩:=r;exact⟨rfl,rfl⟩
 case sl=>rcases r with ⟨_,_,_,_,rfl,_⟩|⟨_,_,_,rfl⟩<;>exact⟨rfl,rfl⟩
 case ocel=>obtain⟨_,_,_,rfl,_⟩:=r;exact⟨rfl,rfl⟩
 case mp=>obtain⟨_,rfl⟩:=r;exact⟨rfl,rfl⟩
 case fn=>obtain⟨_,_,rfl,_⟩:=r;exact⟨rfl,rfl⟩
 case ifc=>obtain⟨_,_,rfl,_⟩:=r;exact⟨rfl,rfl⟩
 all_goals (subst r;exact⟨rfl,rfl⟩)
theorem LH: ∀{cs:List AV} {vs:List Value},cs.all scal=true→Bg C cs vs→ ∀v∈vs,v.oneCell'=true
 |[],_,_,h,v,hv=>by rw[show _=[]from h]at hv;cases hv
 |x::_,_,hs,⟨u,q,e,h,r⟩,v,hv=>by
  simp only[List.all_cons,Bool.and_eq_true]at hs
  rw[e]at hv
  rcases List.mem_cons.1 hv with e'|hv
  ·subst e';exact(nC hs.1 h).1
  ·exact LH hs.2 r v hv
theorem No{x:AV}{v:Value}(r:Gc C x v)(hn:0<(cellsOf x).length):Bg C (cellsOf x) v.cells.toList∧(cellsOf x).all scal=true:=by
 by_cases hx:scal x=true
 ·have hc:cellsOf x=[x]:=by cases x<;>simp_all [scal,cellsOf]
  rw[hc,(nC hx r).2]
  exact⟨⟨v,[],rfl,r,rfl⟩,by simp[hx]⟩
 ·cases x<;>simp only[scal,not_true_eq_false,Bool.false_eq_true,not_false_eq_true]at hx
  case agg cs=>
   obtain⟨vs,e,h1,h2⟩:=r
   subst e
   exact⟨by simpa [cellsOf,Value.cells]using h2,h1⟩
  case tup cs=>simp[cellsOf]at hn
  case junk=>simp[cellsOf]at hn
theorem yY(I:Inv tb C)(F:By C f a nt){o:Oper}{t:TypeId}{x:AO}{y:Operand}(ho:o.op= .box t y)(hx:Bk x y=true)(hn:0<(cellsOf (eval tb f x)).length):
  Yields tb C (.ptr C.H.length 0,some (C.H++[BW.cells (some t) (cellsOf (eval tb f x))])) ((execOp a.eval o).run P C.w):=by
 obtain⟨h1,h2⟩:=No (AJ I F hx) hn
 refine Vp I (e:=t) h2 h1 ?_
 simp only[execOp,ho,Instr.box,Sem.run_bind,Result.andThen_ok,Sem.run_pure,newVar,newRow,run_newObj]
 rfl
theorem rY(I:Inv tb C)(F:By C f a nt){o:Oper}{x:AO}{y:Operand}(ho:o.op= .nilCheck y)(hx:Bk x y=true){r:AV×Option Ax}
  (h:Bz tb cl (eval tb f) C.H (.nilc x)=some r):Yields tb C r ((execOp a.eval o).run P C.w):=by
 have hr:=AJ I F hx
 simp only[Bz]at h
 split at h<;>simp only[Option.some.injEq,reduceCtorEq]at h
 ·rename_i e
  subst h
  rw[e]at hr
  refine Az I (v:=a.eval y) ?_ hr
  obtain⟨_,e'⟩:=hr
  simp only[execOp,ho,e',Sem.run_pure]
 ·rename_i e
  subst h
  rw[e]at hr
  refine Az I (v:=a.eval y) ?_ hr
  obtain⟨⟨_,e'⟩,_⟩:=hr
  simp only[execOp,ho,e',Sem.run_pure]
 ·rename_i e
  subst h
  rw[e]at hr
  refine Az I (v:=a.eval y) ?_ hr
  obtain⟨_,_,_,e',_⟩:=hr
  simp only[execOp,ho,e',Sem.run_pure]
 ·rename_i e
  subst h
  rw[e]at hr
  refine Az I (v:=a.eval y) ?_ hr
  obtain⟨_,_,e',_⟩:=hr
  simp only[execOp,ho,e',Sem.run_pure]
theorem J3(l:List UInt8):(⟨l.toArray⟩:ByteArray).toList=l:=by
 rw[ByteArray.toList_eq]
theorem P6(l:List UInt8):(⟨l.toArray⟩:ByteArray).size=l.length:=by
 show l.toArray.size=_
 simp
theorem It{x:AV}{v:Value}{n:Int}(r:Gc C x v)(h:Il x=some n): ∃k,x= .i k n∧v= .int k n:=by
 cases x<;>simp only[Il,reduceCtorEq,Option.some.injEq]at h
 subst h
 exact⟨_,rfl,r⟩
theorem zD(I:Inv tb C)(F:By C f a nt){o:Oper}{op:BinOp}{t u:TypeId}{x1 x2:AO}{y1 y2:Operand}(ho:o.op= .binOp op t y1 y2 u)(h1:Bk x1 y1=true)(h2:Bk x2 y2=true)
  {r:AV×Option Ax} (h:val (bin op (eval tb f x1) (eval tb f x2))=some r):Yields tb C r ((execOp a.eval o).run P C.w):=by
 have r1:=AJ I F h1
 have r2:=AJ I F h2
 generalize hx1:eval tb f x1=v1 at*
 generalize hx2:eval tb f x2=v2 at*
 cases v1<;>cases v2<;>simp only[bin,val,Option.map_none,reduceCtorEq]at h
 case i.i k n k' m=>
  have e1:a.eval y1= .int k n:=r1
  have e2:a.eval y2= .int k' m:=r2
  have hg:(eqGuard op t y1 y2 (.int k n) (.int k' m)).run P C.w= .ok () C.w:=by
   simp only[eqGuard];split<;>rfl
  have hrun: ∀v,(Go.binOp op t (.int k n) (.int k' m)).run P C.w= .ok v C.w→(execOp a.eval o).run P C.w= .ok (.value v) C.w:=by
   intro v hv
   simp only[execOp,ho,e1,e2,Sem.run_bind,hg,Result.andThen_ok,hv,Sem.run_pure]
  by_cases hk:k=k'
  ·subst hk
   cases op<;>simp only[if_true]at h
   case shl=>
    split at h<;>simp only[Option.map_none,Option.map_some,reduceCtorEq,Option.some.injEq]at h
    subst h
    exact Az I (hrun _ (by simp[Go.binOp,Op.shift, *])) rfl
   case shr=>
    split at h<;>simp only[Option.map_none,Option.map_some,reduceCtorEq,Option.some.injEq]at h
    subst h
    exact Az I (hrun _ (by simp[Go.binOp,Op.shift, *])) rfl
   case quo=>
    split at h<;>simp only[Option.map_none,Option.map_some,reduceCtorEq,Option.some.injEq]at h
    subst h
    exact Az I (hrun _ (by simp[Go.binOp,Op.intDiv, *])) rfl
   case rem=>
    split at h<;>simp only[Option.map_none,Option.map_some,reduceCtorEq,Option.some.injEq]at h
    subst h
    exact Az I (hrun _ (by simp[Go.binOp,Op.intDiv, *])) rfl
   all_goals
    simp only[Option.map_some,Option.some.injEq]at h
    subst h
    exact Az I (hrun _ (by simp[Go.binOp,Op.intArith,Op.intBits,Op.intCmp,oH])) rfl
  ·cases op<;>simp only[if_neg hk,Option.map_none,reduceCtorEq]at h
   case shl=>
    split at h<;>simp only[Option.map_none,Option.map_some,reduceCtorEq,Option.some.injEq]at h
    subst h
    exact Az I (hrun _ (by simp[Go.binOp,Op.shift, *])) rfl
   case shr=>
    split at h<;>simp only[Option.map_none,Option.map_some,reduceCtorEq,Option.some.injEq]at h
    subst h
    exact Az I (hrun _ (by simp[Go.binOp,Op.shift, *])) rfl
 case s.s l m=>
  have e1:a.eval y1= .string ⟨l.toArray⟩:=r1
  have e2:a.eval y2= .string ⟨m.toArray⟩:=r2
  have hg:(eqGuard op t y1 y2 (.string ⟨l.toArray⟩) (.string ⟨m.toArray⟩)).run P C.w= .ok () C.w:=by
   simp only[eqGuard];split<;>rfl
  have hrun: ∀v,(Op.stringOp op ⟨l.toArray⟩ ⟨m.toArray⟩).run P C.w= .ok v C.w→(execOp a.eval o).run P C.w= .ok (.value v) C.w:=by
   intro v hv
   simp only[execOp,ho,e1,e2,Sem.run_bind,hg,Result.andThen_ok,Sem.run_pure]
   have:Go.binOp op t (.string ⟨l.toArray⟩) (.string ⟨m.toArray⟩)=Op.stringOp op ⟨l.toArray⟩ ⟨m.toArray⟩:=by cases op<;>rfl
   rw[this,hv]
   rfl
  cases op<;>simp only[Option.map_some,Option.map_none,Option.some.injEq,reduceCtorEq]at h
  case add=>
   split at h<;>simp only[Option.map_none,Option.map_some,reduceCtorEq,Option.some.injEq]at h
   rename_i hle
   subst h
   refine Az I (v:= .string (⟨l.toArray⟩++⟨m.toArray⟩)) (hrun _ ?_) ?_
   ·have: ¬(((⟨l.toArray⟩:ByteArray).size+(⟨m.toArray⟩:ByteArray).size:Nat):Int)>IntKind.i64.max:=by
     rw[P6,P6]
     have:IntKind.i64.max=9223372036854775807:=rfl
     rw[this]
     unfold B4 at hle
     omega
    simp only[Op.stringOp,if_neg this,Sem.run_pure]
   ·show _=_
    congr 1
  all_goals
   subst h
   exact Az I (hrun _ (by simp only[Op.stringOp,J3,Sem.run_pure])) rfl
theorem sim_un(I:Inv tb C)(F:By C f a nt){o:Oper}{op:UnOp}{t:TypeId}{x:AO}{y:Operand}(ho:o.op= .unOp op t y)(hx:Bk x y=true)
  {r:AV×Option Ax} (h:val (un op (eval tb f x))=some r):Yields tb C r ((execOp a.eval o).run P C.w):=by
 have r1:=AJ I F hx
 generalize eval tb f x=v1 at*
 cases v1<;>simp only[un,val,Option.map_none,reduceCtorEq]at h
 case i k n=>
  have e1:a.eval y= .int k n:=r1
  cases op<;>simp only[Option.map_some,Option.map_none,Option.some.injEq,reduceCtorEq]at h
  all_goals
   subst h
   refine Az I (v:= .int k _) ?_ rfl
   simp[execOp,ho,e1,Op.unary,Op.intArith,Op.intBits,oH]
 case b q=>
  have e1:a.eval y= .bool q:=r1
  cases op<;>simp only[Option.map_some,Option.map_none,Option.some.injEq,reduceCtorEq]at h
  subst h
  refine Az I (v:= .bool _) ?_ rfl
  simp[execOp,ho,e1,Op.unary]
theorem yU(I:Inv tb C)(F:By C f a nt){o:Oper}{k:IntKind}{s d:TypeId}{x:AO}{y:Operand}(ho:o.op= .convert s d y)(hs:(P.underlying s).isSome=true)(hd:P.underlying d=some (.int k))(hx:Bk x y=true)
  {n:Int} (h:Il (eval tb f x)=some n):Yields tb C (.i k (k.wrap n),none) ((execOp a.eval o).run P C.w):=by
 obtain⟨k',_,e⟩:=It (AJ I F hx) h
 obtain⟨ds,hs⟩:=Option.isSome_iff_exists.1 hs
 refine Az I (v:= .int k (k.wrap n)) ?_ rfl
 simp only[execOp,ho,e,convert,Sem.run_bind,Av hs,Av hd,Result.andThen_ok]
 cases ds<;>rfl
theorem sF(I:Inv tb C)(F:By C f a nt){o:Oper}{s d:TypeId}{x:AO}{y:Operand}(ho:o.op= .convert s d y)(hs:(P.underlying s).isSome=true)(hd:P.underlying d=some .string)(hx:Bk x y=true)
  {l:List UInt8} (h:eval tb f x= .s l):Yields tb C (.s l,none) ((execOp a.eval o).run P C.w):=by
 have r:=AJ I F hx
 rw[h]at r
 have e:a.eval y= .string ⟨l.toArray⟩:=r
 obtain⟨ds,hs⟩:=Option.isSome_iff_exists.1 hs
 refine Az I (v:= .string ⟨l.toArray⟩) ?_ rfl
 simp only[execOp,ho,e,convert,Sem.run_bind,Av hs,Av hd,Result.andThen_ok]
 cases ds<;>rfl
theorem yV(I:Inv tb C)(F:By C f a nt){o:Oper}{s d:TypeId}{x:AO}{y:Operand}(ho:o.op= .convert s d y)(hs:(P.underlying s).isSome=true)(hd:P.underlying d=some .string)(hx:Bk x y=true)
  {n:Int} (h:Il (eval tb f x)=some n):Yields tb C (.s (Utf8.encode n).data.toList,none) ((execOp a.eval o).run P C.w):=by
 obtain⟨k',_,e⟩:=It (AJ I F hx) h
 obtain⟨ds,hs⟩:=Option.isSome_iff_exists.1 hs
 refine Az I (v:= .string (Utf8.encode n)) ?_ (by simp[Gc])
 simp only[execOp,ho,e,convert,Sem.run_bind,Av hs,Av hd,Result.andThen_ok]
 cases ds<;>rfl
theorem yF(I:Inv tb C)(F:By C f a nt){o:Oper}{fn:Fn}{x1 x2:List AO}{y1 y2:Array Operand}(ho:o.op= .makeFunc fn y1 y2)(h1:OX x1 y1.toList=true)(h2:OX x2 y2.toList=true):
  Yields tb C (.fn fn (x1.map (eval tb f)) (x2.map (eval tb f)),none) ((execOp a.eval o).run P C.w):=by
 refine Az I (v:= .func fn (y1.map a.eval) (y2.map a.eval)) ?_ ?_
 ·simp only[execOp,ho,Instr.makeFunc,Sem.run_bind,Sem.run_pure,Result.andThen_ok]
 ·exact⟨y1.toList.map a.eval,y2.toList.map a.eval,by rw[←Array.toList_map,←Array.toList_map],MX I F h1,MX I F h2⟩
theorem sA(I:Inv tb C)(F:By C f a nt){o:Oper}{t:TypeId}{x:AO}{y:Operand}(ho:o.op= .makeInterface t y)(ht: ∀m,P.underlying t≠some (.interface m))(hs:(P.underlying t).isSome=true)(hx:Bk x y=true):
  Yields tb C (.ifc 0 .junk,none) ((execOp a.eval o).run P C.w):=by
 obtain⟨ds,hs⟩:=Option.isSome_iff_exists.1 hs
 refine Az I (v:= .iface t (a.eval y)) ?_ ⟨_,_,rfl,trivial⟩
 simp only[execOp,ho,Instr.makeInterface,Sem.run_bind,Av hs,Result.andThen_ok]
 cases ds<;>first|rfl|exact absurd hs (ht _)
theorem yN(I:Inv tb C)(F:By C f a nt){o:Oper}{x:AO}{y:Operand}{i:Nat}(ho:o.op= .extract y i)(hx:Bk x y=true){vs:List AV}(h:eval tb f x= .tup vs){v:AV}(hv:vs[i]? =some v):
  Yields tb C (v,none) ((execOp a.eval o).run P C.w):=by
 have r:=AJ I F hx
 rw[h]at r
 obtain⟨us,e,hr⟩:=r
 obtain⟨u,hu,ru⟩:=hr.get hv
 refine Az I (v:=u) ?_ ru
 simp only[execOp,ho,e,Instr.extract]
 simp[hu]
theorem Ec{o:Oper}{c:Call}{b:Builtin}(ho:o.op= .call c)(hc:c.callee= .builtin b){x:Result Next}
  (h: ∀q,(builtin b c.argTypes o.type q (c.args.map a.eval)).run P C.w=x):(execOp a.eval o).run P C.w=x:=by
 simp only[execOp,ho,resolve,hc,invoke,Sem.run_bind,Sem.run_pure,Result.andThen_ok]
 exact h _
theorem uU{x:AV}{v:Value}{n:Nat}(r:Gc C x v)(h:Pb x=some n): ∃p c,v= .slice p n c:=by
 cases x<;>simp only[Pb,reduceCtorEq,Option.some.injEq]at h
 case nils=>subst h;exact⟨none,0,r⟩
 case sl=>
  subst h
  rcases r with ⟨b,base,cap,vss,e,_⟩|⟨rfl,p,cap,e⟩
  ·exact⟨_,_,e⟩
  ·exact⟨_,_,e⟩
 case orow=>subst h;obtain⟨⟨p,c,e⟩,_⟩:=r;exact⟨_,_,e⟩
 case ocel=>subst h;obtain⟨_,o,c,e,_⟩:=r;exact⟨_,_,e⟩
theorem yH(I:Inv tb C)(F:By C f a nt){o:Oper}{c:Call}{t e:TypeId}{x:AO}{y:Operand}(ho:o.op= .call c)(hc:c.callee= .builtin .len)(ht:c.argTypes[0]? =some t)(ha:c.args= #[y])
  (hx:Bk x y=true) {n:Nat} (h:Pb (eval tb f x)=some n) (hu:P.underlying t=some (.slice e)):
  Yields tb C (.i .i64 n,none) ((execOp a.eval o).run P C.w):=by
 have r:=AJ I F hx
 refine Az I (v:= .int .i64 n) (Ec ho hc fun q=> ?_) rfl
 simp only[ha,List.map_toArray,List.map_cons,List.map_nil,builtin,Sem.run_bind,Builtin.len_,ht]
 obtain⟨p,cc,e⟩:=uU r h
 simp[e,Av hu,goInt]
theorem sC(I:Inv tb C)(F:By C f a nt){o:Oper}{c:Call}{t:TypeId}{x:AO}{y:Operand}(ho:o.op= .call c)(hc:c.callee= .builtin .len)(ht:c.argTypes[0]? =some t)(ha:c.args= #[y])
  (hx:Bk x y=true) {l:List UInt8} (h:eval tb f x= .s l) (hu:P.underlying t=some .string):
  Yields tb C (.i .i64 (l.length:Nat),none) ((execOp a.eval o).run P C.w):=by
 have r:=AJ I F hx
 rw[h]at r
 have r':a.eval y= .string ⟨l.toArray⟩:=r
 refine Az I (v:= .int .i64 (l.length:Nat)) (Ec ho hc fun q=> ?_) rfl
 simp only[ha,List.map_toArray,List.map_cons,List.map_nil,builtin,Sem.run_bind,Builtin.len_,ht]
 simp[r',Av hu,goInt,P6]
theorem Y3{x y:AV}{v:Value}{off:Nat}(r:Gc C x v)(h:shift off x=some y): ∃b q,v= .pointer (some ⟨b,q,none⟩)∧Gc C y (.pointer (some ⟨b,q+off,none⟩))∨(∃p,v= .pointer (some p))∧ ∀u p,u=Value.pointer (some p)→Gc C y u:=by
 cases x<;>simp only[shift,reduceCtorEq,Option.some.injEq]at h<;>subst h
 case ptr id o=>
  obtain⟨h1,e⟩:=r
  exact⟨_,_, .inl ⟨e,h1,rfl⟩⟩
 case pe id n i o=>
  obtain⟨⟨p,e⟩,fz,sz,els,hg,hl,k⟩:=r
  by_cases hn:n=els.length
  ·exact⟨_,_, .inl ⟨k hn,⟨_,rfl⟩,fz,sz,els,hg,hl,fun _=>by rw[Nat.add_assoc]⟩⟩
  ·exact⟨0,0, .inr ⟨⟨p,e⟩,fun u p hu=>⟨⟨p,hu⟩,fz,sz,els,hg,hl,fun q=>absurd q hn⟩⟩⟩
 case ip cs o=>
  obtain⟨b,base,vs,e,h1⟩:=r
  exact⟨_,_, .inl ⟨e,b,base,vs,by rw[Nat.add_assoc],h1⟩⟩
theorem sim_fa(I:Inv tb C)(F:By C f a nt){o:Oper}{t:TypeId}{x:AO}{y:Operand}{i:Nat}{fs:Array Field}{fd:Field}(ho:o.op= .fieldAddr t y i)(hu:P.underlying t=some (.struct fs))(hf:fs[i]? =some fd)
  (hz:(P.info? fd.type).isSome=true) (hz0:P.cellsOf fd.type≠0) (hx:Bk x y=true) {r:AV×Option Ax} (h:val (shift fd.offset (eval tb f x))=some r):Yields tb C r ((execOp a.eval o).run P C.w):=by
 have hr:=AJ I F hx
 simp only[val]at h
 cases hs:shift fd.offset (eval tb f x)with
 |none=>rw[hs]at h;simp at h
 |some y'=>
  rw[hs]at h
  obtain rfl:=Option.some.inj h
  have run: ∀p:Addr,a.eval y= .pointer (some p)→(execOp a.eval o).run P C.w= .ok (.value (.pointer (some (p.add fd.offset)))) C.w:=by
   intro p hp
   simp only[execOp,ho,hp,Instr.fieldAt,Sem.run_bind,Av hu,Result.andThen_ok,hf,Instr.sureAddr,Sem.run_pure,fieldPlace,BX hz,if_neg hz0]
  obtain⟨b,q,⟨e,r'⟩|⟨⟨p,e⟩,r'⟩⟩:=Y3 hr hs
  ·exact Az I (run _ e) (by rw[G3];exact r')
  ·exact Az I (run _ e) (r' _ _ rfl)
theorem yL(I:Inv tb C)(F:By C f a nt){o:Oper}{t e:TypeId}{x i:AO}{y j:Operand}{len:Nat}(ho:o.op= .indexAddr t y j)(hu:P.underlying t=some (.array len e))
  (hz:(P.info? e).isSome=true) (hx:Bk x y=true) (hi:Bk i j=true) {n:Int} (hn:Il (eval tb f i)=some n) (h0:0≤n∧n<len) {r:AV×Option Ax} (h:val (shift (n.toNat*P.cellsOf e) (eval tb f x))=some r):
  Yields tb C r ((execOp a.eval o).run P C.w):=by
 have hr:=AJ I F hx
 obtain⟨k,_,ej⟩:=It (AJ I F hi) hn
 simp only[val]at h
 cases hs:shift (n.toNat*P.cellsOf e) (eval tb f x)with
 |none=>rw[hs]at h;simp at h
 |some y'=>
  rw[hs]at h
  obtain rfl:=Option.some.inj h
  have run: ∀p:Addr,a.eval y= .pointer (some p)→(execOp a.eval o).run P C.w= .ok (.value (.pointer (some (p.add (n.toNat*P.cellsOf e))))) C.w:=by
   intro p hp
   simp only[execOp,ho,hp,ej,Instr.indexAt,asIntOf,Sem.run_bind,Av hu,Result.andThen_ok,Instr.sureAddr,Sem.run_pure,BX hz,if_pos h0]
  obtain⟨b,q,⟨e',r'⟩|⟨⟨p,e'⟩,r'⟩⟩:=Y3 hr hs
  ·exact Az I (run _ e') (by rw[G3];exact r')
  ·exact Az I (run _ e') (r' _ _ rfl)
theorem dH{t:TypeId}{cs:List AV}{vs:List Value}{off:Nat}{v:AV}(hu:(P.underlying t).isSome=true)(hs:cs.all scal=true)(r:Bg C cs vs)(_hle:off+P.cellsOf t≤cs.length)
  (h:HS (Fi P t) (sub cs off (P.cellsOf t))=some v): ∃x,(part t vs.toArray off).run P C.w= .ok x C.w∧Gc C v x:=by
 have hinfo:(P.info? t).isSome=true:=by
  obtain⟨d,hd⟩:=Option.isSome_iff_exists.1 hu
  exact info_of_underlying hd
 have hrl:Bg C (sub cs off (P.cellsOf t)) ((vs.drop off).take (P.cellsOf t)):=r.drop.take
 obtain⟨q1,q2⟩:=T8 h (Om hs off _) hrl
 cases hag:Fi P t with
 |true=>
  refine⟨.agg ((vs.drop off).take (P.cellsOf t)).toArray,?_,q1 hag⟩
  simp only[part,Sem.run_bind,Fj t C.w hu,hag,Result.andThen_ok,if_true,BX hinfo,Sem.run_pure]
  congr 2
  simp
 |false=>
  obtain⟨z,hz,rz⟩:=q2 hag
  refine⟨z,?_,rz⟩
  have:vs[off]? =some z:=by
   have:((vs.drop off).take (P.cellsOf t))[0]? =some z:=by rw[hz];rfl
   rw[List.getElem?_take]at this
   split at this
   ·simpa using this
   ·simp at this
  simp only[part,Sem.run_bind,Fj t C.w hu,hag,Result.andThen_ok,Bool.false_eq_true,if_false]
  simp[this]
theorem yM(I:Inv tb C)(F:By C f a nt){o:Oper}{t:TypeId}{x:AO}{y:Operand}{i:Nat}{fs:Array Field}{fd:Field}(ho:o.op= .field t y i)(hu:P.underlying t=some (.struct fs))(hf:fs[i]? =some fd)
  (hz:(P.underlying fd.type).isSome=true) (hx:Bk x y=true) {cs:List AV} (hv:eval tb f x= .agg cs) (hle:fd.offset+P.cellsOf fd.type≤cs.length) {v:AV} (h:HS (Fi P fd.type) (sub cs fd.offset (P.cellsOf fd.type))=some v):
  Yields tb C (v,none) ((execOp a.eval o).run P C.w):=by
 have hr:=AJ I F hx
 rw[hv]at hr
 obtain⟨vs,e,hs,hl⟩:=hr
 obtain⟨z,hz',rz⟩:=dH hz hs hl hle h
 refine Az I (v:=z) ?_ rz
 simp only[execOp,ho,e,Instr.field,Sem.run_bind,Av hu,Result.andThen_ok,hf,asAgg,Sem.run_pure,hz']
theorem yJ(I:Inv tb C)(F:By C f a nt){o:Oper}{t e:TypeId}{x i:AO}{y j:Operand}{len:Nat}(ho:o.op= .index t y j)(hu:P.underlying t=some (.array len e))
  (hz:(P.underlying e).isSome=true) (hx:Bk x y=true) (hi:Bk i j=true) {n:Int} (hn:Il (eval tb f i)=some n) {cs:List AV} (hv:eval tb f x= .agg cs) (h0:0≤n∧n<len) (hle:len*P.cellsOf e≤cs.length)
  {v:AV} (h:HS (Fi P e) (sub cs (n.toNat*P.cellsOf e) (P.cellsOf e))=some v):Yields tb C (v,none) ((execOp a.eval o).run P C.w):=by
 have hr:=AJ I F hx
 obtain⟨k,_,ej⟩:=It (AJ I F hi) hn
 rw[hv]at hr
 obtain⟨vs,ey,hs,hl⟩:=hr
 have hle':n.toNat*P.cellsOf e+P.cellsOf e≤cs.length:=by
  have:(n.toNat+1)*P.cellsOf e≤len*P.cellsOf e:=Nat.mul_le_mul_right _ (by omega)
  rw[Nat.succ_mul]at this
  omega
 obtain⟨z,hz',rz⟩:=dH hz hs hl hle' h
 have hinfo:(P.info? e).isSome=true:=by
  obtain⟨d,hd⟩:=Option.isSome_iff_exists.1 hz
  exact info_of_underlying hd
 refine Az I (v:=z) ?_ rz
 simp only[execOp,ho,ey,ej,Instr.index,asIntOf,Sem.run_bind,Av hu,Result.andThen_ok,Sem.run_pure,if_pos h0,BX hinfo,hz']
theorem yI(I:Inv tb C)(F:By C f a nt){o:Oper}{t:TypeId}{x i:AO}{y j:Operand}(ho:o.op= .index t y j)(hu:P.underlying t=some .string)(hx:Bk x y=true)(hi:Bk i j=true)
  {n:Int} (hn:Il (eval tb f i)=some n) {l:List UInt8} (hv:eval tb f x= .s l) (h0:0≤n) {c:UInt8} (h:l[n.toNat]? =some c):Yields tb C (.i .u8 c.toNat,none) ((execOp a.eval o).run P C.w):=by
 have hr:=AJ I F hx
 obtain⟨k,_,ej⟩:=It (AJ I F hi) hn
 rw[hv]at hr
 have ey:a.eval y= .string ⟨l.toArray⟩:=hr
 refine Az I (v:= .int .u8 c.toNat) ?_ rfl
 have:(⟨l.toArray⟩:ByteArray)[n.toNat]? =some c:=by
  have hlt:=Bb h
  have:n.toNat<(⟨l.toArray⟩:ByteArray).size:=by rw[P6];exact hlt
  rw[getElem?_pos (⟨l.toArray⟩:ByteArray) n.toNat this]
  congr 1
  exact(List.getElem?_eq_some_iff.1 h).2
 simp only[execOp,ho,ey,ej,Instr.index,asIntOf,Sem.run_bind,Av hu,Result.andThen_ok,Sem.run_pure,if_pos h0,this]
theorem P8{x:AV}{v:Value}{m n:Nat}(r:Gc C x v)(h:JW x m=some n)(code:BoundsCode)(w:World):(Instr.sliceBound v m code).run P w= .ok n w∧n≤m:=by
 simp only[JW]at h
 cases hi:Il x with
 |none=>rw[hi]at h;simp at h
 |some q=>
  rw[hi]at h
  simp only[Option.bind_some]at h
  split at h
  ·rename_i hq
   obtain rfl:=Option.some.inj h
   obtain⟨k,_,e⟩:=It r hi
   refine⟨?_,by omega⟩
   simp only[Instr.sliceBound,e,asIntOf,Sem.run_bind,Sem.run_pure,Result.andThen_ok,if_pos hq]
  ·simp at h
theorem QL(I:Inv tb C)(F:By C f a nt){lo hi:Option AO}{ylo yhi:Option Operand}(h1:YH lo ylo=true)(h2:YH hi yhi=true){len cap l m:Nat}(isS:Bool)(hlc:len≤cap)
  (h:HR (eval tb f) len lo hi=some (l,m)) (w:World):(Instr.sliceBounds isS len cap (ylo.map a.eval) (yhi.map a.eval) none).run P w= .ok (l,m,cap) w∧l≤m∧m≤len:=by
 simp only[HR]at h
 cases hi with
 |none=>
  cases yhi with
  |some _=>simp[YH]at h2
  |none=>
   simp only[Option.bind_some]at h
   cases lo with
   |none=>
    cases ylo with
    |some _=>simp[YH]at h1
    |none=>
     simp only[Option.bind_some,Option.some.injEq,Prod.mk.injEq]at h
     obtain⟨rfl,rfl⟩:=h
     exact⟨by simp[Instr.sliceBounds],by omega,by omega⟩
   |some x=>
    cases ylo with
    |none=>simp[YH]at h1
    |some y=>
     cases hb:JW (eval tb f x) len with
     |none=>simp only[hb,Option.bind_none,reduceCtorEq]at h
     |some q=>
      simp only[hb,Option.bind_some,Option.some.injEq,Prod.mk.injEq]at h
      obtain⟨rfl,rfl⟩:=h
      have:=P8 (P:=P) (AJ I F h1) hb .sliceB w
      exact⟨by simp[Instr.sliceBounds,this.1],this.2,by omega⟩
 |some z=>
  cases yhi with
  |none=>simp[YH]at h2
  |some u=>
   cases hz:JW (eval tb f z) len with
   |none=>simp only[hz,Option.bind_none,reduceCtorEq]at h
   |some m'=>
    simp only[hz,Option.bind_some]at h
    obtain⟨k,hk⟩: ∃k,Il (eval tb f z)=some k:=by
     simp only[JW]at hz
     cases hi:Il (eval tb f z)with
     |none=>rw[hi]at hz;simp at hz
     |some k=>exact⟨k,rfl⟩
    have hzc:JW (eval tb f z) cap=some m':=by
     simp only[JW,hk,Option.bind_some]at hz ⊢
     split at hz
     ·rename_i hq;rw[if_pos ⟨hq.1,by omega⟩];exact hz
     ·simp at hz
    have hm:m'≤len:=(P8 (P:=P) (AJ I F h2) hz .sliceB w).2
    have r1:=fun code=>(P8 (P:=P) (AJ I F h2) hzc code w).1
    cases lo with
    |none=>
     cases ylo with
     |some _=>simp[YH]at h1
     |none=>
      simp only[Option.bind_some,Option.some.injEq,Prod.mk.injEq]at h
      obtain⟨rfl,rfl⟩:=h
      exact⟨by simp[Instr.sliceBounds,r1],by omega,hm⟩
    |some x=>
     cases ylo with
     |none=>simp[YH]at h1
     |some y=>
      cases hb:JW (eval tb f x) m' with
      |none=>simp only[hb,Option.bind_none,reduceCtorEq]at h
      |some q=>
       simp only[hb,Option.bind_some,Option.some.injEq,Prod.mk.injEq]at h
       obtain⟨rfl,rfl⟩:=h
       have:=P8 (P:=P) (AJ I F h1) hb .sliceB w
       exact⟨by simp[Instr.sliceBounds,r1,this.1],this.2,hm⟩
theorem WT(l:List UInt8)(i j:Nat):(⟨l.toArray⟩:ByteArray).extract i j=⟨((l.take j).drop i).toArray⟩:=by
 apply ByteArray.ext
 simp[List.drop_take]
theorem xW(I:Inv tb C)(F:By C f a nt){o:Oper}{t:TypeId}{x:AO}{y:Operand}{lo hi:Option AO}{ylo yhi:Option Operand}(ho:o.op= .slice t y ylo yhi none)(hu:P.underlying t=some .string)(hx:Bk x y=true)
  (h1:YH lo ylo=true) (h2:YH hi yhi=true) {s:List UInt8} (hv:eval tb f x= .s s) {l m:Nat} (h:HR (eval tb f) s.length lo hi=some (l,m)):
  Yields tb C (.s ((s.take m).drop l),none) ((execOp a.eval o).run P C.w):=by
 have hr:=AJ I F hx
 rw[hv]at hr
 have ey:a.eval y= .string ⟨s.toArray⟩:=hr
 obtain⟨hb,_,_⟩:=QL (P:=P) I F h1 h2 (cap:=s.length) false (Nat.le_refl _) h C.w
 refine Az I (v:= .string ⟨((s.take m).drop l).toArray⟩) ?_ rfl
 simp only[execOp,ho,ey,Instr.sliceAt,Option.map_none,Sem.run_bind,Av hu,Result.andThen_ok,Instr.slice,Option.isSome_none,Bool.false_eq_true,if_false,P6,hb,WT s l m,Sem.run_pure]
theorem AY.sub{l:List (List AV)}{vss:List (List Value)}(r:AY C l vss)(a b:Nat):AY C ((l.take b).drop a) ((vss.take b).drop a):=r.take.drop
theorem EW{α:Type}{sz:Nat}: ∀(l:List (List α)) (n:Nat),(∀x∈l,x.length=sz)→(l.drop n).flatten=l.flatten.drop (n*sz)
 |_,0,_=>by simp
 |[],n+1,_=>by simp
 |x::l,n+1,h=>by
  have hx:=h x List.mem_cons_self
  rw[List.drop_succ_cons,EW l n fun y hy=>h y (List.mem_cons_of_mem _ hy),List.flatten_cons,List.drop_append,List.drop_of_length_le (l:=x) (by rw[hx,Nat.succ_mul];omega),List.nil_append]
  congr 1
  rw[hx,Nat.succ_mul];omega
theorem E0{α:Type}{sz:Nat}: ∀(l:List (List α)) (n:Nat),(∀x∈l,x.length=sz)→(l.take n).flatten=l.flatten.take (n*sz)
 |_,0,_=>by simp
 |[],n+1,_=>by simp
 |x::l,n+1,h=>by
  have hx:=h x List.mem_cons_self
  rw[List.take_succ_cons,List.flatten_cons,E0 l n fun y hy=>h y (List.mem_cons_of_mem _ hy),List.flatten_cons,List.take_append,List.take_of_length_le (l:=x) (by rw[hx,Nat.succ_mul];omega)]
  congr 2
  rw[hx,Nat.succ_mul];omega
theorem bI(I:Inv tb C){x:AV}{v:Value}{sz:Nat}{els:List (List AV)}(hsz:0<sz)(r:Gc C x v)(h:EP C.H sz x=some els):
  (els=[]∧v= .slice none 0 0)∨ ∃q cap vss,v= .slice (some q) els.length cap∧els.length≤cap∧(els≠[]→ ∃b base,q=⟨b,base,none⟩∧DY C.w b base vss.flatten)∧(∀e∈els,e.length=sz∧e.all scal=true)∧AY C els vss:=by
 cases x<;>simp only[EP,reduceCtorEq]at h
 case nils=>obtain rfl:=Option.some.inj h;exact .inl ⟨rfl,r⟩
 case sl sz' els'=>
  split at h
  ·rename_i e
   subst e
   obtain rfl:=Option.some.inj h
   rcases r with ⟨b,base,cap,vss,e,hl,_,_,hh,hs,hr⟩|⟨rfl,p,cap,e⟩
   ·exact .inr ⟨_,cap,vss,e,hl,fun _=>⟨b,base,rfl,hh⟩,hs,hr⟩
   ·exact .inr ⟨p,cap,[],e,Nat.zero_le _,fun h=>absurd rfl h,fun e he=>(by cases he),rfl⟩
  ·simp at h
 case orow id n lo len=>
  obtain⟨_,fz,sz',els',hg,hl,k⟩:=r
  simp only[hg,Option.bind_some]at h
  split at h
  ·rename_i hc
   obtain⟨hn,rfl,hle⟩:=hc
   obtain rfl:=Option.some.inj h
   obtain⟨_,off,cap,e,hlc,hoff,hsize⟩:=k hn
   obtain⟨tl,hg',hlab⟩:=Iv hg
   obtain⟨vss,arr,et,fr,⟨h1,hfr0,hlb⟩,h2,h3,h4,h5,h6,h7,h8,h9⟩:=I.obj id _ hg'
   have hlen:((els'.drop lo).take len).length=len:=by simp only[List.length_take,List.length_drop];omega
   refine .inr ⟨_,cap,(vss.drop lo).take len,by rw[hlen];exact e,by rw[hlen];exact hlc,?_,fun x hx=>h4 x (List.mem_of_mem_drop (List.mem_of_mem_take hx)),h5.drop.take⟩
   intro hne
   have hpos:0<len:=by
    rcases Nat.eq_zero_or_pos len with h0|h0
    ·rw[h0]at hne;simp at hne
    ·exact h0
   have hlens:=AY.lens (fun x hx=>(h4 x hx).1) h5
   refine⟨_,_,rfl,?_⟩
   rw[E0 (sz:=sz') _ _ fun x hx=>hlens x (List.mem_of_mem_drop hx),EW _ _ hlens,hoff hpos]
   exact h7.sub _ _
  ·simp at h
 case ocel sz' id off len=>
  obtain⟨⟨ob,hg,hf⟩,q,cap,e,hlc,hq,hz⟩:=r
  unfold Cq at h
  split at h
  ·rename_i t' cs hc
   simp only[Option.bind_some]at h
   split at h
   ·rename_i hcond
    obtain⟨rfl,hle⟩:=hcond
    obtain rfl:=Option.some.inj h
    obtain⟨vs,arr,et,fr,⟨h1,hlb⟩,h2,h3,h4,h5,h6⟩:=I.obj id _ hc
    have chunk: ∀(n:Nat) (cs:List AV) (vs:List Value) (base:Nat),cs.all scal=true→Bg C cs vs→DY C.w (C.φ id).blk base vs→n*sz'≤cs.length→
      (BK sz' n cs).length=n∧(∀e∈BK sz' n cs,e.length=sz'∧e.all scal=true)∧ ∃vss,DY C.w (C.φ id).blk base vss.flatten∧AY C (BK sz' n cs) vss:=by
     intro n
     induction n with
     |zero=>intro cs vs base _ _ _ _;exact⟨rfl,fun e he=>(by cases he),[],fun j v hj=>(by simp at hj),rfl⟩
     |succ n ih=>
      intro cs vs base hs hr hh hn
      rw[Nat.succ_mul]at hn
      have hdrop:(cs.drop sz').all scal=true:=by
       simp only[List.all_eq_true]at hs ⊢
       exact fun x hx=>hs x (List.mem_of_mem_drop hx)
      obtain⟨h1,h2,vss,h3,h4⟩:=ih (cs.drop sz') (vs.drop sz') (base+sz') hdrop hr.drop (by
       have:=hh.sub sz' (vs.drop sz').length
       rwa [List.take_of_length_le (Nat.le_refl _)]at this) (by simp only[List.length_drop];omega)
      have htake:(vs.take sz').length=sz':=by rw[List.length_take,hr.length];omega
      refine⟨by simp[BK,h1],?_,vs.take sz'::vss,?_,⟨_,_,rfl,hr.take,h4⟩⟩
      ·intro x hx
       rcases List.mem_cons.1 hx with e|hx
       ·subst e
        refine⟨by simp only[List.length_take];omega,?_⟩
        simp only[List.all_eq_true]at hs ⊢
        exact fun y hy=>hs y (List.mem_of_mem_take hy)
       ·exact h2 x hx
      ·intro j v hj0
       have hj:(vs.take sz'++vss.flatten)[j]? =some v:=hj0
       rcases Nat.lt_or_ge j sz' with hlt|hge
       ·rw[List.getElem?_append_left (by omega)]at hj
        rw[List.getElem?_take,if_pos hlt]at hj
        exact hh j v hj
       ·rw[List.getElem?_append_right (by omega)]at hj
        have:=h3 _ v hj
        rw[htake]at this
        rwa [show base+sz'+(j-sz')=base+j by omega]at this
    obtain⟨c1,c2,vss,c3,c4⟩:=chunk len (cs.drop off) (vs.drop off) off (by
     simp only[List.all_eq_true]at h3 ⊢
     exact fun x hx=>h3 x (List.mem_of_mem_drop hx)) h4.drop (by
     have:=h5.sub off (vs.drop off).length
     rw[List.take_of_length_le (Nat.le_refl _)]at this
     simpa using this) (by simp only[List.length_drop];omega)
    refine .inr ⟨_,cap,vss,by rw[c1];exact e,by rw[c1];exact hlc,?_,c2,c4⟩
    intro hne
    have hpos:0<len:=by
     rcases Nat.eq_zero_or_pos len with h0|h0
     ·rw[h0]at hne;simp[BK]at hne
     ·exact h0
    rw[hq hpos]
    exact⟨_,_,rfl,c3⟩
   ·simp at h
  ·simp at h
theorem fQ{α:Type}{sz:Nat}{l:List (List α)}{i:Nat}{x:List α}(h: ∀y∈l,y.length=sz)(hi:l[i]? =some x):(l.flatten.drop (i*sz)).take sz=x:=by
 rw[←EW l i h]
 have hlt:=Bb hi
 rw[List.drop_eq_getElem_cons hlt,List.flatten_cons]
 have e:l[i]=x:=(List.getElem?_eq_some_iff.1 hi).2
 rw[e,List.take_append_of_le_length (by rw[h x (List.mem_of_getElem? hi)];omega),List.take_of_length_le (by rw[h x (List.mem_of_getElem? hi)];omega)]
theorem yK(I:Inv tb C)(F:By C f a nt){o:Oper}{t e:TypeId}{x i:AO}{y j:Operand}(ho:o.op= .indexAddr t y j)(hu:P.underlying t=some (.slice e))(hz:(P.info? e).isSome=true)
  (hx:Bk x y=true) (hi:Bk i j=true) {n:Int} (hn:Il (eval tb f i)=some n) (h0:0≤n) {r:AV×Option Ax} (h:val (W8 C.H (P.cellsOf e) (eval tb f x) n.toNat)=some r):
  Yields tb C r ((execOp a.eval o).run P C.w):=by
 have hr:=AJ I F hx
 obtain⟨k,_,ej⟩:=It (AJ I F hi) hn
 generalize eval tb f x=v at*
 simp only[W8]at h
 cases hels:EP C.H (P.cellsOf e) v with
 |none=>rw[hels]at h;simp[val]at h
 |some els=>
  rw[hels]at h
  simp only[Option.bind_some]at h
  split at h
  ·rename_i hlt
   have run: ∀(b off len cap:Nat),a.eval y= .slice (some ⟨b,off,none⟩) len cap→n.toNat<len→(execOp a.eval o).run P C.w= .ok (.value (.pointer (some ⟨b,off+n.toNat*P.cellsOf e,none⟩))) C.w:=by
    intro b off len cap hp hl
    have hc:0≤n∧n<(len:Int):=by omega
    simp only[execOp,ho,hp,ej,Instr.indexAt,asIntOf,Sem.run_bind,Av hu,Result.andThen_ok,Sem.run_pure,BX hz,if_pos hc,G3]
   have gen: ∀(w:AV),(els[n.toNat]?).map (fun cs=>AV.ip cs 0)=some w→(∃b base cap vss,a.eval y= .slice (some ⟨b,base,none⟩) els.length cap∧b<C.w.heap.size∧ ¬C.own b∧DY C.w b base vss.flatten∧(∀e'∈els,e'.length=P.cellsOf e∧e'.all scal=true)∧AY C els vss)→
     Yields tb C (w,none) ((execOp a.eval o).run P C.w):=by
    rintro w hw ⟨b,base,cap,vss,e',hb,hown,hh,hs,hrr⟩
    cases hi:els[n.toNat]? with
    |none=>rw[hi]at hw;simp at hw
    |some cs=>
     rw[hi]at hw
     obtain rfl:=Option.some.inj hw
     obtain⟨vs,hv,rv⟩:=AY.get hrr hi
     have hlens:=AY.lens (fun x hx=>(hs x hx).1) hrr
     have:=hh.sub (n.toNat*P.cellsOf e) (P.cellsOf e)
     rw[fQ hlens hv]at this
     exact Az I (run b base _ cap e' hlt) ⟨b,base+n.toNat*P.cellsOf e,vs,rfl,hb,hown,this,(hs cs (List.mem_of_getElem? hi)).2,rv⟩
   cases v
   case orow id k lo len=>
    simp only[val,Option.map_some,Option.some.injEq]at h
    subst h
    obtain⟨_,fz,sz,els',hg,hl,kk⟩:=hr
    simp only[EP,hg,Option.bind_some]at hels
    split at hels
    ·rename_i hc
     obtain⟨hk,hsz,hle⟩:=hc
     obtain rfl:=Option.some.inj hels
     obtain⟨_,off,cap,e',hlc,hoff,_⟩:=kk hk
     have hnl:n.toNat<len:=by simp only[List.length_take,List.length_drop]at hlt;omega
     refine Az I (run _ _ _ _ e' hnl) ⟨⟨_,rfl⟩,fz,sz,els',hg,hl,fun _=> ?_⟩
     rw[hoff (by omega),←hsz,Nat.add_mul,Nat.add_assoc]
     rfl
    ·simp at hels
   case ocel sz id off len=>
    simp only[val,Option.map_some,Option.some.injEq]at h
    subst h
    obtain⟨hobj,q,cap,e',hlc,hq,_⟩:=hr
    simp only[EP]at hels
    cases hc:Cq C.H id with
    |none=>rw[hc]at hels;simp at hels
    |some cs=>
     rw[hc]at hels
     simp only[Option.bind_some]at hels
     split at hels
     ·rename_i hcond
      obtain⟨rfl,_⟩:=hcond
      obtain rfl:=Option.some.inj hels
      have hnl:n.toNat<len:=by
       have: ∀(m:Nat) (cs:List AV),(BK (P.cellsOf e) m cs).length=m:=by
        intro m;induction m with
        |zero=>intro cs;rfl
        |succ m ih=>intro cs;simp[BK,ih]
       rwa [this]at hlt
      refine Az I (run _ _ _ _ e' hnl) ⟨hobj,?_⟩
      rw[hq (by omega)]
     ·simp at hels
   case nils=>
    simp only[EP,Option.some.injEq]at hels
    subst hels
    simp at hlt
   case sl sz els'=>
    simp only[EP]at hels
    split at hels
    ·rename_i e'
     subst e'
     obtain rfl:=Option.some.inj hels
     rcases hr with ⟨b,base,cap,vss,e',hl,hb,hown,hh,hs,hrr⟩|⟨rfl,_⟩
     case inr=>simp at hlt
     simp only[val,Option.map_map]at h
     cases hi:els'[n.toNat]? with
     |none=>rw[hi]at h;simp at h
     |some cs=>
      rw[hi]at h
      obtain rfl:=Option.some.inj h
      exact gen _ (by rw[hi];rfl) ⟨b,base,cap,vss,e',hb,hown,hh,hs,hrr⟩
    ·simp at hels
   all_goals simp[EP]at hels
  ·simp[val]at h
theorem xX(I:Inv tb C)(F:By C f a nt){o:Oper}{t e:TypeId}{x:AO}{y:Operand}{lo hi:Option AO}{ylo yhi:Option Operand}(ho:o.op= .slice t y ylo yhi none)(hu:P.underlying t=some (.slice e))(hz:(P.info? e).isSome=true)
  (hx:Bk x y=true) (h1:YH lo ylo=true) (h2:YH hi yhi=true) {len l m:Nat} (hl:Pb (eval tb f x)=some len) (h:HR (eval tb f) len lo hi=some (l,m)) {r:AV×Option Ax}
  (hv:val (resl C.H (P.cellsOf e) (eval tb f x) l m)=some r):Yields tb C r ((execOp a.eval o).run P C.w):=by
 have hr:=AJ I F hx
 have run: ∀(p:Option Addr) (cap:Nat),len≤cap→a.eval y= .slice p len cap→(execOp a.eval o).run P C.w= .ok (.value (.slice (if cap=l then p else p.map (·.add (l*P.cellsOf e))) (m-l) (cap-l))) C.w∧l≤m∧m≤len:=by
  intro p cap hlc hp
  obtain⟨hb,q1,q2⟩:=QL (P:=P) I F h1 h2 (cap:=cap) true hlc h C.w
  refine⟨?_,q1,q2⟩
  simp only[execOp,ho,hp,Instr.sliceAt,Option.map_none,Sem.run_bind,Av hu,Result.andThen_ok,Instr.slice,hb,BX hz,Sem.run_pure]
 generalize eval tb f x=v at*
 cases v<;>simp only[resl,val,Option.map_none,reduceCtorEq]at hv
 case nils=>
  simp only[Option.map_some,Option.some.injEq]at hv
  subst hv
  simp only[Pb,Option.some.injEq]at hl
  subst hl
  obtain⟨q,q1,q2⟩:=run none 0 (Nat.le_refl _) hr
  obtain rfl:m=0:=by omega
  obtain rfl:l=0:=by omega
  exact Az I q rfl
 case sl sz els=>
  split at hv
  ·rename_i e'
   subst e'
   simp only[Option.map_some,Option.some.injEq]at hv
   subst hv
   simp only[Pb,Option.some.injEq]at hl
   subst hl
   rcases hr with ⟨b,base,cap,vss,e',hlc,hb,hown,hh,hs,hrr⟩|⟨rfl,p,cap,e'⟩
   case inr=>
    obtain⟨q,q1,q2⟩:=run _ cap (Nat.zero_le _) e'
    simp only[List.length_nil]at q2
    obtain rfl:m=0:=by omega
    obtain rfl:l=0:=by omega
    by_cases hc:cap=0
    ·rw[if_pos hc]at q
     exact Az I q (.inr ⟨by simp,_,_,rfl⟩)
    ·rw[if_neg hc]at q
     exact Az I q (.inr ⟨by simp,_,_,rfl⟩)
   obtain⟨q,q1,q2⟩:=run _ _ hlc e'
   have hlens:=AY.lens (fun x hx=>(hs x hx).1) hrr
   have hlen:((els.take m).drop l).length=m-l:=by simp only[List.length_drop,List.length_take];omega
   by_cases hc:cap=l
   ·have hm:m=l:=by omega
    rw[if_pos hc]at q
    refine Az I q<| .inl ⟨b,base,cap-l,[],?_,by omega,hb,hown,fun j v hj=>(by simp at hj),?_,?_⟩
    ·rw[hlen]
    ·intro x hx
     rw[List.eq_nil_of_length_eq_zero (l:=(els.take m).drop l) (by rw[hlen];omega)]at hx
     cases hx
    ·rw[List.eq_nil_of_length_eq_zero (l:=(els.take m).drop l) (by rw[hlen];omega)]
     rfl
   ·rw[if_neg hc]at q
    simp only[Option.map_some,G3]at q
    refine Az I q<| .inl ⟨b,base+l*P.cellsOf e,cap-l,(vss.take m).drop l,by rw[hlen],by rw[hlen];omega,hb,hown,?_,?_,hrr.sub _ _⟩
    ·rw[EW (sz:=P.cellsOf e) _ _ fun x hx=>hlens x (List.mem_of_mem_take hx),E0 _ _ hlens]
     have:=hh.sub (l*P.cellsOf e) (m*P.cellsOf e-l*P.cellsOf e)
     rwa [←List.drop_take]at this
    ·exact fun x hx=>hs x (List.mem_of_mem_take (List.mem_of_mem_drop hx))
  ·simp at hv
 case orow id n l' len'=>
  simp only[Pb,Option.some.injEq]at hl
  subst hl
  obtain⟨_,fz,sz,els,hg,hle,k⟩:=hr
  simp only[hg,Option.bind_some]at hv
  split at hv
  ·rename_i hc
   obtain⟨hn,hsz,hle'⟩:=hc
   simp only[Option.map_some,Option.some.injEq]at hv
   subst hv
   obtain⟨_,off,cap,e',hlc,hoff,hsize,hbo⟩:=k hn
   obtain⟨q,q1,q2⟩:=run _ _ hlc e'
   by_cases hc:cap=l
   ·rw[if_pos hc]at q
    refine Az I q ⟨⟨_,_,rfl⟩,fz,sz,els,hg,hle,fun _=>⟨by omega,off,_,rfl,by omega,fun hp=>by omega,?_,hbo⟩⟩
    have:(cap-l)*sz≤cap*sz:=Nat.mul_le_mul_right _ (by omega)
    omega
   ·rw[if_neg hc]at q
    simp only[Option.map_some,G3]at q
    refine Az I q ⟨⟨_,_,rfl⟩,fz,sz,els,hg,hle,fun _=>⟨by omega,off+l*P.cellsOf e,_,rfl,by omega,fun hp=> ?_,?_,by omega⟩⟩
    ·rw[hoff (by omega),hsz,Nat.add_mul];omega
    ·rw[hsz]at hsize ⊢
     rw[Nat.sub_mul]
     have:l*P.cellsOf e≤cap*P.cellsOf e:=Nat.mul_le_mul_right _ (by omega)
     omega
  ·simp at hv
 case ocel sz id off len'=>
  simp only[Pb,Option.some.injEq]at hl
  subst hl
  split at hv
  ·rename_i hsz
   subst hsz
   simp only[Option.map_some,Option.some.injEq]at hv
   subst hv
   obtain⟨hobj,q0,cap,e',hlc,hoff,hz'⟩:=hr
   obtain⟨q,q1,q2⟩:=run _ _ hlc e'
   by_cases hc:cap=l
   ·rw[if_pos hc]at q
    exact Az I q ⟨hobj,q0,_,rfl,by omega,fun hp=>by omega,hz'⟩
   ·rw[if_neg hc]at q
    simp only[Option.map_some,G3]at q
    exact Az I q ⟨hobj,_,_,rfl,by omega,fun hp=>by rw[hoff (by omega)],hz'⟩
  ·simp at hv
theorem Uq(sz:Nat): ∀(n:Nat) (cs:List AV) (vs:List Value) (w:World) (b base:Nat),cs.all scal=true→Bg C cs vs→DY w b base vs→n*sz≤cs.length→
  (BK sz n cs).length=n∧(∀e∈BK sz n cs,e.length=sz∧e.all scal=true)∧ ∃vss,DY w b base vss.flatten∧AY C (BK sz n cs) vss:=by
 intro n
 induction n with
 |zero=>intro cs vs w b base _ _ _ _;exact⟨rfl,fun e he=>(by cases he),[],fun j v hj=>(by simp at hj),rfl⟩
 |succ n ih=>
  intro cs vs w b base hs hr hh hn
  rw[Nat.succ_mul]at hn
  have hdrop:(cs.drop sz).all scal=true:=by
   simp only[List.all_eq_true]at hs ⊢
   exact fun x hx=>hs x (List.mem_of_mem_drop hx)
  obtain⟨h1,h2,vss,h3,h4⟩:=ih (cs.drop sz) (vs.drop sz) w b (base+sz) hdrop hr.drop (by
   have:=hh.sub sz (vs.drop sz).length
   rwa [List.take_of_length_le (Nat.le_refl _)]at this) (by simp only[List.length_drop];omega)
  have htake:(vs.take sz).length=sz:=by rw[List.length_take,hr.length];omega
  refine⟨by simp[BK,h1],?_,vs.take sz::vss,?_,⟨_,_,rfl,hr.take,h4⟩⟩
  ·intro x hx
   rcases List.mem_cons.1 hx with e|hx
   ·subst e
    refine⟨by simp only[List.length_take];omega,?_⟩
    simp only[List.all_eq_true]at hs ⊢
    exact fun y hy=>hs y (List.mem_of_mem_take hy)
   ·exact h2 x hx
  ·intro j v hj0
   have hj:(vs.take sz++vss.flatten)[j]? =some v:=hj0
   rcases Nat.lt_or_ge j sz with hlt|hge
   ·rw[List.getElem?_append_left (by omega)]at hj
    rw[List.getElem?_take,if_pos hlt]at hj
    exact hh j v hj
   ·rw[List.getElem?_append_right (by omega)]at hj
    have:=h3 _ v hj
    rw[htake]at this
    rwa [show base+sz+(j-sz)=base+j by omega]at this
theorem xY(I:Inv tb C)(F:By C f a nt){o:Oper}{t e:TypeId}{n:Nat}{x:AO}{y:Operand}{lo hi:Option AO}{ylo yhi:Option Operand}(ho:o.op= .slice t y ylo yhi none)(hz:(P.info? e).isSome=true)(hz0:0<P.cellsOf e)
  (hu:P.underlying t=some (.array n e)∨ ∃u,P.underlying t=some (.pointer u)∧P.underlying u=some (.array n e))
  (hx:Bk x y=true) (h1:YH lo ylo=true) (h2:YH hi yhi=true) {l m:Nat} (h:HR (eval tb f) n lo hi=some (l,m)) {r:AV×Option Ax}
  (hv:val (oJ C.H n (P.cellsOf e) (eval tb f x) l m)=some r):Yields tb C r ((execOp a.eval o).run P C.w):=by
 have hr:=AJ I F hx
 obtain⟨hb,q1,q2⟩:=QL (P:=P) I F h1 h2 (cap:=n) false (Nat.le_refl _) h C.w
 have run: ∀(p:Addr),a.eval y= .pointer (some p)→(execOp a.eval o).run P C.w= .ok (.value (.slice (some (if n=l then p else p.add (l*P.cellsOf e))) (m-l) (n-l))) C.w:=by
  intro p hp
  rcases hu with hu|⟨u,hu,hu'⟩
  ·simp only[execOp,ho,hp,Instr.sliceAt,Option.map_none,Sem.run_bind,Av hu,Result.andThen_ok,Instr.sureAddr,hb,BX hz,Sem.run_pure]
  ·simp only[execOp,ho,hp,Instr.sliceAt,Option.map_none,Sem.run_bind,Av hu,Av hu',Result.andThen_ok,Instr.slice,asAddr,hb,BX hz,Sem.run_pure]
 generalize eval tb f x=v at*
 cases v<;>simp only[oJ,val,Option.map_none,reduceCtorEq]at hv
 case ptr id off=>
  cases hc:Cq C.H id with
  |none=>rw[hc]at hv;simp at hv
  |some cs=>
   rw[hc]at hv
   simp only[Option.bind_some]at hv
   split at hv
   ·simp only[Option.map_some,Option.some.injEq]at hv
    subst hv
    obtain⟨hobj,e'⟩:=hr
    have q:=run _ e'
    by_cases hc:n=l
    ·rw[if_pos hc]at q
     exact Az I q ⟨hobj,off,_,rfl,by omega,fun hp=>by omega,hz0⟩
    ·rw[if_neg hc,G3]at q
     exact Az I q ⟨hobj,_,_,rfl,by omega,fun hp=>rfl,hz0⟩
   ·simp at hv
 case ip cs off=>
  split at hv
  ·rename_i hle
   simp only[Option.map_some,Option.some.injEq]at hv
   subst hv
   obtain⟨b,base,vs,e',hlt,hown,hh,hs,hrr⟩:=hr
   have q:=run _ e'
   obtain⟨c1,c2,vss,c3,c4⟩:=Uq (C:=C) (P.cellsOf e) n (cs.drop off) (vs.drop off) C.w b (base+off) (by
    simp only[List.all_eq_true]at hs ⊢
    exact fun x hx=>hs x (List.mem_of_mem_drop hx)) hrr.drop (by
    have:=hh.sub off (vs.drop off).length
    rwa [List.take_of_length_le (Nat.le_refl _)]at this) (by simp only[List.length_drop];omega)
   have hlens:=AY.lens (fun x hx=>(c2 x hx).1) c4
   have hlen:(((BK (P.cellsOf e) n (cs.drop off)).take m).drop l).length=m-l:=by simp only[List.length_drop,List.length_take,c1];omega
   by_cases hc:n=l
   ·rw[if_pos hc]at q
    refine Az I q<| .inl ⟨b,base+off,n-l,[],by rw[hlen],by omega,hlt,hown,fun j v hj=>(by simp at hj),?_,?_⟩
    ·intro x hx
     rw[List.eq_nil_of_length_eq_zero (l:=((BK (P.cellsOf e) n (cs.drop off)).take m).drop l) (by rw[hlen];omega)]at hx
     cases hx
    ·rw[List.eq_nil_of_length_eq_zero (l:=((BK (P.cellsOf e) n (cs.drop off)).take m).drop l) (by rw[hlen];omega)]
     rfl
   ·rw[if_neg hc,G3]at q
    refine Az I q<| .inl ⟨b,base+off+l*P.cellsOf e,n-l,(vss.take m).drop l,by rw[hlen],by rw[hlen];omega,hlt,hown,?_,fun x hx=>c2 x (List.mem_of_mem_take (List.mem_of_mem_drop hx)),c4.sub _ _⟩
    rw[EW (sz:=P.cellsOf e) _ _ fun x hx=>hlens x (List.mem_of_mem_take hx),E0 _ _ hlens]
    have:=c3.sub (l*P.cellsOf e) (m*P.cellsOf e-l*P.cellsOf e)
    rwa [←List.drop_take]at this
  ·simp at hv
theorem RU{w:World}{b o:Nat}{v:Value}{arr:Array Value}{e:TypeId}{fr:Nat×Nat}(h:w.heap[b]? =some (.cells arr e fr)):
  (w.setCell ⟨b,o,none⟩ v).heap[b]? =some (.cells (arr.setIfInBounds o v) e fr):=by
 simp[World.setCell,Array.getElem?_modify,h]
theorem heap_setCell_other{w:World}{b o c:Nat}{v:Value}(h:c≠b):(w.setCell ⟨b,o,none⟩ v).heap[c]? =w.heap[c]? :=by
 simp[World.setCell,Array.getElem?_modify,Ne.symm h]
theorem FU{b:Nat}: ∀(vs:List Value) (o:Nat) {w:World} {arr:Array Value} {e:TypeId} {fr:Nat×Nat},w.heap[b]? =some (.cells arr e fr)→
  ∃arr',(w.setCells b o vs).heap[b]? =some (.cells arr' e fr)∧arr'.size=arr.size
 |[],_,_,arr,_,_,h=>⟨arr,h,rfl⟩
 |v::r,o,w,arr,e,fr,h=>by
  obtain⟨arr',h1,h2⟩:=FU r (o+1) (RU (o:=o) (v:=v) h)
  exact⟨arr',h1,by rw[h2];simp⟩
theorem Dm{b c:Nat}(hc:c≠b): ∀(vs:List Value) (o:Nat) {w:World},(w.setCells b o vs).heap[c]? =w.heap[c]?
 |[],_,_=>rfl
 |_::r,o,w=>by rw[World.setCells,Dm hc r (o+1),heap_setCell_other hc]
theorem FQ{b:Nat}: ∀(vs:List Value) (o:Nat) {w:World},(w.setCells b o vs).heap.size=w.heap.size
 |[],_,_=>rfl
 |_::r,o,w=>by rw[World.setCells,FQ r (o+1)];simp
theorem FS{b:Nat}: ∀(vs:List Value) (o:Nat) {w:World},Rest w (w.setCells b o vs)
 |[],_,_=>⟨rfl,rfl,rfl⟩
 |v::r,o,w=>FS (b:=b) r (o+1) (w:=w.setCell ⟨b,o,none⟩ v)
theorem R7{w:World}{b o:Nat}{arr:Array Value}{e:TypeId}{fr:Nat×Nat}(h:w.heap[b]? =some (.cells arr e fr)){vs:List Value}(hle:o+vs.length≤arr.size)
  (hf: ∀j,j<vs.length→w.frozen? ⟨b,o+j,none⟩=false) (h1: ∀v∈vs,v.oneCell'=true):(storeCells ⟨b,o,none⟩ vs).run P w= .ok () (w.setCells b o vs):=by
 have:=run_storeCells_cells (P:=P) b o vs 0 w (fun j hj=>by
  simp only[World.cell?,h,Nat.add_zero]
  simp[Array.getElem?_eq_getElem (show o+j<arr.size by omega)]) (fun j hj=>by simpa using hf j hj) h1
 simpa using this
theorem DY.put{w:World}{b o base:Nat}{arr:Array Value}{e:TypeId}{fr:Nat×Nat}(h:w.heap[b]? =some (.cells arr e fr)){vs us:List Value}(hh:DY w b base us)
  (hle:o+vs.length≤us.length) (hsz:base+us.length≤arr.size):DY (w.setCells b (base+o) vs) b base (us.take o++vs++us.drop (o+vs.length)):=by
 intro j v hj
 rcases Nat.lt_or_ge j o with hlt|hge
 ·rw[World.cell?_setCells_out b vs (base+o) w _ (fun _ _=> .inl (by simp;omega))]
  rw[List.append_assoc,List.getElem?_append_left (by simp only[List.length_take];omega),List.getElem?_take,if_pos hlt]at hj
  exact hh j v hj
 ·rcases Nat.lt_or_ge j (o+vs.length)with hlt|hge'
  ·have hjv:vs[j-o]? =some v:=by
    rw[List.append_assoc,List.getElem?_append_right (by simp only[List.length_take];omega)]at hj
    simp only[List.length_take]at hj
    rw[show min o us.length=o by omega,List.getElem?_append_left (by omega)]at hj
    exact hj
   have hlt':j-o<vs.length:=by omega
   have:=World.cell?_setCells_in b vs (base+o) w (fun i hi=>by
    simp only[World.cell?,h]
    simp[Array.getElem?_eq_getElem (show base+o+i<arr.size by omega)]) (j-o) hlt'
   rw[show base+o+(j-o)=base+j by omega]at this
   rw[this,←hjv,List.getElem?_eq_getElem hlt']
  ·rw[World.cell?_setCells_out b vs (base+o) w _ (fun _ _=> .inr (by simp;omega))]
   rw[List.getElem?_append_right (by simp only[List.length_append,List.length_take];omega),List.getElem?_drop]at hj
   simp only[List.length_append,List.length_take]at hj
   rw[show o+vs.length+(j-(min o us.length+vs.length))=j by omega]at hj
   exact hh j v hj
theorem FV{w:World}{b o c q:Nat}{vs:List Value}:(w.setCells b o vs).frozen? ⟨c,q,none⟩=w.frozen? ⟨c,q,none⟩:=World.frozen?_setCells b vs o w _
theorem Nx{cs new:List AV}{vs us:List Value}{off:Nat}(r:Bg C cs vs)(q:Bg C new us):Bg C (B2 cs off new) (vs.take off++us++vs.drop (off+us.length)):=by
 rw[q.length]
 exact Bg.app (Bg.app r.take q) r.drop
theorem Me{cs new:List AV}{off:Nat}(r:cs.all scal=true)(q:new.all scal=true):(B2 cs off new).all scal=true:=by
 simp only[B2,List.all_append,Bool.and_eq_true,List.all_eq_true]at*
 exact⟨⟨fun x hx=>r x (List.mem_of_mem_take hx),q⟩,fun x hx=>r x (List.mem_of_mem_drop hx)⟩
theorem In{cs new:List AV}{off:Nat}(h:off+new.length≤cs.length):(B2 cs off new).length=cs.length:=by
 simp only[B2,List.length_append,List.length_take,List.length_drop];omega
theorem R6{t:TypeId}{b o:Nat}{v:Value}{w:World}{arr:Array Value}{e:TypeId}{fr:Nat×Nat}(hz:(P.info? t).isSome=true)(hsz:v.cells.size=P.cellsOf t)(h:w.heap[b]? =some (.cells arr e fr))
  (hle:o+P.cellsOf t≤arr.size) (hf: ∀j,j<P.cellsOf t→w.frozen? ⟨b,o+j,none⟩=false) (h1: ∀x∈v.cells.toList,x.oneCell'=true):
  (storeVar t ⟨b,o,none⟩ v).run P w= .ok () (w.setCells b o v.cells.toList):=by
 have hne: ¬(v.cells.size≠P.cellsOf t):=by omega
 have hp:=R7 (P:=P) h (vs:=v.cells.toList) (by simpa [hsz]using hle) (fun j hj=>hf j (by simpa [hsz]using hj)) h1
 simp only[storeVar,Sem.run_bind,BX hz,Result.andThen_ok,if_neg hne]
 simpa using hp
theorem sim_st(I:Inv tb C)(F:By C f a nt){o:Oper}{t:TypeId}{x z:AO}{y u:Operand}(ho:o.op= .store t y u)(hx:Bk x y=true)(hzu:Bk z u=true)(hz:(P.info? t).isSome=true)(hz0:0<P.cellsOf t)
  {H':Ax} (h:store C.H (P.cellsOf t) (eval tb f x) (eval tb f z)=some H'):Yields tb C (.junk,some H') ((execOp a.eval o).run P C.w):=by
 have hr:=AJ I F hx
 have hv:=AJ I F hzu
 generalize eval tb f x=v at*
 generalize eval tb f z=q at*
 cases v<;>simp only[store,reduceCtorEq]at h
 case ptr id off=>
  cases hc:Cq C.H id with
  |none=>rw[hc]at h;simp at h
  |some cs=>
   rw[hc]at h
   simp only[Option.bind_some]at h
   split at h
   ·rename_i hcond
    obtain⟨hn,hle⟩:=hcond
    obtain rfl:=Option.some.inj h
    obtain⟨tl,hg,hlab⟩:=Np hc
    obtain⟨_,e'⟩:=hr
    obtain⟨vs,arr,et,fr,⟨h1,hlb⟩,h2,h3,h4,h5,h6⟩:=I.obj id _ hg
    obtain⟨c1,c2⟩:=No hv (by omega)
    have hsz:(a.eval u).cells.size=P.cellsOf t:=by have:=c1.length;rw[hn]at this;simpa using this
    have run:=R6 (P:=P) (t:=t) (o:=off) hz hsz h1 (by omega) (fun j hj=>h6 _ (by omega)) (LH c2 c1)
    obtain⟨arr',g1,g2⟩:=FU (a.eval u).cells.toList off h1
    have hvl:(a.eval u).cells.toList.length=P.cellsOf t:=by simpa using hsz
    obtain⟨X,hI⟩:=rO (D:=⟨C.φ,C.H.set id (BW.cells (E5 C.H id) (B2 cs off (cellsOf q))),C.w.setCells (C.φ id).blk off (a.eval u).cells.toList⟩) I (FS _ _) hg rfl (fun _ _=>rfl) (by simp only[FQ];omega)
     (fun b hb hne=>Dm hne _ _) (.inl rfl) (fun _=>⟨rfl,rfl⟩) (fun _ _ _ _ e=>by cases e)
    refine⟨_,X,hI ?_,rfl, .inr ⟨?_,trivial⟩⟩
    ·refine⟨_,arr',et,fr,⟨g1,by rw[hlab];exact hlb⟩,by rw[g2,h2,In (by rw[hn];exact hle)],Me h3 c2,Nx (h4.ext X) (c1.ext X),?_,?_⟩
     ·have:=DY.put (base:=0) (o:=off) h1 h5 (vs:=(a.eval u).cells.toList) (by rw[hvl,h4.length];exact hle) (by rw[h4.length];omega)
      simpa using this
     ·intro j hj
      rw[In (by rw[hn];exact hle)]at hj
      rw[FV]
      exact h6 j hj
    ·simp only[execOp,ho,e',Instr.storeAt,Instr.sureAddr,Sem.run_bind,Sem.run_pure,Result.andThen_ok,run]
   ·simp at h
 case pe id n i off=>
  obtain⟨_,fz,sz,els,hg,hl,k⟩:=hr
  simp only[hg,Option.bind_some]at h
  split at h
  ·rename_i hcond
   obtain⟨hfz,hn,hcl⟩:=hcond
   cases hi:els[i]? with
   |none=>rw[hi]at h;simp at h
   |some cs=>
    rw[hi]at h
    simp only[Option.bind_some]at h
    split at h
    ·rename_i hle
     obtain rfl:=Option.some.inj h
     have e':=k hn
     obtain⟨tl,hg',hlab⟩:=Iv hg
     obtain⟨vss,arr,et,fr,⟨h1,hfr0,hlb⟩,h2,h3,h4,h5,h6,h7,h8,h9⟩:=I.obj id _ hg'
     obtain⟨c1,c2⟩:=No hv (by omega)
     have hsz:(a.eval u).cells.size=P.cellsOf t:=by have:=c1.length;rw[hcl]at this;simpa using this
     have hvl:(a.eval u).cells.toList.length=P.cellsOf t:=by simpa using hsz
     have hcs:=(h4 cs (List.mem_of_getElem? hi)).1
     have hilt:=Bb hi
     have hin:i*sz+sz≤els.length*sz:=by
      have:(i+1)*sz≤els.length*sz:=Nat.mul_le_mul_right _ (by omega)
      rwa [Nat.succ_mul]at this
     have hfr: ∀j,j<P.cellsOf t→C.w.frozen? ⟨(C.φ id).blk,(C.φ id).base+i*sz+off+j,none⟩=false:=fun j hj=>h8 hfz _ (by omega)
     have run:=R6 (P:=P) (t:=t) (o:=(C.φ id).base+i*sz+off) hz hsz h1 (by omega) hfr (LH c2 c1)
     obtain⟨arr',g1,g2⟩:=FU (a.eval u).cells.toList ((C.φ id).base+i*sz+off) h1
     obtain⟨X,hI⟩:=rO (D:=⟨C.φ,C.H.set id (BW.row (E5 C.H id) false sz (els.set i (B2 cs off (cellsOf q)))),C.w.setCells (C.φ id).blk ((C.φ id).base+i*sz+off) (a.eval u).cells.toList⟩) I (FS _ _) hg' rfl (fun _ _=>rfl) (by simp only[FQ];omega)
      (fun b hb hne=>Dm hne _ _) (.inl rfl) (fun e=>by cases e) (fun _ fz' sz' els' e=>by cases e;exact⟨_,_,_,rfl,by simp,fun _=>rfl⟩)
     refine⟨_,X,hI ?_,rfl, .inr ⟨?_,trivial⟩⟩
     ·obtain⟨vs,hv',rv⟩:=AY.get h5 hi
      have hlens:=AY.lens (fun x hx=>(h4 x hx).1) h5
      refine⟨vss.set i (vs.take off++(a.eval u).cells.toList++vs.drop (off+(a.eval u).cells.toList.length)),arr',et,fr,⟨g1,hfr0,by rw[hlab];exact hlb⟩,by rw[g2];exact h2,h3,?_,?_,by simpa using h6,?_,?_,?_⟩
      ·intro x hx
       rcases List.mem_or_eq_of_mem_set hx with hx|hx
       ·exact h4 x hx
       ·subst hx
        exact⟨by rw[In (by omega)];exact hcs,Me (h4 cs (List.mem_of_getElem? hi)).2 c2⟩
      ·exact AY.set (Nx (rv.ext X) (c1.ext X)) (h5.ext X)
      ·have hfl:(vss.set i (vs.take off++(a.eval u).cells.toList++vs.drop (off+(a.eval u).cells.toList.length))).flatten=
         vss.flatten.take (i*sz+off)++(a.eval u).cells.toList++vss.flatten.drop (i*sz+off+(a.eval u).cells.toList.length):=by
        have hvs:vs.length=sz:=hlens vs (List.mem_of_getElem? hv')
        have: ∀(l:List (List Value)) (i:Nat),(∀y∈l,y.length=sz)→l[i]? =some vs→(l.set i (vs.take off++(a.eval u).cells.toList++vs.drop (off+(a.eval u).cells.toList.length))).flatten=
          l.flatten.take (i*sz+off)++(a.eval u).cells.toList++l.flatten.drop (i*sz+off+(a.eval u).cells.toList.length):=by
         intro l
         induction l with
         |nil=>intro i _ e;simp at e
         |cons y l ih=>
          intro i hy e
          cases i with
          |zero=>
           simp at e;subst e
           simp only[List.set_cons_zero,List.flatten_cons,Nat.zero_mul,Nat.zero_add]
           rw[List.take_append_of_le_length (by omega),List.drop_append_of_le_length (by omega)]
           simp
          |succ i=>
           have hyl:=hy y List.mem_cons_self
           simp only[List.set_cons_succ,List.flatten_cons]
           rw[ih i (fun z hz=>hy z (List.mem_cons_of_mem _ hz)) (by simpa using e)]
           rw[Nat.succ_mul,List.take_append,List.take_of_length_le (l:=y) (by omega),List.drop_append,List.drop_of_length_le (l:=y) (by omega),List.nil_append]
           rw[show i*sz+sz+off-y.length=i*sz+off by omega,show i*sz+sz+off+(a.eval u).cells.toList.length-y.length=i*sz+off+(a.eval u).cells.toList.length by omega]
           simp
        exact this vss i hlens hv'
       rw[hfl]
       have hfll:vss.flatten.length=els.length*sz:=by
        have:=(AY.flat h5).length
        rw[this]
        clear this hfl
        have: ∀(l:List (List AV)),(∀x∈l,x.length=sz)→l.flatten.length=l.length*sz:=by
         intro l
         induction l with
         |nil=>intro _;simp
         |cons y l ih=>intro hy;rw[List.flatten_cons,List.length_append,ih fun z hz=>hy z (List.mem_cons_of_mem _ hz),hy y List.mem_cons_self,List.length_cons,Nat.succ_mul];omega
        exact this els fun x hx=>(h4 x hx).1
       have:=DY.put (base:=(C.φ id).base) (o:=i*sz+off) h1 h7 (vs:=(a.eval u).cells.toList) (by omega) (by omega)
       rwa [←Nat.add_assoc]at this
      ·intro _ j hj
       rw[FV]
       exact h8 hfz j hj
      ·intro _ j hj hj'
       rw[FV]
       exact h9 hfz j (by simpa using hj) hj'
     ·simp only[execOp,ho,e',Instr.storeAt,Instr.sureAddr,Sem.run_bind,Sem.run_pure,Result.andThen_ok,run]
    ·simp at h
  ·simp at h
end
end Go.Proofs.YtobejhpigbllpaaGreatDoor.Am
namespace Go.Proofs.YtobejhpigbllpaaGreatDoor.Am
section
variable{cl:Nat→List AV→Ax→Lb}{P:Program}{tb:Dg}{C:D4}{f:Fr}{a:Act}{nt:Nat}
theorem Fa{α:Type}{sz:Nat}: ∀(l:List (List α)),(∀x∈l,x.length=sz)→l.flatten.length=l.length*sz
 |[],_=>by simp
 |y::l,h=>by
  rw[List.flatten_cons,List.length_append,Fa l fun z hz=>h z (List.mem_cons_of_mem _ hz),h y List.mem_cons_self,List.length_cons,Nat.succ_mul];omega
theorem L7: ∀{l:List (List AV)},(∀x∈l,x.all scal=true)→l.flatten.all scal=true
 |[],_=>rfl
 |y::l,h=>by
  rw[List.flatten_cons,List.all_append,h y List.mem_cons_self,L7 fun z hz=>h z (List.mem_cons_of_mem _ hz)]
  rfl
theorem Zc(l:List UInt8):AY C (B1 l) (l.map fun c=>[Value.int .u8 c.toNat])∧(∀x∈B1 l,x.length=1∧x.all scal=true):=by
 induction l with
 |nil=>exact⟨rfl,fun x hx=>by cases hx⟩
 |cons c l ih=>
  refine⟨⟨_,_,rfl,⟨_,_,rfl,rfl,rfl⟩,ih.1⟩,fun x hx=> ?_⟩
  rcases List.mem_cons.1 hx with e|hx
  ·subst e;exact⟨rfl,rfl⟩
  ·exact ih.2 x hx
theorem dW(I:Inv tb C){x:AV}{v:Value}{sz:Nat}{els:List (List AV)}(hsz:0<sz)(r:Gc C x v)(h:dX C.H sz x=some els):
  (Builtin.lenOf v).run P C.w= .ok els.length C.w∧ ∃vss,AY C els vss∧(∀e∈els,e.length=sz∧e.all scal=true)∧
   ∀(m:Nat) (w:World),m≤els.length→w.heap=C.w.heap→(Builtin.firstCells sz m v).run P w= .ok (vss.take m).flatten.toArray w:=by
 have slc:EP C.H sz x=some els→(Builtin.lenOf v).run P C.w= .ok els.length C.w∧ ∃vss,AY C els vss∧(∀e∈els,e.length=sz∧e.all scal=true)∧
   ∀(m:Nat) (w:World),m≤els.length→w.heap=C.w.heap→(Builtin.firstCells sz m v).run P w= .ok (vss.take m).flatten.toArray w:=by
  intro h
  rcases bI I hsz r h with ⟨rfl,e⟩|⟨q,cap,vss,e,hlc,hh,hs,hr⟩
  ·subst e
   refine⟨rfl,[],rfl,fun e he=>(by cases he),fun m w _ _=> ?_⟩
   simp[Builtin.firstCells]
  ·subst e
   refine⟨rfl,vss,hr,hs,fun m w hm hw=> ?_⟩
   have hlens:=AY.lens (fun x hx=>(hs x hx).1) hr
   have hlen:(vss.take m).flatten.length=m*sz:=by
    rw[Fa _ fun x hx=>hlens x (List.mem_of_mem_take hx),List.length_take,hr.length];congr 1;omega
   by_cases hne:els=[]
   ·subst hne
    have hv:vss=[]:=List.eq_nil_of_length_eq_zero (by rw[hr.length];rfl)
    subst hv
    have hm0:m=0:=by simpa using hm
    subst hm0
    simp only[Builtin.firstCells,Nat.zero_mul,List.take_nil,List.flatten_nil]
    rfl
   obtain⟨b,base,rfl,hh2⟩:=hh hne
   have hh':DY w b base (vss.take m).flatten:=by
    intro j u hj
    rw[E0 _ _ hlens,List.getElem?_take]at hj
    split at hj
    ·have:=hh2 j u hj
     rwa [NS (w:=C.w) (w':=w) (by rw[hw])]
    ·cases hj
   have:=HC (P:=P) hh'
   rw[hlen]at this
   simpa [Builtin.firstCells]using this
 cases x<;>simp only[dX]at h<;>try exact slc h
 case s l=>
  split at h
  ·rename_i e
   subst e
   obtain rfl:=Option.some.inj h
   have ev:v= .string ⟨l.toArray⟩:=r
   subst ev
   obtain⟨h1,h2⟩:=Zc (C:=C) l
   refine⟨by simp[Builtin.lenOf,P6,B1],_,h1,h2,fun m w hm hw=> ?_⟩
   simp only[Builtin.firstCells,Sem.run_pure]
   congr 1
   rw[WT]
   have: ∀(l:List UInt8) (m:Nat),List.take m (List.map (fun b:UInt8=>Value.int .u8 b.toNat) l)=(List.take m (List.map (fun c:UInt8=>[Value.int .u8 c.toNat]) l)).flatten:=by
    intro l
    induction l with
    |nil=>intro m;simp
    |cons c l ih=>
     intro m
     cases m with
     |zero=>simp
     |succ m=>simp[ih]
   simp[List.map_take,this]
  ·simp at h
theorem N2{t u ty e:TypeId}(ht:P.underlying t=some (.slice e))(hu: ∃d,P.underlying u=some d∧ ∀k,d≠ .int k)(hz:(P.info? e).isSome=true){p:Option Addr}{n cap m:Nat}{x:Value}{w:World}{us:List Value}
  (hl:(Builtin.lenOf x).run P w= .ok m w) (hc:(Builtin.firstCells (P.cellsOf e) m x).run P w= .ok us.toArray w) (hroom:n+m≤cap):
  (Builtin.append_ #[t,u] ty #[.slice p n cap,x]).run P w=(match p with
   |some q=>(storeCells (q.add (n*P.cellsOf e)) us).run P w
   |none=> .ok () w).andThen fun _ w'=> .ok (.slice p (n+m) cap) w':=by
 obtain⟨d,hu,hk⟩:=hu
 have hd:(match d with| .int _=>true|_=>false)=false:=by cases d<;>first|rfl|exact absurd rfl (hk _)
 simp only[Builtin.append_,List.getElem?_toArray,List.getElem?_cons_zero,List.getElem?_cons_succ,Sem.run_bind,Av ht,Av hu,Result.andThen_ok,BX hz,Sem.run_pure]
 cases p with
 |none=>cases d<;>first|exact absurd rfl (hk _)|simp[hl,hc,hroom]
 |some q=>cases d<;>first|exact absurd rfl (hk _)|simp[hl,hc,hroom]
theorem R8{t u ty e:TypeId}(ht:P.underlying t=some (.slice e))(hu: ∃d,P.underlying u=some d∧ ∀k,d≠ .int k){i:TypeInfo}(hi:P.info? e=some i){z:Value}(hzz:i.zero=some z){p:Option Addr}{n cap m:Nat}{x:Value}{w:World}
  {us olds:List Value} (hl:(Builtin.lenOf x).run P w= .ok m w) (hc: ∀w',w'.heap=w.heap→(Builtin.firstCells (P.cellsOf e) m x).run P w'= .ok us.toArray w')
  (ho: ∀w',w'.heap=w.heap→(Builtin.firstCells (P.cellsOf e) n (.slice p n cap)).run P w'= .ok olds.toArray w') (hroom:cap<n+m) (hb:(n+m)*i.bytes≤140737488355328) (hbz:0<i.bytes):
  ∃K,n+m≤K∧(Builtin.append_ #[t,u] ty #[.slice p n cap,x]).run P w=
   .ok (.slice (some ⟨w.heap.size,0,none⟩) (n+m) K) ({w with drawn:=w.drawn+1}.alloc (.cells (olds.toArray++us.toArray++Builtin.zeroCells z.cells (K-(n+m))) e)):=by
 obtain⟨d,hu,hk⟩:=hu
 have hz:(P.info? e).isSome=true:=by rw[hi];rfl
 have hcells:P.cellsOf e=i.size:=by simp[Program.cellsOf,hi]
 have hch:(choose (.appendCap (n+m) cap e)).run P w= .ok (grownCap w (n+m) cap e) {w with drawn:=w.drawn+1}:=by
  simp[Question.forced,grownCap]
 have hnr: ¬(n+m≤cap):=by omega
 have hfit:=growslice_fits (bytes:=i.bytes) hroom hb
 have hfit': ¬(Builtin.nextslicecap (n+m) cap*i.bytes>2^48):=by omega
 refine⟨grownCap w (n+m) cap e,grownCap_ge w (n+m) cap e,?_⟩
 have h1:=hc {w with drawn:=w.drawn+1} rfl
 have h2:=ho {w with drawn:=w.drawn+1} rfl
 have hbz':i.bytes≠0:=by omega
 simp only[Builtin.append_,List.getElem?_toArray,List.getElem?_cons_zero,List.getElem?_cons_succ,Sem.run_bind,Av ht,Av hu,Result.andThen_ok,BX hz,Sem.run_pure]
 cases d<;>first
  |exact absurd rfl (hk _)
  |(simp only[Bool.false_eq_true,if_false,hl,Result.andThen_ok,Sem.run_bind,Sem.run_pure,if_neg hnr,Sem.run_ite,Hi hi,hbz',or_self,and_false,hfit',hch,run_askRoom,h1,h2,zeroValue,hzz,newRow,run_newObj,gt_iff_lt]
    rfl)
theorem mZ{fz:Bool}{sz:Nat}{els:List (List AV)}{vss:List (List Value)}{arr:Array Value}{e:TypeId}{w:World}(hw:w.heap=C.w.heap)(hsz:0<sz)(hs: ∀x∈els,x.length=sz∧x.all scal=true)(hr:AY C els vss)
  (harr: ∀(j:Nat) (v:Value),vss.flatten[j]? =some v→arr[j]? =some v) (hle:els.length*sz≤arr.size):let p:Place:=⟨C.w.heap.size,0,arr.size⟩
  let w':=w.alloc (.cells arr e)
  C.w.heap.size<w'.heap.size∧(∀b,b<C.w.heap.size→w'.heap[b]? =C.w.heap[b]?)∧ ∀D:D4,KM C D→D.w=w'→Obj D p (BW.row (some e) fz sz els):=by
 have hsize:w.heap.size=C.w.heap.size:=by rw[hw]
 have hn:(w.alloc (.cells arr e)).heap[C.w.heap.size]? =some (.cells arr e):=by rw[←hsize];exact Ij _ _
 refine⟨by rw[GU,hsize];omega,fun b hb=>by rw[alloc_old _ _ (by omega),hw],?_⟩
 intro D X hD
 refine⟨vss,arr,e,(0,0),⟨by rw[hD];exact hn,Nat.le_refl _,fun k hk=>by cases hk;rfl⟩,rfl,hsz,hs,AY.ext X hr,by simpa using hle,?_,?_,?_⟩
 ·intro j v hj
  rw[hD]
  simp only[World.cell?,hn,Nat.zero_add]
  simpa using harr j v hj
 ·intro _ o _
  rw[hD]
  simp only[World.frozen?,hn]
  simp
 ·intro _ o _ _
  rw[hD]
  simp only[World.frozen?,hn]
  simp
theorem QA(I:Inv tb C){fz:Bool}{sz:Nat}{els:List (List AV)}{vss:List (List Value)}{arr:Array Value}{e:TypeId}{w:World}(hrest:Rest C.w w)(hw:w.heap=C.w.heap)(hsz:0<sz)(hs: ∀x∈els,x.length=sz∧x.all scal=true)(hr:AY C els vss)
  (harr: ∀(j:Nat) (v:Value),vss.flatten[j]? =some v→arr[j]? =some v) {K:Nat} (hK:els.length≤K) (hle:K*sz≤arr.size) {x:Result Next}
  (h:x= .ok (.value (.slice (some ⟨C.w.heap.size,0,none⟩) els.length K)) (w.alloc (.cells arr e))):
  Yields tb C (.orow C.H.length els.length 0 els.length,some (C.H++[BW.row (some e) fz sz els])) x:=by
 have hle':els.length*sz≤arr.size:=Nat.le_trans (Nat.mul_le_mul_right _ hK) hle
 obtain⟨h1,h2,h3⟩:=mZ (fz:=fz) (e:=e) hw hsz hs hr harr hle'
 refine L9 (w:=w.alloc (.cells arr e)) I (p:=⟨C.w.heap.size,0,arr.size⟩) hrest h h1 rfl h2 (h3 _ (more (w:=w.alloc (.cells arr e)) I hrest h1 rfl h2).1 rfl) ?_
 intro hφ
 refine⟨⟨_,_,rfl⟩,fz,sz,els,by simp[D4.more,rowAt],Nat.le_refl _,fun _=>⟨by omega,0,K,by rw[hφ],hK,fun _=>by rw[hφ];simp,by rw[hφ];simpa using hle,by rw[hφ];exact Nat.zero_le _⟩⟩
theorem Rc{vss:List (List Value)}{us:List Value}{rest:Array Value}(j:Nat)(v:Value)(h:vss.flatten[j]? =some v)(e:us=vss.flatten):(#[]++us.toArray++rest)[j]? =some v:=by
 subst e
 have:=Bb h
 rw[Array.getElem?_append_left (by simpa using this)]
 simpa using h
theorem zE(I:Inv tb C)(F:By C f a nt){o:Oper}{c:Call}{t u e:TypeId}{s x:AO}{y1 y2:Operand}(ho:o.op= .call c)(hc:c.callee= .builtin .append)(hargs:c.args= #[y1,y2])(htys:c.argTypes= #[t,u])
  (ht:P.underlying t=some (.slice e)) (hu: ∃d,P.underlying u=some d∧ ∀k,d≠ .int k) {i:TypeInfo} (hi:P.info? e=some i) {z:Value} (hzz:i.zero=some z) (hzs:z.cells.size=P.cellsOf e) (hz0:0<P.cellsOf e) (hbz:0<i.bytes)
  (h1:Bk s y1=true) (h2:Bk x y2=true) {new:List (List AV)} (hn:dX C.H (P.cellsOf e) (eval tb f x)=some new) {r:AV×Option Ax} (h:T9 C.H e (P.cellsOf e) i.bytes (eval tb f s) new=some r):
  Yields tb C r ((execOp a.eval o).run P C.w):=by
 have hz:(P.info? e).isSome=true:=by rw[hi];rfl
 have r1:=AJ I F h1
 obtain⟨hl,vss,hrr,hs,hfc⟩:=dW (P:=P) I hz0 (AJ I F h2) hn
 have hlens:=AY.lens (fun x hx=>(hs x hx).1) hrr
 have hfc': ∀w',w'.heap=C.w.heap→(Builtin.firstCells (P.cellsOf e) new.length (a.eval y2)).run P w'= .ok vss.flatten.toArray w':=by
  intro w' hw
  have:=hfc new.length w' (Nat.le_refl _) hw
  rwa [List.take_of_length_le (by rw[hrr.length];omega)]at this
 have hul:vss.flatten.length=new.length*P.cellsOf e:=by rw[Fa _ hlens,hrr.length]
 have run: ∀{v w'},(Builtin.append_ #[t,u] o.type #[a.eval y1,a.eval y2]).run P C.w= .ok v w'→(execOp a.eval o).run P C.w= .ok (.value v) w':=by
  intro v w' hv
  refine Ec ho hc fun q=> ?_
  simp only[hargs,htys,List.map_toArray,List.map_cons,List.map_nil,builtin,Sem.run_bind,hv,Result.andThen_ok,Sem.run_pure]
 generalize eval tb f s=v at*
 cases v<;>simp only[T9,reduceCtorEq]at h
 case nils=>
  have e1:a.eval y1= .slice none 0 0:=r1
  split at h
  ·rename_i h0
   obtain rfl:=Option.some.inj h
   have:=N2 (P:=P) (ty:=o.type) ht hu hz (p:=none) (n:=0) (cap:=0) hl (hfc' C.w rfl) (by omega)
   refine Az I (v:= .slice none 0 0) (run ?_) rfl
   rw[e1,this]
   simp[h0]
  ·rename_i h0
   split at h
   ·rename_i hb
    obtain rfl:=Option.some.inj h
    obtain⟨K,hK,hrun⟩:=R8 (P:=P) (ty:=o.type) (p:=none) (n:=0) (cap:=0) (olds:=[]) ht hu hi hzz hl hfc' (fun w' _=>by simp[Builtin.firstCells]) (by omega) (by rw[Nat.zero_add];unfold B4 at hb;omega) hbz
    rw[←e1]at hrun
    simp only[Nat.zero_add]at hrun hK
    refine QA (w:={C.w with drawn:=C.w.drawn+1}) I ⟨rfl,rfl,rfl⟩ rfl hz0 hs hrr (fun j v hj=>Rc j v hj rfl) hK ?_ (run hrun)
    simp only[Array.size_append,List.size_toArray,size_zeroCells,hzs,hul,List.length_nil,Nat.zero_add]
    rw[←Nat.add_mul,show new.length+(K-new.length)=K by omega]
    exact Nat.le_refl _
   ·simp at h
 case orow id n lo len=>
  obtain⟨_,fz,sz,els,hg,hle,k⟩:=r1
  simp only[hg,Option.bind_some]at h
  split at h
  ·rename_i hcond
   obtain⟨rfl,hn',rfl,hsz,hb,hfz⟩:=hcond
   obtain⟨_,off,cap,e1,hlc,hoff,hsize,hbo⟩:=k hn'
   subst hsz
   subst hn'
   obtain⟨tl,hg',hlab⟩:=Iv hg
   obtain⟨ws,arr,et,fr,⟨g1,hfr0,hlb⟩,g2,g3,g4,g5,g6,g7,g8,g9⟩:=I.obj id _ hg'
   have hwl:=AY.lens (fun x hx=>(g4 x hx).1) g5
   have hwfl:ws.flatten.length=els.length*P.cellsOf e:=by rw[Fa _ hwl,g5.length]
   split at h
   ·rename_i h0
    obtain rfl:=Option.some.inj h
    have:=N2 (P:=P) (ty:=o.type) ht hu hz (p:=some ⟨(C.φ id).blk,off,none⟩) (n:=els.length) (cap:=cap) hl (hfc' C.w rfl) (by omega)
    have hv0:vss.flatten=[]:=List.eq_nil_of_length_eq_zero (by rw[hul,h0];simp)
    rw[hv0]at this
    refine Az I (v:= .slice (some ⟨(C.φ id).blk,off,none⟩) els.length cap) (run ?_) ⟨⟨_,_,rfl⟩,fz,_,els,hg,Nat.le_refl _,fun _=>⟨by omega,off,cap,rfl,hlc,hoff,hsize,hbo⟩⟩
    rw[e1,this]
    simp[h0,storeCells]
   ·rename_i h0
    obtain rfl:=Option.some.inj h
    have hpos:0<new.length:=by omega
    by_cases hroom:els.length+new.length≤cap
    ·
     have hcap:(els.length+new.length)*P.cellsOf e≤cap*P.cellsOf e:=Nat.mul_le_mul_right _ hroom
     rw[Nat.add_mul]at hcap
     have hoffs:off=(C.φ id).base∨els.length=0:=by
      rcases Nat.eq_zero_or_pos els.length with h|h
      ·exact .inr h
      ·exact .inl (by rw[hoff h];simp)
     have hst:=R7 (P:=P) (o:=off+els.length*P.cellsOf e) (vs:=vss.flatten) g1 (by rw[hul];omega) (fun j hj=>g9 hfz _ (by
       rcases hoffs with h|h
       ·omega
       ·rw[h];omega) (by rw[hul]at hj;omega)) (LH (L7 fun x hx=>(hs x hx).2) hrr.flat)
     have:=N2 (P:=P) (ty:=o.type) ht hu hz (p:=some ⟨(C.φ id).blk,off,none⟩) (n:=els.length) (cap:=cap) hl (hfc' C.w rfl) hroom
     simp only[G3,hst,Result.andThen_ok]at this
     obtain⟨arr',q1,q2⟩:=FU vss.flatten (off+els.length*P.cellsOf e) g1
     obtain⟨X,hI⟩:=rO (D:=⟨fun j=>if j=id then⟨(C.φ id).blk,off,(C.φ id).size⟩else C.φ j,C.H.set id (BW.row (TU (E5 C.H id) e) fz (P.cellsOf e) (els++new)),C.w.setCells (C.φ id).blk (off+els.length*P.cellsOf e) vss.flatten⟩) I (FS _ _) hg' rfl
      (fun j hj=>if_neg hj) (by simp only[FQ];omega) (fun b hb hne=>Dm hne _ _) (.inl (by simp)) (fun e=>by cases e)
      (fun _ fz' sz' els' e=>by cases e;exact⟨_,_,_,rfl,by simp,fun e=>absurd e (by rw[List.length_append];omega)⟩)
     refine⟨_,X,hI ?_,rfl, .inl ⟨.slice (some ⟨(C.φ id).blk,off,none⟩) (els.length+new.length) cap,run (by rw[e1,this]),?_⟩⟩
     ·simp only[if_true]
      refine⟨ws++vss,arr',et,fr,⟨q1,hfr0,fun k hk=>by
       unfold TU at hk
       split at hk
       ·rename_i hl';rw[hlab]at hl';cases hk;exact hlb _ hl'
       ·cases hk⟩,by rw[q2];exact g2,g3,?_,AY.app (AY.ext X g5) (AY.ext X hrr),?_,?_,?_,?_⟩
      ·intro y hy
       rcases List.mem_append.1 hy with hy|hy
       ·exact g4 y hy
       ·exact hs y hy
      ·simp only[List.length_append];rw[Nat.add_mul];omega
      ·intro j v hj
       rw[List.flatten_append]at hj
       rcases Nat.lt_or_ge j ws.flatten.length with hlt|hge
       ·rw[List.getElem?_append_left hlt]at hj
        rw[World.cell?_setCells_out _ _ _ _ _ fun _ _=> .inl (by simp;omega)]
        have hoff':off=(C.φ id).base:=hoffs.resolve_right fun h0=>by rw[h0]at hwfl;omega
        rw[hoff']
        exact g7 j v hj
       ·rw[List.getElem?_append_right hge]at hj
        have hlt':=Bb hj
        have:=World.cell?_setCells_in (C.φ id).blk vss.flatten (off+els.length*P.cellsOf e) C.w (fun q hq=>by
         simp only[World.cell?,g1]
         simp[Array.getElem?_eq_getElem (show off+els.length*P.cellsOf e+q<arr.size by omega)]) (j-ws.flatten.length) hlt'
        rw[show off+els.length*P.cellsOf e+(j-ws.flatten.length)=off+j by omega]at this
        rw[this,←hj,List.getElem?_eq_getElem hlt']
      ·intro hf j hj
       rw[FV]
       exact g8 hf j hj
      ·intro _ j hj hj'
       simp only[List.length_append]at hj
       rw[Nat.add_mul]at hj
       rw[FV]
       refine g9 hfz j ?_ hj'
       rcases hoffs with h|h
       ·omega
       ·rw[h];omega
     ·exact⟨⟨_,_,rfl⟩,fz,P.cellsOf e,els++new,jB (List.getElem?_set_self (Bb hg')),by simp,fun _=>⟨by simp,off,cap,by simp,by omega,fun _=>by simp,by simpa using hsize,by simp⟩⟩
    ·
     have hold: ∀w',w'.heap=C.w.heap→(Builtin.firstCells (P.cellsOf e) els.length (.slice (some ⟨(C.φ id).blk,off,none⟩) els.length cap)).run P w'= .ok ws.flatten.toArray w':=by
      intro w' hw
      have hh:DY w' (C.φ id).blk off ws.flatten:=by
       intro j v hj
       have hlt:=Bb hj
       have hoff':off=(C.φ id).base:=by
        rcases Nat.eq_zero_or_pos els.length with h|h
        ·rw[h]at hwfl;omega
        ·rw[hoff h];simp
       rw[NS (w:=C.w) (w':=w') (by rw[hw]),hoff']
       exact g7 j v hj
      have:=HC (P:=P) hh
      rw[hwfl]at this
      simpa [Builtin.firstCells]using this
     obtain⟨K,hK,hrun⟩:=R8 (P:=P) (ty:=o.type) (p:=some ⟨(C.φ id).blk,off,none⟩) (n:=els.length) (cap:=cap) (olds:=ws.flatten) ht hu hi hzz hl hfc' hold (by omega) (by unfold B4 at hb;omega) hbz
     rw[←e1]at hrun
     have hall: ∀x∈els++new,x.length=P.cellsOf e∧x.all scal=true:=by
      intro y hy
      rcases List.mem_append.1 hy with hy|hy
      ·exact g4 y hy
      ·exact hs y hy
     have hsize':(ws.flatten.toArray++vss.flatten.toArray++Builtin.zeroCells z.cells (K-(els.length+new.length))).size=K*P.cellsOf e:=by
      simp only[Array.size_append,List.size_toArray,size_zeroCells,hzs,hul,hwfl]
      rw[←Nat.add_mul,←Nat.add_mul]
      congr 1
      omega
     obtain⟨w1,w2,w3⟩:=mZ (fz:=fz) (e:=e) (w:={C.w with drawn:=C.w.drawn+1}) (vss:=ws++vss) (arr:=ws.flatten.toArray++vss.flatten.toArray++Builtin.zeroCells z.cells (K-(els.length+new.length))) rfl hz0 hall (AY.app g5 hrr)
      (fun j v hj=>by
       rw[List.flatten_append]at hj
       have:=Bb hj
       rw[Array.getElem?_append_left (by simpa using this)]
       simpa using hj) (by rw[hsize',List.length_append];exact Nat.mul_le_mul_right _ hK)
     obtain⟨X,hI⟩:=rO (D:=⟨fun j=>if j=id then⟨C.w.heap.size,0,(ws.flatten.toArray++vss.flatten.toArray++Builtin.zeroCells z.cells (K-(els.length+new.length))).size⟩else C.φ j,C.H.set id (BW.row (TU (E5 C.H id) e) fz (P.cellsOf e) (els++new)),{C.w with drawn:=C.w.drawn+1}.alloc (.cells (ws.flatten.toArray++vss.flatten.toArray++Builtin.zeroCells z.cells (K-(els.length+new.length))) e)⟩) I ⟨rfl,rfl,rfl⟩ hg' rfl
      (fun j hj=>if_neg hj) (Nat.le_of_lt w1) (fun b hb _=>w2 b hb) (.inr ⟨by simp,by simp⟩) (fun e=>by cases e)
      (fun _ fz' sz' els' e=>by cases e;exact⟨_,_,_,rfl,by simp,fun e=>absurd e (by rw[List.length_append];omega)⟩)
     refine⟨_,X,hI ?_,rfl, .inl ⟨_,run hrun,?_⟩⟩
     ·simp only[if_true]
      obtain⟨vss',arr'',e'',fr'',⟨y1,y2,y3⟩,yy⟩:=w3 _ X rfl
      exact⟨vss',arr'',e'',fr'',⟨y1,y2,fun k hk=>by
       unfold TU at hk
       split at hk
       ·cases hk;exact y3 _ rfl
       ·cases hk⟩,yy⟩
     ·exact⟨⟨_,_,rfl⟩,fz,P.cellsOf e,els++new,jB (List.getElem?_set_self (Bb hg')),by simp,fun _=>⟨by simp,0,K,by simp,hK,fun _=>by simp,by simp only[if_true,hsize'];omega,by simp⟩⟩
  ·simp at h
theorem Yb{sz m:Nat}{l:List (List AV)}(h: ∀x∈l,x.length=sz)(hm:m≤l.length):(l.take m).flatten.length=m*sz:=by
 rw[Fa _ fun x hx=>h x (List.mem_of_mem_take hx),List.length_take,Nat.min_eq_left hm]
theorem yX(I:Inv tb C)(F:By C f a nt){o:Oper}{c:Call}{t e:TypeId}{ts:Array TypeId}{d x:AO}{y1 y2:Operand}(ho:o.op= .call c)(hc:c.callee= .builtin .copy)(hargs:c.args= #[y1,y2])(htys:c.argTypes=ts)(ht0:ts[0]? =some t)
  (ht:P.underlying t=some (.slice e)) (hz:(P.info? e).isSome=true) (hz0:0<P.cellsOf e) (h1:Bk d y1=true) (h2:Bk x y2=true) {src:List (List AV)} (hn:dX C.H (P.cellsOf e) (eval tb f x)=some src) {r:AV×Option Ax}
  (h:bM C.H (P.cellsOf e) (eval tb f d) src=some r):Yields tb C r ((execOp a.eval o).run P C.w):=by
 have r1:=AJ I F h1
 obtain⟨hl,vss,hrr,hs,hfc⟩:=dW (P:=P) I hz0 (AJ I F h2) hn
 have hlens:=AY.lens (fun x hx=>(hs x hx).1) hrr
 have run: ∀{v w'},(Builtin.copy_ ts o.type #[a.eval y1,a.eval y2]).run P C.w= .ok v w'→(execOp a.eval o).run P C.w= .ok (.value v) w':=by
  intro v w' hv
  refine Ec ho hc fun q=> ?_
  simp only[hargs,htys,List.map_toArray,List.map_cons,List.map_nil,builtin,Sem.run_bind,hv,Result.andThen_ok,Sem.run_pure]
 have body: ∀{p:Option Addr} {len cap:Nat},a.eval y1= .slice p len cap→(Builtin.copy_ ts o.type #[a.eval y1,a.eval y2]).run P C.w=
   (match p with
    |some q=>(storeCells q (vss.take (min src.length len)).flatten).run P C.w
    |none=> .ok () C.w).andThen fun _ w'=> .ok (goInt ((min src.length len:Nat):Int)) w':=by
  intro p len cap he
  have hm:min src.length len≤src.length:=Nat.min_le_left _ _
  have hf:=hfc (min src.length len) C.w hm rfl
  have hmin:Nat.min src.length len=min src.length len:=rfl
  simp only[Builtin.copy_,ht0,List.getElem?_toArray,List.getElem?_cons_zero,List.getElem?_cons_succ,Sem.run_bind,Av ht,Result.andThen_ok,he,hl,BX hz,hmin,hf]
  cases p<;>simp
 have hvt: ∀m,m≤src.length→Bg C (src.take m).flatten (vss.take m).flatten∧(src.take m).flatten.all scal=true∧(src.take m).flatten.length=m*P.cellsOf e∧(vss.take m).flatten.length=m*P.cellsOf e:=by
  intro m hm
  have hr:=AY.flat (AY.take (n:=m) hrr)
  have hlen:=Yb (m:=m) (fun x hx=>(hs x hx).1) hm
  exact⟨hr,L7 fun x hx=>(hs x (List.mem_of_mem_take hx)).2,hlen,by rw[hr.length,hlen]⟩
 generalize eval tb f d=v at*
 cases v<;>simp only[bM,reduceCtorEq]at h
 case nils=>
  obtain rfl:=Option.some.inj h
  have e1:a.eval y1= .slice none 0 0:=r1
  refine Az I (v:=goInt 0) (run ?_) rfl
  rw[body e1]
  simp
 case ocel sz id off len=>
  obtain⟨_,o',cap,e1,hlc,hoff,_⟩:=r1
  cases hcs:Cq C.H id with
  |none=>rw[hcs]at h;simp at h
  |some cs=>
   rw[hcs]at h
   simp only[Option.bind_some]at h
   split at h
   ·rename_i hcond
    obtain⟨hsz,hle⟩:=hcond
    obtain rfl:=Option.some.inj h
    obtain⟨tl,hg,hlab⟩:=Np hcs
    obtain⟨vs,arr,et,fr,⟨g1,hlb⟩,g2,g3,g4,g5,g6⟩:=I.obj id _ hg
    generalize hm:min src.length len=m at*
    have hms:m≤src.length:=by omega
    have hml:m*P.cellsOf e≤len*P.cellsOf e:=Nat.mul_le_mul_right _ (by omega)
    obtain⟨q1,q2,q3,q4⟩:=hvt m hms
    have hsp:cs.take off++(src.take m).flatten++cs.drop (off+m*P.cellsOf e)=B2 cs off (src.take m).flatten:=by simp only[B2,q3]
    have hst:(storeCells ⟨(C.φ id).blk,o',none⟩ (vss.take m).flatten).run P C.w= .ok () (C.w.setCells (C.φ id).blk off (vss.take m).flatten):=by
     by_cases h0:0<len
     ·rw[hoff h0]
      exact R7 g1 (by rw[q4,g2];omega) (fun j hj=>g6 _ (by rw[q4]at hj;omega)) (LH q2 q1)
     ·have:m=0:=by omega
      subst this
      simp[storeCells,World.setCells]
    obtain⟨arr',k1,k2⟩:=FU (vss.take m).flatten off g1
    obtain⟨X,hI⟩:=rO (D:=⟨C.φ,C.H.set id (BW.cells (E5 C.H id) (B2 cs off (src.take m).flatten)),C.w.setCells (C.φ id).blk off (vss.take m).flatten⟩) I (FS _ _) hg rfl (fun _ _=>rfl) (by simp only[FQ];omega)
     (fun b hb hne=>Dm hne _ _) (.inl rfl) (fun _=>⟨rfl,rfl⟩) (fun _ _ _ _ e=>by cases e)
    refine⟨_,X,hI ?_,by simp only[Option.getD_some,hsp], .inl ⟨goInt m,run ?_,rfl⟩⟩
    ·refine⟨_,arr',et,fr,⟨k1,by rw[hlab];exact hlb⟩,by rw[k2,g2,In (by rw[q3];omega)],Me g3 q2,Nx (g4.ext X) (q1.ext X),?_,?_⟩
     ·have:=DY.put (base:=0) (o:=off) g1 g5 (vs:=(vss.take m).flatten) (by rw[q4,g4.length];omega) (by rw[g4.length];omega)
      simpa using this
     ·intro j hj
      rw[In (by rw[q3];omega)]at hj
      rw[FV]
      exact g6 j hj
    ·rw[body e1]
     simp only[hm,hst,Result.andThen_ok]
   ·simp at h
 case orow id n lo len=>
  obtain⟨_,fz,sz,els,hg,hle,k⟩:=r1
  simp only[hg,Option.bind_some]at h
  split at h
  ·rename_i hcond
   obtain⟨hfz,hn',hsz,hlo⟩:=hcond
   obtain rfl:=Option.some.inj h
   subst hsz
   obtain⟨_,off,cap,e1,hlc,hoff,hsize,hbo⟩:=k hn'
   obtain⟨tl,hg',hlab⟩:=Iv hg
   obtain⟨ws,arr,et,fr,⟨g1,hfr0,hlb⟩,g2,g3,g4,g5,g6,g7,g8,g9⟩:=I.obj id _ hg'
   generalize hm:min src.length len=m at*
   have hms:m≤src.length:=by omega
   obtain⟨q1,q2,q3,q4⟩:=hvt m hms
   have hwl:=AY.lens (fun x hx=>(g4 x hx).1) g5
   have hwfl:ws.flatten.length=els.length*P.cellsOf e:=by rw[Fa _ hwl,g5.length]
   have hb1:lo*P.cellsOf e+m*P.cellsOf e≤els.length*P.cellsOf e:=by
    rw[←Nat.add_mul];exact Nat.mul_le_mul_right _ (by omega)
   have hst:(storeCells ⟨(C.φ id).blk,off,none⟩ (vss.take m).flatten).run P C.w= .ok () (C.w.setCells (C.φ id).blk ((C.φ id).base+lo*P.cellsOf e) (vss.take m).flatten):=by
    by_cases h0:0<len
    ·rw[hoff h0]
     exact R7 g1 (by rw[q4,g2];omega) (fun j hj=>g8 hfz _ (by rw[q4]at hj;omega)) (LH q2 q1)
    ·have:m=0:=by omega
     subst this
     simp[storeCells,World.setCells]
   obtain⟨arr',k1,k2⟩:=FU (vss.take m).flatten ((C.φ id).base+lo*P.cellsOf e) g1
   obtain⟨X,hI⟩:=rO (D:=⟨C.φ,C.H.set id (BW.row (E5 C.H id) false (P.cellsOf e) (els.take lo++src.take m++els.drop (lo+m))),C.w.setCells (C.φ id).blk ((C.φ id).base+lo*P.cellsOf e) (vss.take m).flatten⟩) I (FS _ _) hg' rfl (fun _ _=>rfl) (by simp only[FQ];omega)
    (fun b hb hne=>Dm hne _ _) (.inl rfl) (fun e=>by cases e) (fun _ fz' sz' els' e=>by cases e;exact⟨_,_,_,rfl,by simp only[List.length_append,List.length_take,List.length_drop];omega,fun _=>rfl⟩)
   have hnl:(els.take lo++src.take m++els.drop (lo+m)).length=els.length:=by simp only[List.length_append,List.length_take,List.length_drop];omega
   refine⟨_,X,hI ?_,rfl, .inl ⟨goInt m,run ?_,rfl⟩⟩
   ·refine⟨ws.take lo++vss.take m++ws.drop (lo+m),arr',et,fr,⟨k1,hfr0,by rw[hlab];exact hlb⟩,by rw[k2];exact g2,g3,?_,?_,by rw[hnl];exact g6,?_,?_,?_⟩
    ·intro y hy
     simp only[List.mem_append]at hy
     rcases hy with (hy|hy)|hy
     ·exact g4 y (List.mem_of_mem_take hy)
     ·exact hs y (List.mem_of_mem_take hy)
     ·exact g4 y (List.mem_of_mem_drop hy)
    ·exact AY.app (AY.app (AY.take (g5.ext X)) (AY.take (hrr.ext X))) (AY.drop (g5.ext X))
    ·have hfl:(ws.take lo++vss.take m++ws.drop (lo+m)).flatten=ws.flatten.take (lo*P.cellsOf e)++(vss.take m).flatten++ws.flatten.drop (lo*P.cellsOf e+(vss.take m).flatten.length):=by
      rw[List.flatten_append,List.flatten_append,E0 _ _ hwl,EW _ _ hwl,q4,←Nat.add_mul]
     rw[hfl]
     exact DY.put (base:=(C.φ id).base) (o:=lo*P.cellsOf e) g1 g7 (vs:=(vss.take m).flatten) (by omega) (by omega)
    ·intro _ j hj
     rw[FV]
     exact g8 hfz j hj
    ·intro _ j hj hj'
     rw[FV]
     exact g9 hfz j (by rwa [hnl]at hj) hj'
   ·rw[body e1]
    simp only[hm,hst,Result.andThen_ok]
  ·simp at h
end
end Go.Proofs.YtobejhpigbllpaaGreatDoor.Am
namespace Go.Proofs.YtobejhpigbllpaaGreatDoor.Am
def iY(P:Program)(sh:TypeId→Option (List CK)):Nat→List Field→Option (List CK)
 |_,[]=>some []
 |pos,f::fs=>(sh f.type).bind fun l=>if f.offset=pos∧f.name≠ "_" ∧l.length=P.cellsOf f.type then(iY P sh (pos+l.length) fs).map (l++ ·)else none
def UD(P:Program):Nat→TypeId→Option (List CK)
 |0,_=>none
 |d+1,t=>
  match P.underlying t with
  |some .bool=>some [.b]
  |some (.int k)=>some [.i k]
  |some .string=>some [.s]
  |some (.struct fs)=>if P.stoodInHeld t then none else iY P (UD P d) 0 fs.toList
  |some (.array n e)=>(UD P d e).bind fun l=>if l.length=P.cellsOf e then some (List.replicate n l).flatten else none
  |_=>none
theorem JV: ∀{l:List CK} {x y:List AV} {b:Bool},Nm l x y=some b→x.length=l.length∧y.length=l.length
 |[],[],[],_,_=>⟨rfl,rfl⟩
 |[],[],_::_,_,h=>by simp[Nm]at h
 |[],_::_,_,_,h=>by simp[Nm]at h
 |_::_,[],_,_,h=>by simp[Nm]at h
 |_::_,_::_,[],_,h=>by simp[Nm]at h
 |c::l,v::x,u::y,b,h=>by
  simp only[Nm]at h
  obtain⟨a,_,h⟩:=Option.bind_eq_some_iff.1 h
  obtain⟨d,h,_⟩:=Option.map_eq_some_iff.1 h
  obtain⟨h1,h2⟩:=JV h
  simp[h1,h2]
theorem Rf: ∀{l m:List CK} {x y:List AV} {b:Bool},Nm (l++m) x y=some b→ ∃a c,Nm l (x.take l.length) (y.take l.length)=some a∧Nm m (x.drop l.length) (y.drop l.length)=some c∧b=(a&&c)
 |[],m,x,y,b,h=>⟨true,b,by simp[Nm],by simpa using h,by simp⟩
 |c::l,m,[],_,_,h=>by simp[Nm]at h
 |c::l,m,_::_,[],_,h=>by simp[Nm]at h
 |c::l,m,v::x,u::y,b,h=>by
  simp only[List.cons_append,Nm]at h
  obtain⟨a,ha,h⟩:=Option.bind_eq_some_iff.1 h
  obtain⟨d,h',hd⟩:=Option.map_eq_some_iff.1 h
  subst hd
  obtain⟨p,q,h1,h2,hpq⟩:=Rf h'
  subst hpq
  refine⟨a&&p,q,?_,by simpa using h2,by simp[Bool.and_assoc]⟩
  simp only[List.length_cons,List.take_succ_cons,Nm,ha,Option.bind_some,h1,Option.map_some]
section
variable{cl:Nat→List AV→Ax→Lb}{P:Program}{tb:Dg}{C:D4}{f:Fr}{a:Act}{nt:Nat}
def Xw(P:Program)(t:TypeId)(cs:List Value)(v:Value):Prop:=if Fi P t=true then v= .agg cs.toArray else cs=[v]
theorem P7{d:Nat}{t:TypeId}{l:List CK}(h:UD P d t=some l)(ha:Fi P t=false):l.length=1:=by
 cases d with
 |zero=>simp[UD]at h
 |succ d=>
  simp only[UD]at h
  simp only[Fi]at ha
  split at h<;>simp_all
  all_goals (subst h;rfl)
theorem MW{d:Nat}{t:TypeId}{l:List CK}(h:UD P d t=some l):(P.underlying t).isSome=true:=by
 cases d with
 |zero=>simp[UD]at h
 |succ d=>
  simp only[UD]at h
  cases hu:P.underlying t with
  |none=>rw[hu]at h;simp at h
  |some _=>rfl
theorem K2{d:Nat}{t:TypeId}{l:List CK}(h:UD P d t=some l)(hc:l.length=P.cellsOf t){cs:List Value}{off:Nat}(hle:off+l.length≤cs.length)(w:World):
  ∃v,(part t cs.toArray off).run P w= .ok v w∧Xw P t ((cs.drop off).take l.length) v:=by
 have hu:=MW h
 have hi:(P.info? t).isSome=true:=by
  obtain⟨d,hd⟩:=Option.isSome_iff_exists.1 hu
  exact info_of_underlying hd
 cases ha:Fi P t with
 |true=>
  refine⟨.agg (cs.toArray.extract off (off+P.cellsOf t)),?_,?_⟩
  ·simp only[part,Sem.run_bind,Fj t w hu,ha,Result.andThen_ok,if_true,BX hi,Sem.run_pure]
  ·simp only[Xw,ha,if_true]
   congr 1
   rw[←Array.toList_inj,Array.toList_extract,hc]
   simp[List.extract]
 |false=>
  have h1:=P7 h ha
  have hlt:off<cs.length:=by omega
  refine⟨cs[off],?_,?_⟩
  ·simp only[part,Sem.run_bind,Fj t w hu,ha,Result.andThen_ok,Bool.false_eq_true,if_false]
   simp[hlt]
  ·simp only[Xw,ha,Bool.false_eq_true,if_false,h1]
   rw[List.drop_eq_getElem_cons hlt]
   rfl
def ckT:CK→TypeDesc
 | .b=> .bool
 | .i k=> .int k
 | .s=> .string
theorem Vd{c:CK}{x y:AV}{v u:Value}{b:Bool}(h:rP c x y=some b)(rx:Gc C x v)(ry:Gc C y u):
  (∃p q,c= .b∧v= .bool p∧u= .bool q∧b=(p==q))∨(∃k p q,c= .i k∧v= .int k p∧u= .int k q∧b=(p==q))∨ ∃p q:List UInt8,c= .s∧v= .string ⟨p.toArray⟩∧u= .string ⟨q.toArray⟩∧b=(p==q):=by
 unfold rP at h
 split at h
 ·rename_i p q
  simp only[Option.some.injEq]at h
  exact .inl ⟨p,q,rfl,rx,ry,h.symm⟩
 ·rename_i k k1 p k2 q
  split at h
  ·rename_i hk
   obtain⟨rfl,rfl⟩:=hk
   simp only[Option.some.injEq]at h
   exact .inr (.inl ⟨_,p,q,rfl,rx,ry,h.symm⟩)
  ·cases h
 ·rename_i p q
  simp only[Option.some.injEq]at h
  exact .inr (.inr ⟨p,q,rfl,rx,ry,h.symm⟩)
 ·cases h
theorem jA(d:Nat){c:CK}{t:TypeId}{x y:AV}{v u:Value}{b:Bool}(h:rP c x y=some b)(rx:Gc C x v)(ry:Gc C y u)(w:World)
  (ht:P.underlying t=some (ckT c)):(Op.equalIn (d+1) t v u).run P w= .ok b w:=by
 rcases Vd h rx ry with ⟨p,q,rfl,rfl,rfl,rfl⟩|⟨k,p,q,rfl,rfl,rfl,rfl⟩|⟨p,q,rfl,rfl,rfl,rfl⟩
 ·exact run_equalIn_bool' w d t p q ht
 ·exact run_equalIn_int w d t k k p q ht
 ·rw[run_equalIn_string w d t _ _ ht,J3,J3]
theorem one_of{x y:List AV}{cx cy:List Value}{c:CK}{b:Bool}(h:Nm [c] x y=some b)(rx:Bg C x cx)(ry:Bg C y cy): ∃a e v u,x=[a]∧y=[e]∧cx=[v]∧cy=[u]∧Gc C a v∧Gc C e u∧rP c a e=some b:=by
 obtain⟨h1,h2⟩:=JV h
 match x,y,h1,h2 with
 |[p],[q],_,_=>
  obtain⟨v,r,e1,rv,e2⟩:=rx
  obtain⟨u,r',e3,ru,e4⟩:=ry
  simp only[Nm]at h
  obtain⟨b',hb,h⟩:=Option.bind_eq_some_iff.1 h
  simp only[Option.map_some,Option.some.injEq,Bool.and_true]at h
  subst h
  exact⟨p,q,v,u,rfl,rfl,by rw[e1,show r=[]from e2],by rw[e3,show r'=[]from e4],rv,ru,hb⟩
def xL(P:Program)(C:D4)(dd:Nat)(t:TypeId)(l:List CK):Prop:=
 ∀(ax ay:List AV) (cx cy:List Value) (b:Bool) (x y:Value) (w:World),Bg C ax cx→Bg C ay cy→Nm l ax ay=some b→Xw P t cx x→Xw P t cy y→(Op.equalIn dd t x y).run P w= .ok b w
theorem QK(dd d:Nat)(IH: ∀t l,UD P d t=some l→xL P C dd t l): ∀(fs:List Field) (pos:Nat) (l:List CK),iY P (UD P d) pos fs=some l→ ∀(ax ay:List AV) (cx cy:List Value) (b:Bool) (w:World),
  Bg C ax (cx.drop pos)→Bg C ay (cy.drop pos)→Nm l ax ay=some b→(Op.eqFields dd cx.toArray cy.toArray fs).run P w= .ok b w
 |[],pos,l,h,ax,ay,cx,cy,b,w,rx,ry,e=>by
  simp only[iY,Option.some.injEq]at h
  subst h
  obtain⟨h1,h2⟩:=JV e
  match ax,ay,h1,h2 with
  |[],[],_,_=>
   simp only[Nm,Option.some.injEq]at e
   subst e
   simp[Op.eqFields]
 |f::fs,pos,l,h,ax,ay,cx,cy,b,w,rx,ry,e=>by
  simp only[iY]at h
  obtain⟨m,hm,h⟩:=Option.bind_eq_some_iff.1 h
  split at h
  ·rename_i hc
   obtain⟨hoff,hname,hcells⟩:=hc
   obtain⟨r,hr,rfl⟩:=Option.map_eq_some_iff.1 h
   obtain⟨p,q,e1,e2,rfl⟩:=Rf e
   obtain⟨n1,n2⟩:=JV e
   rw[List.length_append]at n1 n2
   have lx:=rx.length
   have ly:=ry.length
   rw[List.length_drop]at lx ly
   by_cases h0:m.length=0
   ·
    obtain⟨v,hv,iv⟩: ∃v,(part f.type cx.toArray f.offset).run P w= .ok v w∧Xw P f.type ((cx.drop f.offset).take m.length) v:=by
     cases ha:Fi P f.type with
     |false=>have:=P7 hm ha;omega
     |true=>
      have hu:=MW hm
      have hi:(P.info? f.type).isSome=true:=by
       obtain⟨d,hd⟩:=Option.isSome_iff_exists.1 hu
       exact info_of_underlying hd
      refine⟨.agg (cx.toArray.extract f.offset (f.offset+P.cellsOf f.type)),?_,?_⟩
      ·simp only[part,Sem.run_bind,Fj f.type w hu,ha,Result.andThen_ok,if_true,BX hi,Sem.run_pure]
      ·simp only[Xw,ha,if_true]
       congr 1
       rw[←Array.toList_inj,Array.toList_extract,hcells]
       simp[List.extract]
    obtain⟨u,hu',iu⟩: ∃v,(part f.type cy.toArray f.offset).run P w= .ok v w∧Xw P f.type ((cy.drop f.offset).take m.length) v:=by
     cases ha:Fi P f.type with
     |false=>have:=P7 hm ha;omega
     |true=>
      have hu:=MW hm
      have hi:(P.info? f.type).isSome=true:=by
       obtain⟨d,hd⟩:=Option.isSome_iff_exists.1 hu
       exact info_of_underlying hd
      refine⟨.agg (cy.toArray.extract f.offset (f.offset+P.cellsOf f.type)),?_,?_⟩
      ·simp only[part,Sem.run_bind,Fj f.type w hu,ha,Result.andThen_ok,if_true,BX hi,Sem.run_pure]
      ·simp only[Xw,ha,if_true]
       congr 1
       rw[←Array.toList_inj,Array.toList_extract,hcells]
       simp[List.extract]
    have hq:=IH f.type m hm _ _ _ _ _ v u w (by rw[hoff];exact rx.take) (by rw[hoff];exact ry.take) e1 iv iu
    simp only[Op.eqFields,hname,ne_eq,not_false_eq_true,if_true,Sem.run_bind,hv,hu',hq,Result.andThen_ok]
    cases p
    ·simp
    ·simp only[Bool.not_true,Bool.false_eq_true,if_false,Bool.true_and]
     exact QK dd d IH fs _ r hr _ _ cx cy q w (by rw[←List.drop_drop];exact rx.drop) (by rw[←List.drop_drop];exact ry.drop) e2
   ·obtain⟨v,hv,iv⟩:=K2 (P:=P) hm hcells (cs:=cx) (off:=f.offset) (by omega) w
    obtain⟨u,hu,iu⟩:=K2 (P:=P) hm hcells (cs:=cy) (off:=f.offset) (by omega) w
    have hq:=IH f.type m hm _ _ _ _ _ v u w (by rw[hoff];exact rx.take) (by rw[hoff];exact ry.take) e1 iv iu
    simp only[Op.eqFields,hname,ne_eq,not_false_eq_true,if_true,Sem.run_bind,hv,hu,hq,Result.andThen_ok]
    cases p
    ·simp
    ·simp only[Bool.not_true,Bool.false_eq_true,if_false,Bool.true_and]
     exact QK dd d IH fs _ r hr _ _ cx cy q w (by rw[←List.drop_drop];exact rx.drop) (by rw[←List.drop_drop];exact ry.drop) e2
  ·cases h
theorem Y4(dd:Nat){e:TypeId}{d:Nat}{m:List CK}(hm:UD P d e=some m)(hc:m.length=P.cellsOf e)(hz:Fi P e=true∨0<m.length)(IH:xL P C dd e m): ∀(n pos:Nat) (ax ay:List AV) (cx cy:List Value) (b:Bool) (w:World),
  Bg C ax (cx.drop (pos*m.length))→Bg C ay (cy.drop (pos*m.length))→Nm (List.replicate n m).flatten ax ay=some b→(Op.eqItems dd e (P.cellsOf e) cx.toArray cy.toArray (List.range' pos n)).run P w= .ok b w
 |0,pos,ax,ay,cx,cy,b,w,rx,ry,h=>by
  simp only[List.replicate_zero,List.flatten_nil]at h
  obtain⟨h1,h2⟩:=JV h
  match ax,ay,h1,h2 with
  |[],[],_,_=>
   simp only[Nm,Option.some.injEq]at h
   subst h
   simp[Op.eqItems]
 |n+1,pos,ax,ay,cx,cy,b,w,rx,ry,h=>by
  rw[List.replicate_succ,List.flatten_cons]at h
  obtain⟨p,q,e1,e2,rfl⟩:=Rf h
  obtain⟨n1,n2⟩:=JV h
  rw[List.length_append]at n1 n2
  have lx:=rx.length
  have ly:=ry.length
  rw[List.length_drop]at lx ly
  have prt: ∀cs:List Value,pos*m.length+m.length≤cs.length∨(m.length=0∧Fi P e=true)→ ∃v,(part e cs.toArray (pos*P.cellsOf e)).run P w= .ok v w∧Xw P e ((cs.drop (pos*m.length)).take m.length) v:=by
   intro cs hcs
   rw[←hc]
   rcases hcs with hcs|⟨h0,ha⟩
   ·exact K2 (P:=P) hm hc hcs w
   ·have hu:=MW hm
    have hi:(P.info? e).isSome=true:=by
     obtain⟨d,hd⟩:=Option.isSome_iff_exists.1 hu
     exact info_of_underlying hd
    refine⟨.agg (cs.toArray.extract (pos*m.length) (pos*m.length+P.cellsOf e)),?_,?_⟩
    ·simp only[part,Sem.run_bind,Fj e w hu,ha,Result.andThen_ok,if_true,BX hi,Sem.run_pure]
    ·simp only[Xw,ha,if_true]
     congr 1
     rw[←Array.toList_inj,Array.toList_extract,←hc]
     simp[List.extract]
  obtain⟨v,hv,iv⟩:=prt cx (by
   rcases Nat.eq_zero_or_pos m.length with h0|h0
   ·exact .inr ⟨h0,hz.resolve_right (by omega)⟩
   ·left;omega)
  obtain⟨u,hu,iu⟩:=prt cy (by
   rcases Nat.eq_zero_or_pos m.length with h0|h0
   ·exact .inr ⟨h0,hz.resolve_right (by omega)⟩
   ·left;omega)
  have hq:=IH _ _ _ _ _ v u w rx.take ry.take e1 iv iu
  simp only[List.range'_succ,Op.eqItems,Sem.run_bind,hv,hu,hq,Result.andThen_ok]
  cases p
  ·simp
  ·simp only[Bool.not_true,Bool.false_eq_true,if_false,Bool.true_and]
   refine Y4 dd hm hc hz IH n (pos+1) _ _ cx cy q w ?_ ?_ e2
   ·rw[Nat.succ_mul,←List.drop_drop];exact rx.drop
   ·rw[Nat.succ_mul,←List.drop_drop];exact ry.drop
theorem Sf(k:Nat): ∀(d:Nat) (t:TypeId) (l:List CK),UD P d t=some l→xL P C (k+d) t l
 |0,_,_,h=>by simp[UD]at h
 |d+1,t,l,h=>by
  intro ax ay cx cy b x y w rx ry e ix iy
  simp only[UD]at h
  have plain: ∀c:CK,l=[c]→P.underlying t=some (ckT c)→(Op.equalIn (k+(d+1)) t x y).run P w= .ok b w:=by
   intro c hl hu
   subst hl
   obtain⟨p,q,v,u,rfl,rfl,rfl,rfl,rv,ru,h1⟩:=one_of e rx ry
   have hag:Fi P t=false:=by
    simp only[Fi,hu]
    cases c<;>rfl
   simp only[Xw,hag,Bool.false_eq_true,if_false,List.cons.injEq,and_true]at ix iy
   subst ix;subst iy
   exact jA (k+d) h1 rv ru w hu
  split at h
  ·rename_i hu;exact plain .b (by simpa using h.symm) hu
  ·rename_i q hu;exact plain (.i q) (by simpa using h.symm) hu
  ·rename_i hu;exact plain .s (by simpa using h.symm) hu
  ·rename_i fs hu
   split at h
   ·cases h
   ·rename_i hst
    have hag:Fi P t=true:=by simp only[Fi,hu]
    simp only[Xw,hag,if_true]at ix iy
    subst ix;subst iy
    have hf:P.fieldsOf t=fs:=by simp only[Program.fieldsOf,hu]
    rw[show k+(d+1)=(k+d)+1 from rfl,run_equalIn_struct w (k+d) t _ _ (by rw[hf];exact hu) (by simpa using hst),hf]
    exact QK (k+d) d (fun t l=>Sf k d t l) fs.toList 0 l h _ _ cx cy b w (by simpa using rx) (by simpa using ry) e
  ·rename_i n el hu
   obtain⟨m,hm,h⟩:=Option.bind_eq_some_iff.1 h
   split at h
   ·rename_i hc
    obtain rfl:=Option.some.inj h
    have hag:Fi P t=true:=by simp only[Fi,hu]
    simp only[Xw,hag,if_true]at ix iy
    subst ix;subst iy
    obtain⟨i,hi⟩: ∃i,P.info? el=some i:=by
     obtain⟨dd,hd⟩:=Option.isSome_iff_exists.1 (MW hm)
     exact Option.isSome_iff_exists.1 (info_of_underlying hd)
    rw[show k+(d+1)=(k+d)+1 from rfl,run_equalIn_array w (k+d) _ _ hu hi,List.range_eq_range']
    refine Y4 (k+d) hm hc ?_ (Sf k d el m hm) n 0 _ _ cx cy b w (by simpa using rx) (by simpa using ry) e
    cases ha:Fi P el with
    |true=>exact .inl rfl
    |false=>right;have:=P7 hm ha;omega
   ·cases h
  ·cases h
end
end Go.Proofs.YtobejhpigbllpaaGreatDoor.Am
namespace Go.Proofs.YtobejhpigbllpaaGreatDoor.Am
section
variable{cl:Nat→List AV→Ax→Lb}{P:Program}{tb:Dg}{C:D4}{f:Fr}{a:Act}{nt:Nat}
def zV(P:Program)(ek:EK)(t:TypeId):Bool:=
 match ek,P.underlying t with
 | .one .b,some .bool=>true
 | .agg l,some (.struct _)=>decide (UD P 50 t=some l)&& !P.eqGuardType P.depth t
 | .agg l,some (.array _ _)=>decide (UD P 50 t=some l)&& !P.eqGuardType P.depth t
 | .p,some (.pointer _)=>true
 | .m,some (.map _ _)=>true
 | .f,some (.func _ _ _)=>true
 | .n,some (.interface _)=>true
 | .sl,some (.slice _)=>true
 |_,_=>false
theorem FE{op:BinOp}{t:TypeId}{x y:Value}{b:Bool}{w:World}(h:(Op.equalIn 10000 t x y).run P w= .ok b w)(hb:(∃p q,x= .bool p∧y= .bool q)∨(∃p q,x= .agg p∧y= .agg q)∨(∃p q,x= .pointer p∧y= .pointer q)∨
  (∃p q,x= .map p∧y= .map q)∨(x= .nilFunc∨y= .nilFunc)∧(∀k n,x≠ .int k n∧y≠ .int k n)∨(x= .nilIface∨y= .nilIface)∧(∀k n,x≠ .int k n∧y≠ .int k n)∨(∃p l c q l' c',x= .slice p l c∧y= .slice q l' c')):
  (op= .eql→(Go.binOp op t x y).run P w= .ok (.bool b) w)∧(op= .neq→(Go.binOp op t x y).run P w= .ok (.bool (!b)) w):=by
 have h':(Op.equal t x y).run P w= .ok b w:=h
 constructor<;>rintro rfl
 ·rcases hb with ⟨p,q,rfl,rfl⟩|⟨p,q,rfl,rfl⟩|⟨p,q,rfl,rfl⟩|⟨p,q,rfl,rfl⟩|⟨rfl|rfl,_⟩|⟨rfl|rfl,_⟩|⟨p,l,c,q,l',c',rfl,rfl⟩<;>
   first
   |(simp only[Go.binOp,Sem.run_bind,h',Result.andThen_ok,Sem.run_pure];done)
   |(cases x<;>simp only[Go.binOp,Sem.run_bind,h',Result.andThen_ok,Sem.run_pure])
   |(cases y<;>simp only[Go.binOp,Sem.run_bind,h',Result.andThen_ok,Sem.run_pure])
 ·rcases hb with ⟨p,q,rfl,rfl⟩|⟨p,q,rfl,rfl⟩|⟨p,q,rfl,rfl⟩|⟨p,q,rfl,rfl⟩|⟨rfl|rfl,_⟩|⟨rfl|rfl,_⟩|⟨p,l,c,q,l',c',rfl,rfl⟩<;>
   first
   |(simp only[Go.binOp,Sem.run_bind,h',Result.andThen_ok,Sem.run_pure];done)
   |(cases x<;>simp only[Go.binOp,Sem.run_bind,h',Result.andThen_ok,Sem.run_pure])
   |(cases y<;>simp only[Go.binOp,Sem.run_bind,h',Result.andThen_ok,Sem.run_pure])
theorem Zm{t:TypeId}{l:List CK}{x y:List AV}{v u:Value}{b:Bool}(hu:Fi P t=true)(hk:UD P 50 t=some l)(hg:P.eqGuardType P.depth t=false)(h:Nm l x y=some b)(rx:Gc C (.agg x) v)(ry:Gc C (.agg y) u)(p q:Operand)(w:World):
  (∀op,(eqGuard op t p q v u).run P w= .ok () w)∧ ∀op,(op= .eql→(Go.binOp op t v u).run P w= .ok (.bool b) w)∧(op= .neq→(Go.binOp op t v u).run P w= .ok (.bool (!b)) w):=by
 obtain⟨cx,rfl,_,r1⟩:=rx
 obtain⟨cy,rfl,_,r2⟩:=ry
 refine⟨fun op=>run_eqGuard_agg w op t p q _ _ hg,fun op=>FE (Sf (C:=C) 9950 50 t l hk _ _ cx cy b _ _ w r1 r2 h ?_ ?_) (.inr (.inl ⟨_,_,rfl,rfl⟩))⟩
 ·simp only[Xw,hu,if_true]
 ·simp only[Xw,hu,if_true]
theorem Ni{t:TypeId}{v u:Value}(p q:Operand)(w:World)(h1: ∀l,v≠ .agg l)(h2:v≠ .nilIface∨u≠ .nilIface): ∀op,(eqGuard op t p q v u).run P w= .ok () w:=by
 intro op
 cases v<;>first
  |exact absurd rfl (h1 _)
  |(simp only[eqGuard];split<;>rfl)
  |(cases u<;>first
    |exact absurd rfl (h2.resolve_left fun h=>h rfl)
    |(simp only[eqGuard];split<;>rfl))
theorem vZ(d:Nat){t e:TypeId}(hu:P.underlying t=some (.pointer e)){o1 o2:Option Addr}{b:Bool}(h:(o1=none∧b=o2.isNone)∨(o2=none∧o1.isSome=true∧b=false))(w:World):
  (Op.equalIn (d+1) t (.pointer o1) (.pointer o2)).run P w= .ok b w:=by
 rcases h with ⟨rfl,rfl⟩|⟨rfl,h1,rfl⟩
 ·simp only[Op.equalIn,Sem.run_bind,Av hu,Result.andThen_ok,Sem.run_pure]
 ·cases o1 with
  |none=>cases h1
  |some a=>simp only[Op.equalIn,Sem.run_bind,Av hu,Result.andThen_ok,Sem.run_pure]
theorem wA(d:Nat){t k e:TypeId}(hu:P.underlying t=some (.map k e)){o1 o2:Option Nat}{b:Bool}(h:(o1=none∧b=o2.isNone)∨(o2=none∧o1.isSome=true∧b=false))(w:World):
  (Op.equalIn (d+1) t (.map o1) (.map o2)).run P w= .ok b w:=by
 rcases h with ⟨rfl,rfl⟩|⟨rfl,h1,rfl⟩
 ·simp only[Op.equalIn,Sem.run_bind,Av hu,Result.andThen_ok,Sem.run_pure]
 ·cases o1 with
  |none=>cases h1
  |some a=>simp only[Op.equalIn,Sem.run_bind,Av hu,Result.andThen_ok,Sem.run_pure]
theorem wB(d:Nat){t:TypeId}{x1 x2 x3}(hu:P.underlying t=some (.func x1 x2 x3))(w:World):(Op.equalIn (d+1) t .nilFunc .nilFunc).run P w= .ok true w:=by
 simp only[Op.equalIn,Sem.run_bind,Av hu,Result.andThen_ok,Sem.run_pure]
theorem wC(d:Nat){t:TypeId}{x1 x2 x3}(hu:P.underlying t=some (.func x1 x2 x3)){p q r}(w:World):(Op.equalIn (d+1) t .nilFunc (.func p q r)).run P w= .ok false w:=by
 simp only[Op.equalIn,Sem.run_bind,Av hu,Result.andThen_ok,Sem.run_pure]
theorem wD(d:Nat){t:TypeId}{x1 x2 x3}(hu:P.underlying t=some (.func x1 x2 x3)){p q r}(w:World):(Op.equalIn (d+1) t (.func p q r) .nilFunc).run P w= .ok false w:=by
 simp only[Op.equalIn,Sem.run_bind,Av hu,Result.andThen_ok,Sem.run_pure]
theorem eqIn_ni(d:Nat){t:TypeId}{x1}(hu:P.underlying t=some (.interface x1)){p q}(w:World):(Op.equalIn (d+1) t .nilIface (.iface p q)).run P w= .ok false w:=by
 simp only[Op.equalIn,Sem.run_bind,Av hu,Result.andThen_ok,Sem.run_pure]
theorem nR(d:Nat){t:TypeId}{x1}(hu:P.underlying t=some (.interface x1)){p q}(w:World):(Op.equalIn (d+1) t (.iface p q) .nilIface).run P w= .ok false w:=by
 simp only[Op.equalIn,Sem.run_bind,Av hu,Result.andThen_ok,Sem.run_pure]
theorem eqIn_sl(d:Nat){t e:TypeId}(hu:P.underlying t=some (.slice e)){o1 o2:Option Addr}{l c l' c':Nat}{b:Bool}(h:(o1=none∧b=o2.isNone)∨(o2=none∧o1.isSome=true∧b=false))(w:World):
  (Op.equalIn (d+1) t (.slice o1 l c) (.slice o2 l' c')).run P w= .ok b w:=by
 rcases h with ⟨rfl,rfl⟩|⟨rfl,h1,rfl⟩
 ·simp only[Op.equalIn,Sem.run_bind,Av hu,Result.andThen_ok,Sem.run_pure]
 ·cases o1 with
  |none=>cases h1
  |some a=>simp only[Op.equalIn,Sem.run_bind,Av hu,Result.andThen_ok,Sem.run_pure]
theorem qT{ek:EK}{t:TypeId}{x y:AV}{v u:Value}{b:Bool}(hk:zV P ek t=true)(h:bF ek x y=some b)(rx:Gc C x v)(ry:Gc C y u)(p q:Operand)(w:World):
  (∀op,(eqGuard op t p q v u).run P w= .ok () w)∧ ∀op,(op= .eql→(Go.binOp op t v u).run P w= .ok (.bool b) w)∧(op= .neq→(Go.binOp op t v u).run P w= .ok (.bool (!b)) w):=by
 unfold zV at hk
 split at hk
 ·rename_i hu
  simp only[bF]at h
  rcases Vd h rx ry with ⟨p,q,_,rfl,rfl,rfl⟩|⟨k,p,q,e,_⟩|⟨p,q,e,_⟩
  ·exact⟨fun op=>by cases op<;>rfl,fun op=>FE (run_equalIn_bool' w 9999 t p q hu) (.inl ⟨_,_,rfl,rfl⟩)⟩
  ·cases e
  ·cases e
 ·rename_i l fs hu
  simp only[Bool.and_eq_true,decide_eq_true_eq,Bool.not_eq_true']at hk
  unfold bF at h
  split at h<;>first|contradiction|skip
  rename_i l' cx cy e
  cases e
  exact Zm (by simp only[Fi,hu]) hk.1 hk.2 h rx ry p q w
 ·rename_i l n e hu
  simp only[Bool.and_eq_true,decide_eq_true_eq,Bool.not_eq_true']at hk
  unfold bF at h
  split at h<;>first|contradiction|skip
  rename_i l' cx cy e
  cases e
  exact Zm (by simp only[Fi,hu]) hk.1 hk.2 h rx ry p q w
 ·rename_i e hu
  have fin: ∀(o1 o2:Option Addr),v= .pointer o1→u= .pointer o2→((o1=none∧b=o2.isNone)∨(o2=none∧o1.isSome=true∧b=false))→
    (∀op,(eqGuard op t p q v u).run P w= .ok () w)∧ ∀op,(op= .eql→(Go.binOp op t v u).run P w= .ok (.bool b) w)∧(op= .neq→(Go.binOp op t v u).run P w= .ok (.bool (!b)) w):=by
   rintro o1 o2 rfl rfl hh
   refine⟨Ni p q w (fun l e=>by cases e) (.inl fun e=>by cases e),fun op=>FE ?_ (.inr (.inr (.inl ⟨_,_,rfl,rfl⟩)))⟩
   exact vZ 9999 hu hh w
  unfold bF at h
  split at h<;>first|contradiction|(simp only[Option.some.injEq]at h;subst h)
  ·exact fin none none rx ry (.inl ⟨rfl,rfl⟩)
  ·exact fin none _ rx ry.2 (.inl ⟨rfl,rfl⟩)
  ·obtain⟨⟨a,e⟩,_⟩:=ry;exact fin none _ rx e (.inl ⟨rfl,rfl⟩)
  ·obtain⟨_,_,_,e,_⟩:=ry;exact fin none _ rx e (.inl ⟨rfl,rfl⟩)
  ·exact fin _ none rx.2 ry (.inr ⟨rfl,rfl,rfl⟩)
  ·obtain⟨⟨a,e⟩,_⟩:=rx;exact fin _ none e ry (.inr ⟨rfl,rfl,rfl⟩)
  ·obtain⟨_,_,_,e,_⟩:=rx;exact fin _ none e ry (.inr ⟨rfl,rfl,rfl⟩)
 ·rename_i k e hu
  have fin: ∀(o1 o2:Option Nat),v= .map o1→u= .map o2→((o1=none∧b=o2.isNone)∨(o2=none∧o1.isSome=true∧b=false))→
    (∀op,(eqGuard op t p q v u).run P w= .ok () w)∧ ∀op,(op= .eql→(Go.binOp op t v u).run P w= .ok (.bool b) w)∧(op= .neq→(Go.binOp op t v u).run P w= .ok (.bool (!b)) w):=by
   rintro o1 o2 rfl rfl hh
   refine⟨Ni p q w (fun l e=>by cases e) (.inl fun e=>by cases e),fun op=>FE ?_ (.inr (.inr (.inr (.inl ⟨_,_,rfl,rfl⟩))))⟩
   exact wA 9999 hu hh w
  unfold bF at h
  split at h<;>first|contradiction|(simp only[Option.some.injEq]at h;subst h)
  ·exact fin none none rx ry (.inl ⟨rfl,rfl⟩)
  ·exact fin none _ rx ry.2 (.inl ⟨rfl,rfl⟩)
  ·exact fin _ none rx.2 ry (.inr ⟨rfl,rfl,rfl⟩)
 ·rename_i x1 x2 x3 hu
  have fin:(Op.equalIn 10000 t v u).run P w= .ok b w→(v= .nilFunc∨u= .nilFunc)∧(∀k n,v≠ .int k n∧u≠ .int k n)→(∀l,v≠ .agg l)→v≠ .nilIface→
    (∀op,(eqGuard op t p q v u).run P w= .ok () w)∧ ∀op,(op= .eql→(Go.binOp op t v u).run P w= .ok (.bool b) w)∧(op= .neq→(Go.binOp op t v u).run P w= .ok (.bool (!b)) w):=
   fun h1 h2 h3 h4=>⟨Ni p q w h3 (.inl h4),fun op=>FE h1 (.inr (.inr (.inr (.inr (.inl h2)))))⟩
  unfold bF at h
  split at h<;>first|contradiction|(simp only[Option.some.injEq]at h;subst h)
  ·obtain rfl:=show v= .nilFunc from rx
   obtain rfl:=show u= .nilFunc from ry
   exact fin (wB 9999 hu w) ⟨.inl rfl,fun _ _=>⟨fun e=>(by cases e),fun e=>(by cases e)⟩⟩ (fun _ e=>by cases e) (fun e=>by cases e)
  ·obtain rfl:=show v= .nilFunc from rx
   obtain⟨_,_,rfl,_⟩:=ry
   exact fin (wC 9999 hu w) ⟨.inl rfl,fun _ _=>⟨fun e=>(by cases e),fun e=>(by cases e)⟩⟩ (fun _ e=>by cases e) (fun e=>by cases e)
  ·obtain rfl:=show u= .nilFunc from ry
   obtain⟨_,_,rfl,_⟩:=rx
   exact fin (wD 9999 hu w) ⟨.inr rfl,fun _ _=>⟨fun e=>(by cases e),fun e=>(by cases e)⟩⟩ (fun _ e=>by cases e) (fun e=>by cases e)
 ·rename_i x1 hu
  have fin:(Op.equalIn 10000 t v u).run P w= .ok b w→(v= .nilIface∨u= .nilIface)∧(∀k n,v≠ .int k n∧u≠ .int k n)→(∀l,v≠ .agg l)→(v≠ .nilIface∨u≠ .nilIface)→
    (∀op,(eqGuard op t p q v u).run P w= .ok () w)∧ ∀op,(op= .eql→(Go.binOp op t v u).run P w= .ok (.bool b) w)∧(op= .neq→(Go.binOp op t v u).run P w= .ok (.bool (!b)) w):=
   fun h1 h2 h3 h4=>⟨Ni p q w h3 h4,fun op=>FE h1 (.inr (.inr (.inr (.inr (.inr (.inl h2))))))⟩
  unfold bF at h
  split at h<;>first|contradiction|(simp only[Option.some.injEq]at h;subst h)
  ·obtain rfl:=show v= .nilIface from rx
   obtain⟨_,_,rfl,_⟩:=ry
   exact fin (eqIn_ni 9999 hu w) ⟨.inl rfl,fun _ _=>⟨fun e=>(by cases e),fun e=>(by cases e)⟩⟩ (fun _ e=>by cases e) (.inr fun e=>by cases e)
  ·obtain rfl:=show u= .nilIface from ry
   obtain⟨_,_,rfl,_⟩:=rx
   exact fin (nR 9999 hu w) ⟨.inr rfl,fun _ _=>⟨fun e=>(by cases e),fun e=>(by cases e)⟩⟩ (fun _ e=>by cases e) (.inl fun e=>by cases e)
 ·rename_i x1 hu
  have fin: ∀(o1 o2:Option Addr) (l c l' c':Nat),v= .slice o1 l c→u= .slice o2 l' c'→((o1=none∧b=o2.isNone)∨(o2=none∧o1.isSome=true∧b=false))→
    (∀op,(eqGuard op t p q v u).run P w= .ok () w)∧ ∀op,(op= .eql→(Go.binOp op t v u).run P w= .ok (.bool b) w)∧(op= .neq→(Go.binOp op t v u).run P w= .ok (.bool (!b)) w):=by
   rintro o1 o2 l c l' c' rfl rfl hh
   refine⟨Ni p q w (fun l e=>by cases e) (.inl fun e=>by cases e),fun op=>FE ?_ (.inr (.inr (.inr (.inr (.inr (.inr ⟨_,_,_,_,_,_,rfl,rfl⟩))))))⟩
   exact eqIn_sl 9999 hu hh w
  have some_sl: ∀{sz els y},Gc C (.sl sz els) y→ ∃o l c,y= .slice (some o) l c:=by
   intro sz els y r
   rcases r with ⟨_,_,_,_,e,_⟩|⟨_,_,_,e⟩<;>exact⟨_,_,_,e⟩
  have some_or: ∀{id n lo len y},Gc C (.orow id n lo len) y→ ∃o l c,y= .slice (some o) l c:=by
   intro id n lo len y r
   obtain⟨⟨_,_,e⟩,_⟩:=r
   exact⟨_,_,_,e⟩
  have some_oc: ∀{id n lo len y},Gc C (.ocel id n lo len) y→ ∃o l c,y= .slice (some o) l c:=by
   intro id n lo len y r
   obtain⟨_,_,_,e,_⟩:=r
   exact⟨_,_,_,e⟩
  unfold bF at h
  split at h<;>first|contradiction|(simp only[Option.some.injEq]at h;subst h)
  ·exact fin none none _ _ _ _ rx ry (.inl ⟨rfl,rfl⟩)
  ·obtain⟨o,l,c,e⟩:=some_sl rx;exact fin _ none _ _ _ _ e ry (.inr ⟨rfl,rfl,rfl⟩)
  ·obtain⟨o,l,c,e⟩:=some_or rx;exact fin _ none _ _ _ _ e ry (.inr ⟨rfl,rfl,rfl⟩)
  ·obtain⟨o,l,c,e⟩:=some_oc rx;exact fin _ none _ _ _ _ e ry (.inr ⟨rfl,rfl,rfl⟩)
  ·obtain⟨o,l,c,e⟩:=some_sl ry;exact fin none _ _ _ _ _ rx e (.inl ⟨rfl,rfl⟩)
  ·obtain⟨o,l,c,e⟩:=some_or ry;exact fin none _ _ _ _ _ rx e (.inl ⟨rfl,rfl⟩)
  ·obtain⟨o,l,c,e⟩:=some_oc ry;exact fin none _ _ _ _ _ rx e (.inl ⟨rfl,rfl⟩)
 ·cases hk
theorem sim_eq(I:Inv tb C)(F:By C f a nt){o:Oper}{op:BinOp}{t u:TypeId}{ek:EK}{neg:Bool}{x1 x2:AO}{y1 y2:Operand}(ho:o.op= .binOp op t y1 y2 u)(hop:op=if neg then .neq else .eql)(hk:zV P ek t=true)
  (h1:Bk x1 y1=true) (h2:Bk x2 y2=true) {b:Bool} (h:bF ek (eval tb f x1) (eval tb f x2)=some b):Yields tb C (.b (if neg then !b else b),none) ((execOp a.eval o).run P C.w):=by
 obtain⟨q1,q2⟩:=qT hk h (AJ I F h1) (AJ I F h2) y1 y2 C.w
 cases neg with
 |true=>
  simp only[if_true]at hop
  refine Az I (v:= .bool (!b)) ?_ rfl
  simp only[execOp,ho,Sem.run_bind,q1 op,Result.andThen_ok,(q2 op).2 hop,Sem.run_pure]
 |false=>
  simp only[Bool.false_eq_true,if_false]at hop
  refine Az I (v:= .bool b) ?_ rfl
  simp only[execOp,ho,Sem.run_bind,q1 op,Result.andThen_ok,(q2 op).1 hop,Sem.run_pure]
end
end Go.Proofs.YtobejhpigbllpaaGreatDoor.Am
namespace Go.Proofs.YtobejhpigbllpaaGreatDoor.Am
section
variable{cl:Nat→List AV→Ax→Lb}{P:Program}{tb:Dg}{C:D4}{f:Fr}{a:Act}{nt:Nat}
theorem RY: ∀(l:List Value) (off k:Nat) (cs:Array Value),off+k+l.length≤cs.size→
  ((l.zipIdx k).foldl (fun cs (p:Value×Nat)=>cs.setIfInBounds (off+p.2) p.1) cs).toList=cs.toList.take (off+k)++l++cs.toList.drop (off+k+l.length)
 |[],off,k,cs,_=>by simp
 |v::l,off,k,cs,h=>by
  simp only[List.length_cons]at h
  rw[List.zipIdx_cons,List.foldl_cons]
  rw[RY l off (k+1) _ (by simp only[Array.size_setIfInBounds];omega)]
  simp only[Array.toList_setIfInBounds]
  have hlt:off+k<cs.toList.length:=by simp only[Array.length_toList];omega
  rw[←Nat.add_assoc,List.take_set,List.drop_set_of_lt (by omega)]
  have ht:(cs.toList.take (off+k+1)).set (off+k) v=cs.toList.take (off+k)++[v]:=by
   rw[List.take_succ_eq_append_getElem hlt,List.set_append_right _ _ (by simp only[List.length_take];omega)]
   simp only[List.length_take]
   rw[show off+k-min (off+k) cs.toList.length=0 by omega]
   rfl
  rw[ht]
  simp only[List.length_cons]
  rw[show off+k+1+l.length=off+k+(l.length+1) by omega]
  simp
def Lg(place:Nat→Option (Nat×Nat)):List (Nat×Nat×AO)→List (Nat×Operand)→Bool
 |[],[]=>true
 |(off,n,x)::r,(i,y)::q=>(match place i with
  |some (off',n')=>Nat.beq off off'&&Nat.beq n n'
  |none=>false)&&Nat.blt 0 n&&Bk x y&&Lg place r q
 |_,_=>false
theorem ZT{place:Nat→Option (Nat×Nat)}{off n i:Nat}{x:AO}{y:Operand}{r:List (Nat×Nat×AO)}{q:List (Nat×Operand)}(h:Lg place ((off,n,x)::r) ((i,y)::q)=true):
  place i=some (off,n)∧0<n∧Bk x y=true∧Lg place r q=true:=by
 simp only[Lg,Bool.and_eq_true]at h
 obtain⟨⟨⟨h1,h2⟩,h3⟩,h4⟩:=h
 refine⟨?_,by simpa using h2,h3,h4⟩
 split at h1
 ·rename_i o' n' hp
  simp only[Bool.and_eq_true,Nat.beq_eq]at h1
  rw[hp,h1.1,h1.2]
 ·cases h1
theorem YT{place:Nat→Option (Nat×Nat)}{cells:Array Value}{i off n:Nat}{v:Value}{rest:List (Nat×Value)}(hp:place i=some (off,n))(hn:v.cells.size=n)(hle:off+n≤cells.size):
  ∃cells':Array Value,Instr.fill place cells ((i,v)::rest)=Instr.fill place cells' rest∧cells'.toList=cells.toList.take off++v.cells.toList++cells.toList.drop (off+v.cells.toList.length):=by
 refine⟨v.cells.zipIdx.foldl (fun cs (c,j)=>cs.setIfInBounds (off+j) c) cells,?_,?_⟩
 ·simp only[Instr.fill,hp]
  rw[if_neg]
  simp
  omega
 ·rw[←Array.foldl_toList,Array.toList_zipIdx]
  have:=RY v.cells.toList off 0 cells (by simp;omega)
  simpa using this
theorem fV(I:Inv tb C)(F:By C f a nt){place:Nat→Option (Nat×Nat)}: ∀(ps:List (Nat×Nat×AO)) (ys:List (Nat×Operand)),Lg place ps ys=true→ ∀{cs cs':List AV} {cells:Array Value},Bg C cs cells.toList→cs.all scal=true→
  LN cs (eval tb f) ps=some cs'→ ∃cells',Instr.fill place cells (ys.map fun(i,y)=>(i,a.eval y))=some cells'∧Bg C cs' cells'.toList∧cs'.all scal=true
 |[],[],_,cs,cs',cells,hr,hs,h=>by
  simp only[LN,Option.some.injEq]at h
  subst h
  exact⟨cells,rfl,hr,hs⟩
 |[],_::_,h,_,_,_,_,_,_=>by simp[Lg]at h
 |(_,_,_)::_,[],h,_,_,_,_,_,_=>by simp[Lg]at h
 |(off,n,x)::ps,(i,y)::ys,hok,cs,cs',cells,hr,hs,h=>by
  obtain⟨h1,h2,h3,h4⟩:=ZT hok
  simp only[LN]at h
  split at h
  ·rename_i hc
   obtain⟨hn,hle⟩:=hc
   obtain⟨c1,c2⟩:=No (AJ I F h3) (by omega)
   have hsz:(a.eval y).cells.size=n:=by have:=c1.length;rw[hn]at this;simpa using this
   have hcl:cells.size=cs.length:=by have:=hr.length;simpa using this
   obtain⟨cells1,e1,e2⟩:=YT (rest:=ys.map fun(i,y)=>(i,a.eval y)) h1 hsz (by omega:off+n≤cells.size)
   obtain⟨cells2,e3,e4,e5⟩:=fV I F ps ys h4 (cells:=cells1) (by rw[e2];exact Nx hr c1) (Me hs c2) h
   exact⟨cells2,by rw[List.map_cons,e1,e3],e4,e5⟩
  ·cases h
def zJ(P:Program)(t:TypeId):Option (Nat→Option (Nat×Nat)):=
 match P.underlying t with
 |some (.array _ e)=>if(P.info? e).isSome then some fun i=>some (i*P.cellsOf e,P.cellsOf e)else none
 |some (.struct fields)=>if fields.toList.all fun f=>(P.info? f.type).isSome then some fun i=>match fields[i]? with
  |some f=>some (f.offset,P.cellsOf f.type)
  |none=>none
  else none
 |_=>none
theorem YB: ∀(fs:List Field),fs.all (fun f=>(P.info? f.type).isSome)=true→fs.mapM (fun f=>(P.info? f.type).map fun i=>(f.offset,i.size))=some (fs.map fun f=>(f.offset,P.cellsOf f.type))
 |[],_=>by simp
 |f::fs,h=>by
  simp only[List.all_cons,Bool.and_eq_true]at h
  obtain⟨i,hi⟩:=Option.isSome_iff_exists.1 h.1
  rw[List.mapM_cons,YB fs h.2]
  simp[hi,Program.cellsOf]
theorem wQ{t:TypeId}{place:Nat→Option (Nat×Nat)}{it:TypeInfo}{z:Value}(h:zJ P t=some place)(hi:P.info? t=some it)(hz:it.zero=some z)(parts:List (Nat×Value)):P.built t parts=Instr.fill place z.cells parts:=by
 unfold zJ at h
 unfold Program.built
 split at h
 ·rename_i n e hu
  split at h
  ·rename_i hs
   obtain⟨ie,he⟩:=Option.isSome_iff_exists.1 hs
   obtain rfl:=Option.some.inj h
   simp only[hi,hu,hz,he,Program.cellsOf]
   simp
  ·cases h
 ·rename_i fs hu
  split at h
  ·rename_i hs
   obtain rfl:=Option.some.inj h
   simp only[hi,hu,hz,YB fs.toList hs]
   congr 1
   funext i
   simp only[List.getElem?_toArray,List.getElem?_map,Array.getElem?_toList]
   cases fs[i]? <;>rfl
  ·cases h
 ·cases h
theorem zC(I:Inv tb C)(F:By C f a nt){o:Oper}{t:TypeId}{zero:List AV}{ps:List (Nat×Nat×AO)}{ys:Array (Nat×Operand)}(ho:o.op= .build t ys){place:Nat→Option (Nat×Nat)}{it:TypeInfo}{z:Value}(h:zJ P t=some place)
  (hi:P.info? t=some it) (hz:it.zero=some z) (hzs:NJ zero z.cells.toList=true) (hp:Lg place ps ys.toList=true) {cs:List AV} (hv:LN zero (eval tb f) ps=some cs):Yields tb C (.agg cs,none) ((execOp a.eval o).run P C.w):=by
 obtain⟨r1,r2⟩:=LL (C:=C) hzs
 obtain⟨cells,e1,e2,e3⟩:=fV I F ps ys.toList hp r1 r2 hv
 refine Az I (v:= .agg cells) ?_ ⟨cells.toList,by simp,e3,e2⟩
 have hb:P.built t (ys.map fun(i,x)=>(i,a.eval x)).toList=some cells:=by
  rw[wQ h hi hz,Array.toList_map]
  exact e1
 simp only[execOp,ho,Sem.run_bind,run_build C.w t _ cells hb,Result.andThen_ok,Sem.run_pure]
theorem TY{α:Type}{sz:Nat}(new:List α)(hn:new.length=sz): ∀(l:List (List α)) (i:Nat),(∀y∈l,y.length=sz)→i<l.length→
  (l.set i new).flatten=l.flatten.take (i*sz)++new++l.flatten.drop (i*sz+new.length)
 |[],_,_,h=>by simp at h
 |y::l,0,hy,_=>by
  have hyl:=hy y List.mem_cons_self
  simp only[List.set_cons_zero,List.flatten_cons,Nat.zero_mul,Nat.zero_add,List.take_zero,List.nil_append]
  rw[List.drop_append,List.drop_of_length_le (by omega),show new.length-y.length=0 by omega]
  simp
 |y::l,i+1,hy,h=>by
  have hyl:=hy y List.mem_cons_self
  simp only[List.set_cons_succ,List.flatten_cons]
  rw[TY new hn l i (fun z hz=>hy z (List.mem_cons_of_mem _ hz)) (by simpa using h)]
  rw[Nat.succ_mul,List.take_append,List.take_of_length_le (l:=y) (by omega),List.drop_append,List.drop_of_length_le (l:=y) (by omega),List.nil_append]
  rw[show i*sz+sz-y.length=i*sz by omega,show i*sz+sz+new.length-y.length=i*sz+new.length by omega]
  simp
def Lh(sz:Nat):List (Nat×AO)→List (Nat×Operand)→Bool
 |[],[]=>true
 |(i,x)::r,(j,y)::q=>i==j&&Bk x y&&Lh sz r q
 |_,_=>false
theorem YU(I:Inv tb C)(F:By C f a nt){sz:Nat}(hsz:0<sz): ∀(ps:List (Nat×AO)) (ys:List (Nat×Operand)),Lh sz ps ys=true→ ∀{els els':List (List AV)} {vss:List (List Value)} {cells:Array Value},AY C els vss→
  (∀e∈els,e.length=sz∧e.all scal=true)→cells.toList=vss.flatten→KG els sz (eval tb f) ps=some els'→
  ∃cells' vss',Instr.fill (fun i=>some (i*sz,sz)) cells (ys.map fun(i,y)=>(i,a.eval y))=some cells'∧AY C els' vss'∧(∀e∈els',e.length=sz∧e.all scal=true)∧cells'.toList=vss'.flatten∧els'.length=els.length
 |[],[],_,els,els',vss,cells,hr,hs,hc,h=>by
  simp only[KG,Option.some.injEq]at h
  subst h
  exact⟨cells,vss,rfl,hr,hs,hc,rfl⟩
 |[],_::_,h,_,_,_,_,_,_,_,_=>by simp[Lh]at h
 |(_,_)::_,[],h,_,_,_,_,_,_,_,_=>by simp[Lh]at h
 |(i,x)::ps,(j,y)::ys,hok,els,els',vss,cells,hr,hs,hc,h=>by
  simp only[Lh,Bool.and_eq_true,beq_iff_eq]at hok
  obtain⟨⟨rfl,h3⟩,h4⟩:=hok
  simp only[KG]at h
  split at h
  ·rename_i hcc
   obtain⟨hn,hi⟩:=hcc
   obtain⟨c1,c2⟩:=No (AJ I F h3) (by omega)
   have hvl:(a.eval y).cells.toList.length=sz:=by rw[c1.length,hn]
   have hlens:=AY.lens (fun x hx=>(hs x hx).1) hr
   have hcl:cells.size=els.length*sz:=by
    rw[←Array.length_toList,hc,Fa _ hlens,hr.length]
   have hle:i*sz+sz≤cells.size:=by
    rw[hcl,←Nat.succ_mul]
    exact Nat.mul_le_mul_right _ hi
   obtain⟨cells1,e1,e2⟩:=YT (place:=fun i=>some (i*sz,sz)) (rest:=ys.map fun(i,y)=>(i,a.eval y)) rfl (by simpa using hvl) hle
   obtain⟨cells2,vss2,e3,e4,e5,e6,e7⟩:=YU I F hsz ps ys h4 (cells:=cells1) (AY.set (i:=i) c1 hr) (fun e he=>by
    rcases List.mem_or_eq_of_mem_set he with he|he
    ·exact hs e he
    ·subst he;exact⟨hn,c2⟩) (by rw[e2,hc,TY _ hvl _ _ hlens (by rw[hr.length];exact hi)]) h
   exact⟨cells2,vss2,by rw[List.map_cons,e1,e3],e4,e5,e6,by rw[e7];simp⟩
  ·cases h
theorem Q9(z:Array Value)(n:Nat):((Array.range (n*z.size)).map (z[· %z.size]!)).toList=(List.replicate n z.toList).flatten:=by
 apply List.ext_getElem
 ·simp[List.length_flatten]
 ·intro i h1 h2
  have hi:i<n*z.size:=by simpa using h1
  have hpos:0<z.size:=by
   rcases Nat.eq_zero_or_pos z.size with h|h
   ·rw[h]at hi;simp at hi
   ·exact h
  have hmod:i%z.size<z.size:=Nat.mod_lt _ hpos
  have key: ∀(n i:Nat),i<n*z.size→(List.replicate n z.toList).flatten[i]? =z.toList[i%z.size]? :=by
   intro n
   induction n with
   |zero=>intro i h;simp at h
   |succ n ih=>
    intro i h
    rw[List.replicate_succ,List.flatten_cons]
    rcases Nat.lt_or_ge i z.size with hlt|hge
    ·rw[List.getElem?_append_left (by simpa using hlt),Nat.mod_eq_of_lt hlt]
    ·rw[List.getElem?_append_right (by simpa using hge)]
     simp only[Array.length_toList]
     rw[ih (i-z.size) (by rw[Nat.succ_mul]at h;omega),←Nat.mod_eq_sub_mod hge]
  have:=key n i hi
  rw[List.getElem?_eq_getElem h2]at this
  simp only[Array.toList_map,Array.toList_range,List.getElem_map,List.getElem_range]
  rw[getElem!_pos z (i%z.size) hmod]
  have h3:z.toList[i%z.size]? =some z[i%z.size]:=by simp[hmod]
  rw[h3]at this
  exact(Option.some.inj this).symm
theorem oG(I:Inv tb C)(F:By C f a nt){o:Oper}{t e:TypeId}{len:Nat}{zero:List (List AV)}{ps:List (Nat×AO)}{ys:Array (Nat×Operand)}(ho:o.op= .buildSlice t len ys)(hu:P.underlying t=some (.slice e)){i:TypeInfo}{z:Value}
  (hi:P.info? e=some i) (hz:i.zero=some z) (hzz:z.cells.size=P.cellsOf e) (hz0:0<P.cellsOf e) (hb:len*P.cellsOf e≤2^24) (hl:zero.length=len) (hzs:zero.all (NJ · z.cells.toList)=true) (hp:Lh (P.cellsOf e) ps ys.toList=true)
  {els:List (List AV)} (hv:KG zero (P.cellsOf e) (eval tb f) ps=some els): ∃(cells:Array Value) (vss:List (List Value)),AY C els vss∧(∀x∈els,x.length=P.cellsOf e∧x.all scal=true)∧
   cells.toList=vss.flatten∧els.length*P.cellsOf e≤cells.size∧(execOp a.eval o).run P C.w= .ok (.value (.slice (some ⟨C.w.heap.size,0,none⟩) els.length els.length)) (C.w.alloc (.cells cells e)):=by
 have hinfo:(P.info? e).isSome=true:=by rw[hi];rfl
 have hcells:P.cellsOf e=i.size:=by simp[Program.cellsOf,hi]
 have hz1: ∀l:List (List AV),l.all (NJ · z.cells.toList)=true→AY C l (List.replicate l.length z.cells.toList)∧ ∀e'∈l,e'.length=P.cellsOf e∧e'.all scal=true:=by
  intro l
  induction l with
  |nil=>intro _;exact⟨rfl,fun e he=>by cases he⟩
  |cons x l ih=>
   intro h
   simp only[List.all_cons,Bool.and_eq_true]at h
   obtain⟨r1,r2⟩:=LL (C:=C) h.1
   obtain⟨q1,q2⟩:=ih h.2
   refine⟨⟨_,_,by rw[List.length_cons,List.replicate_succ],r1,q1⟩,fun e' he=> ?_⟩
   rcases List.mem_cons.1 he with rfl|he
   ·exact⟨by rw[←r1.length];simpa using hzz,r2⟩
   ·exact q2 e' he
 obtain⟨q1,q2⟩:=hz1 zero hzs
 have hc:((Array.range (len*P.cellsOf e)).map (fun j=>(if len*P.cellsOf e=0 then(#[]:Array Value)else z.cells)[j%(if len*P.cellsOf e=0 then(#[]:Array Value)else z.cells).size]!)).toList=(List.replicate zero.length z.cells.toList).flatten:=by
  by_cases h0:len*P.cellsOf e=0
  ·have hl0:len=0:=by
    rcases Nat.mul_eq_zero.1 h0 with h|h
    ·exact h
    ·omega
   rw[hl,hl0]
   simp
  ·simp only[if_neg h0]
   rw[hl,←hzz]
   exact Q9 z.cells len
 obtain⟨cells,vss,e1,e2,e3,e4,e5⟩:=YU I F hz0 ps ys.toList hp q1 q2 hc hv
 have hel:els.length=len:=by rw[e5,hl]
 have hsize:cells.size=els.length*P.cellsOf e:=by
  rw[←Array.length_toList,e4,Fa _ (AY.lens (fun x hx=>(e3 x hx).1) e2),e2.length]
 refine⟨cells,vss,e2,e3,e4,by omega,?_⟩
 ·have hnb: ¬(len*P.cellsOf e>2^24):=by omega
  have e1':Instr.fill (fun i=>some (i*P.cellsOf e,P.cellsOf e)) ((Array.range (len*P.cellsOf e)).map (fun j=>(if len*P.cellsOf e=0 then(#[]:Array Value)else z.cells)[j%(if len*P.cellsOf e=0 then(#[]:Array Value)else z.cells).size]!))
    (ys.map fun x=>(x.fst,a.eval x.snd)).toList=some cells:=by
   rw[Array.toList_map];exact e1
  by_cases h0:len*P.cellsOf e=0
  ·simp only[if_pos h0]at e1'
   simp only[execOp,ho,Instr.buildSlice,Sem.run_bind,Av hu,Result.andThen_ok,BX hinfo,if_neg hnb,Sem.run_pure,if_pos h0,e1',newRow,run_newObj,hel]
   rfl
  ·simp only[if_neg h0]at e1'
   simp only[execOp,ho,Instr.buildSlice,Sem.run_bind,Av hu,Result.andThen_ok,BX hinfo,if_neg hnb,Sem.run_pure,if_neg h0,zeroValue,Hi hi,hz,e1',newRow,run_newObj,hel]
   rfl
theorem yZ(I:Inv tb C)(F:By C f a nt){o:Oper}{t e:TypeId}{len:Nat}{zero:List (List AV)}{ps:List (Nat×AO)}{ys:Array (Nat×Operand)}(ho:o.op= .buildSlice t len ys)(hu:P.underlying t=some (.slice e)){i:TypeInfo}{z:Value}
  (hi:P.info? e=some i) (hz:i.zero=some z) (hzz:z.cells.size=P.cellsOf e) (hz0:0<P.cellsOf e) (hb:len*P.cellsOf e≤2^24) (hl:zero.length=len) (hzs:zero.all (NJ · z.cells.toList)=true) (hp:Lh (P.cellsOf e) ps ys.toList=true)
  {els:List (List AV)} (hv:KG zero (P.cellsOf e) (eval tb f) ps=some els):Yields tb C (.orow C.H.length els.length 0 els.length,some (C.H++[BW.row (some e) false (P.cellsOf e) els])) ((execOp a.eval o).run P C.w):=by
 obtain⟨cells,vss,e2,e3,e4,e5,e6⟩:=oG I F ho hu hi hz hzz hz0 hb hl hzs hp hv
 refine QA (e:=e) (w:=C.w) (arr:=cells) (K:=els.length) I ⟨rfl,rfl,rfl⟩ rfl hz0 e3 e2 (fun j v hj=> ?_) (Nat.le_refl _) e5 e6
 rw[←e4]at hj;simpa using hj
theorem zB(I:Inv tb C)(F:By C f a nt){o:Oper}{t e:TypeId}{len:Nat}{zero:List (List AV)}{ps:List (Nat×AO)}{ys:Array (Nat×Operand)}(ho:o.op= .buildSlice t len ys)(hu:P.underlying t=some (.slice e)){i:TypeInfo}{z:Value}
  (hi:P.info? e=some i) (hz:i.zero=some z) (hzz:z.cells.size=P.cellsOf e) (hz0:0<P.cellsOf e) (hb:len*P.cellsOf e≤2^24) (hl:zero.length=len) (hzs:zero.all (NJ · z.cells.toList)=true) (hp:Lh (P.cellsOf e) ps ys.toList=true)
  {els:List (List AV)} (hv:KG zero (P.cellsOf e) (eval tb f) ps=some els):Yields tb C (.sl (P.cellsOf e) els,none) ((execOp a.eval o).run P C.w):=by
 obtain⟨cells,vss,e2,e3,e4,e5,e6⟩:=oG I F ho hu hi hz hzz hz0 hb hl hzs hp hv
 obtain⟨X,ID⟩:=grown (w:=C.w.alloc (.cells cells e)) I ⟨rfl,rfl,rfl⟩ (by rw[GU];omega) fun b hb=>alloc_old _ _ hb
 refine⟨_,X,ID,rfl, .inl ⟨_,e6, .inl ⟨C.w.heap.size,0,els.length,vss,rfl,Nat.le_refl _,by rw[GU];omega,?_,fun j v hj=> ?_,e3,AY.ext X e2⟩⟩⟩
 ·rintro⟨id,hid,e'⟩
  have:=I.lt id hid
  simp only at e'
  omega
 ·have hn:(C.w.alloc (.cells cells e)).heap[C.w.heap.size]? =some (.cells cells e):=Ij _ _
  simp only[World.cell?,hn,Nat.zero_add]
  rw[←e4]at hj
  simpa using hj
theorem xZ(I:Inv tb C)(F:By C f a nt){o:Oper}{t e:TypeId}{n:Nat}{x:AO}{y:Operand}(ho:o.op= .sliceToArrayPointer t y)(hu:P.underlying t=some (.array n e))(hn:0<n)(hx:Bk x y=true){r:AV×Option Ax}
  (h:val (Uu n (P.cellsOf e) (eval tb f x))=some r):Yields tb C r ((execOp a.eval o).run P C.w):=by
 have hr:=AJ I F hx
 have run: ∀{p:Option Addr} {len cap:Nat},a.eval y= .slice p len cap→n≤len→(execOp a.eval o).run P C.w= .ok (.value (.pointer p)) C.w:=by
  intro p len cap he hle
  simp only[execOp,ho,he,Instr.arrayAt,Sem.run_bind,Av hu,Result.andThen_ok,if_neg (show¬len<n by omega),Sem.run_pure]
 generalize eval tb f x=v at*
 cases v<;>simp only[Uu,val,Option.map_none,reduceCtorEq]at h
 case ocel sz id off len=>
  split at h
  ·rename_i hc
   simp only[Option.map_some,Option.some.injEq]at h
   subst h
   obtain⟨hobj,o',cap,e',hlc,hoff,hsz⟩:=hr
   refine Az I (run e' hc.2) ⟨hobj,?_⟩
   rw[hoff (by omega)]
  ·simp at h
 case orow id k lo len=>
  split at h
  ·rename_i hc
   simp only[Option.map_some,Option.some.injEq]at h
   subst h
   obtain⟨⟨p,c,e'⟩,fz,sz,els,hg,hl,hk⟩:=hr
   by_cases hkn:k=els.length
   ·obtain⟨hle,off,cap,e'',hlc,hoff,_⟩:=hk hkn
    refine Az I (run e'' hc.1) ⟨⟨_,rfl⟩,fz,sz,els,hg,hl,fun _=> ?_⟩
    rw[hoff (by omega)]
    rfl
   ·exact Az I (run e' hc.1) ⟨⟨_,rfl⟩,fz,sz,els,hg,hl,fun q=>absurd q hkn⟩
  ·simp at h
 case sl sz els=>
  split at h
  ·rename_i hc
   simp only[Option.map_some,Option.some.injEq]at h
   subst h
   rcases hr with ⟨b,base,cap,vss,e',hlc,hlt,hown,hh,hs,hrr⟩|⟨rfl,_⟩
   case inr=>have:=hc.2;simp at this;omega
   refine Az I (run e' hc.2) ⟨b,base,(vss.take n).flatten,by simp,hlt,hown,?_,L7 fun x hx=>(hs x (List.mem_of_mem_take hx)).2,AY.flat hrr.take⟩
   have hlens:=AY.lens (fun x hx=>(hs x hx).1) hrr
   rw[E0 _ _ hlens]
   have:=hh.sub 0 (n*sz)
   simpa using this
  ·simp at h
theorem mT(I:Inv tb C)(F:By C f a nt){o:Oper}{c:Call}{mx:Bool}{x1 x2:AO}{y1 y2:Operand}(ho:o.op= .call c)(hc:c.callee= .builtin (if mx then .max else .min))(ha:c.args= #[y1,y2])(h1:Bk x1 y1=true)(h2:Bk x2 y2=true)
  {k:IntKind} {p q:Int} (e1:eval tb f x1= .i k p) (e2:eval tb f x2= .i k q):Yields tb C (.i k (if mx then(if q>p then q else p)else(if q<p then q else p)),none) ((execOp a.eval o).run P C.w):=by
 have r1:=AJ I F h1
 have r2:=AJ I F h2
 rw[e1]at r1
 rw[e2]at r2
 have r1':a.eval y1= .int k p:=r1
 have r2':a.eval y2= .int k q:=r2
 refine Az I (v:= .int k (if mx then(if q>p then q else p)else(if q<p then q else p))) (Ec ho hc fun qs=> ?_) rfl
 cases mx
 ·simp only[ha,List.map_toArray,List.map_cons,List.map_nil,Bool.false_eq_true,if_false,builtin,Sem.run_bind,Builtin.min_,List.foldlM_cons,List.foldlM_nil,r1',r2',Builtin.min2]
  split<;>simp_all
 ·simp only[ha,List.map_toArray,List.map_cons,List.map_nil,if_true,builtin,Sem.run_bind,Builtin.max_,List.foldlM_cons,List.foldlM_nil,r1',r2',Builtin.max2]
  split<;>simp_all
end
end Go.Proofs.YtobejhpigbllpaaGreatDoor.Am
namespace Go.Proofs.YtobejhpigbllpaaGreatDoor.Am
section
variable{cl:Nat→List AV→Ax→Lb}{P:Program}{tb:Dg}{C:D4}{f:Fr}{a:Act}{nt:Nat}
def ZP:Value→Bool
 | .bool _=>true
 | .int _ _=>true
 | .string _=>true
 |_=>false
theorem TN{v:Value}(h:ZP v=true)(n:Nat):Instr.sameBits n v v=true:=by
 cases v<;>simp only[ZP,Bool.false_eq_true]at h<;>cases n<;>simp[Instr.sameBits,beq_toListBytes]
theorem gO{c:CK}{x y:AV}{v u:Value}(h:rP c x y=some true)(rx:Gc C x v)(ry:Gc C y u):v=u∧ZP v=true:=by
 rcases Vd h rx ry with ⟨p,q,_,rfl,rfl,e⟩|⟨k,p,q,_,rfl,rfl,e⟩|⟨p,q,_,rfl,rfl,e⟩
 all_goals
  have:=eq_of_beq e.symm
  subst this
  exact⟨rfl,rfl⟩
theorem gN: ∀{l:List CK} {x y:List AV} {cx cy:List Value},Nm l x y=some true→Bg C x cx→Bg C y cy→cx=cy∧cx.all ZP=true
 |[],[],[],_,_,_,rx,ry=>by
  simp only[Bg]at rx ry
  subst rx;subst ry
  exact⟨rfl,rfl⟩
 |[],[],_::_,_,_,h,_,_=>by simp[Nm]at h
 |[],_::_,_,_,_,h,_,_=>by simp[Nm]at h
 |_::_,[],_,_,_,h,_,_=>by simp[Nm]at h
 |_::_,_::_,[],_,_,h,_,_=>by simp[Nm]at h
 |c::l,v::x,u::y,_,_,h,⟨p,cx,e1,r1,r2⟩,⟨q,cy,e2,r3,r4⟩=>by
  subst e1;subst e2
  simp only[Nm]at h
  obtain⟨a,ha,h⟩:=Option.bind_eq_some_iff.1 h
  obtain⟨d,hd,h⟩:=Option.map_eq_some_iff.1 h
  simp only[Bool.and_eq_true]at h
  obtain⟨rfl,rfl⟩:=h
  obtain⟨rfl,h1⟩:=gO ha r1 r3
  obtain⟨rfl,h2⟩:=gN hd r2 r4
  exact⟨rfl,by simp[h1,h2]⟩
def Ml(P:Program)(ek:EK)(t:TypeId):Bool:=
 match ek,P.underlying t with
 | .one .b,some .bool=>true
 | .one (.i k),some (.int q)=>decide (k=q)
 | .one .s,some .string=>true
 | .agg l,some (.struct _)=>decide (UD P 50 t=some l)
 | .agg l,some (.array _ _)=>decide (UD P 50 t=some l)
 |_,_=>false
theorem QO{ek:EK}{t:TypeId}(h:Ml P ek t=true):(∃c,ek= .one c∧P.underlying t=some (ckT c))∨
  ∃l d,ek= .agg l∧Fi P t=true∧UD P 50 t=some l∧P.underlying t=some d∧ ∀v u,Instr.sameNow d v u=none:=by
 unfold Ml at h
 split at h
 ·rename_i hu;exact .inl ⟨.b,rfl,hu⟩
 ·rename_i k q hu
  have:k=q:=by simpa using h
  subst this
  exact .inl ⟨.i k,rfl,hu⟩
 ·rename_i hu;exact .inl ⟨.s,rfl,hu⟩
 ·rename_i l fs hu
  exact .inr ⟨l,_,rfl,by simp only[Fi,hu],by simpa using h,hu,fun v u=>by simp[Instr.sameNow]⟩
 ·rename_i l n e hu
  exact .inr ⟨l,_,rfl,by simp only[Fi,hu],by simpa using h,hu,fun v u=>by simp[Instr.sameNow]⟩
 ·cases h
def xN(P:Program)(em:Bool)(dd:Nat)(t:TypeId)(l:List CK):Prop:=
 ∀(cx:List Value) (x:Value) (w:World),cx.length=l.length→Xw P t cx x→(Instr.checkKey em dd t x).run P w= .ok () w
theorem Mv(em:Bool)(d:Nat){c:CK}{t:TypeId}(hu:P.underlying t=some (ckT c))(x:Value)(w:World):(Instr.checkKey em (d+1) t x).run P w= .ok () w:=by
 rw[Instr.checkKey]
 simp only[Sem.run_bind,Av hu,Result.andThen_ok]
 cases c<;>cases x<;>simp[ckT]
theorem Pw(em:Bool)(k:Nat): ∀(d:Nat) (t:TypeId) (l:List CK),UD P d t=some l→xN P em (k+d) t l
 |0,_,_,h=>by simp[UD]at h
 |d+1,t,l,h=>by
  intro cx x w hl ix
  simp only[UD]at h
  split at h
  ·rename_i hu;exact Mv em (k+d) (c:= .b) hu x w
  ·rename_i q hu;exact Mv em (k+d) (c:= .i q) hu x w
  ·rename_i hu;exact Mv em (k+d) (c:= .s) hu x w
  ·rename_i fs hu
   split at h
   ·cases h
   ·have hag:Fi P t=true:=by simp only[Fi,hu]
    simp only[Xw,hag,if_true]at ix
    subst ix
    rw[show k+(d+1)=(k+d)+1 from rfl,Instr.checkKey]
    simp only[Sem.run_bind,Av hu,Result.andThen_ok]
    rw[←Array.forIn_toList]
    have key: ∀(L:List Field) (pos:Nat) (m:List CK),iY P (UD P d) pos L=some m→pos+m.length≤cx.length→
      (forIn L PUnit.unit fun f (_:PUnit)=>(do
       if f.name≠ "_" then Instr.checkKey em (k+d) f.type (←part f.type cx.toArray f.offset)
       pure (ForInStep.yield PUnit.unit):Sem (ForInStep PUnit))).run P w= .ok PUnit.unit w:=by
     intro L
     induction L with
     |nil=>intro _ _ _ _;simp
     |cons f L ih=>
      intro pos m hm hle
      simp only[iY]at hm
      obtain⟨m1,hm1,hm⟩:=Option.bind_eq_some_iff.1 hm
      split at hm
      ·rename_i hc
       obtain⟨hoff,hname,hcells⟩:=hc
       obtain⟨r,hr,rfl⟩:=Option.map_eq_some_iff.1 hm
       rw[List.length_append]at hle
       obtain⟨v,hv,iv⟩:=K2 (P:=P) hm1 hcells (cs:=cx) (off:=f.offset) (by omega) w
       have hck:=Pw em k d f.type m1 hm1 _ v w (by simp only[List.length_take,List.length_drop];omega) iv
       simp only[List.forIn_cons,Sem.run_bind,hname,ne_eq,not_false_eq_true,if_true,Result.andThen_ok,hv,hck,Sem.run_pure]
       exact ih _ r hr (by omega)
      ·cases hm
    have:=key fs.toList 0 l h (by omega)
    simp only[ne_eq,ite_not]at this ⊢
    simp at this ⊢
    rw[this]
    rfl
  ·rename_i n el hu
   obtain⟨m,hm,h⟩:=Option.bind_eq_some_iff.1 h
   split at h
   ·rename_i hc
    obtain rfl:=Option.some.inj h
    have hag:Fi P t=true:=by simp only[Fi,hu]
    simp only[Xw,hag,if_true]at ix
    subst ix
    obtain⟨i,hi⟩: ∃i,P.info? el=some i:=by
     obtain⟨dd,hd⟩:=Option.isSome_iff_exists.1 (MW hm)
     exact Option.isSome_iff_exists.1 (info_of_underlying hd)
    rw[show k+(d+1)=(k+d)+1 from rfl,Instr.checkKey]
    simp only[Sem.run_bind,Av hu,Result.andThen_ok]
    simp only[Std.Legacy.Range.forIn_eq_forIn_range',Std.Legacy.Range.size,Nat.sub_zero,Nat.add_one_sub_one,Nat.div_one]
    have hlen:(List.replicate n m).flatten.length=n*m.length:=by simp[List.length_flatten]
    rw[hlen]at hl
    have each: ∀j∈List.range' 0 n,j<n:=fun j hj=>by simpa using hj
    generalize List.range' 0 n=is at each
    induction is with
    |nil=>simp
    |cons j is ih=>
     have hj:=each j (by simp)
     have hmul:(j+1)*m.length≤n*m.length:=Nat.mul_le_mul_right _ hj
     rw[Nat.succ_mul]at hmul
     obtain⟨v,hv,iv⟩:=K2 (P:=P) hm hc (cs:=cx) (off:=j*P.cellsOf el) (by rw[←hc];omega) w
     have hck:=Pw em k d el m hm _ v w (by simp only[List.length_take,List.length_drop];rw[←hc];omega) iv
     have hsz:(sizeOf el).run P w= .ok (P.cellsOf el) w:=BX (by rw[hi];rfl) w
     simp only[List.forIn_cons,Sem.run_bind,hsz,Result.andThen_ok,hv,hck,Sem.run_pure]
     exact ih (fun y hy=>each y (by simp[hy]))
   ·cases h
  ·cases h
theorem Id{ek:EK}{t:TypeId}(hk:Ml P ek t=true){x:AV}{v:Value}(hx:Q1 ek x=true)(r:Gc C x v)(em:Bool)(w:World):(Instr.checkKey em 10000 t v).run P w= .ok () w:=by
 rcases QO hk with ⟨c,rfl,hu⟩|⟨l,d,rfl,ha,hs,hu,_⟩
 ·exact Mv em 9999 hu v w
 ·cases x<;>simp only[Q1,Bool.false_eq_true]at hx
  rename_i cs
  obtain⟨vs,rfl,_,rr⟩:=r
  exact Pw em 9950 50 t l hs vs _ w (by rw[rr.length];exact Nat.eq_of_beq_eq_true hx) (by simp only[Xw,ha,if_true])
theorem key_eq{ek:EK}{t:TypeId}(hk:Ml P ek t=true){x y:AV}{v u:Value}{b:Bool}(h:bF ek x y=some b)(rx:Gc C x v)(ry:Gc C y u):
  ((∃d,P.underlying t=some d∧Instr.sameNow d v u=some b)∨((∃d,P.underlying t=some d∧ ∀v u,Instr.sameNow d v u=none)∧ ∀w,(Op.equal t v u).run P w= .ok b w))∧
  (b=true→v=u∧ ∀w,(Instr.keyThatStays v v).run P w= .ok v w):=by
 rcases QO hk with ⟨c,rfl,hu⟩|⟨l,d,rfl,ha,hs,hu,hn⟩
 ·simp only[bF]at h
  refine⟨.inl ⟨_,hu,?_⟩,fun hb=> ?_⟩
  ·rcases Vd h rx ry with ⟨p,q,rfl,rfl,rfl,e⟩|⟨k,p,q,rfl,rfl,rfl,e⟩|⟨p,q,rfl,rfl,rfl,e⟩
   ·simp[ckT,Instr.sameNow,e]
   ·simp[ckT,Instr.sameNow,e]
   ·simp only[ckT,Instr.sameNow,e,beq_toListBytes]
    rw[J3,J3]
  ·subst hb
   obtain⟨rfl,hp⟩:=gO h rx ry
   exact⟨rfl,fun w=>by simp[Instr.keyThatStays,TN hp]⟩
 ·unfold bF at h
  split at h<;>first|contradiction|skip
  rename_i l' cx cy e
  cases e
  obtain⟨vx,rfl,_,r1⟩:=rx
  obtain⟨vy,rfl,_,r2⟩:=ry
  refine⟨.inr ⟨⟨d,hu,hn⟩,fun w=> ?_⟩,fun hb=> ?_⟩
  ·exact Sf (C:=C) 9950 50 t l hs _ _ vx vy b _ _ w r1 r2 h (by simp only[Xw,ha,if_true]) (by simp only[Xw,ha,if_true])
  ·subst hb
   obtain⟨rfl,hp⟩:=gN h r1 r2
   refine⟨rfl,fun w=> ?_⟩
   have hs:Instr.sameBits 10000 (.agg vx.toArray) (.agg vx.toArray)=true:=by
    show Instr.sameBits (9999+1) _ _=true
    simp only[Instr.sameBits,beq_self_eq_true,Bool.true_and,List.all_eq_true]
    rintro⟨p,q⟩ hp'
    obtain⟨i,hi,e⟩:=List.getElem_of_mem hp'
    rw[List.getElem_zip,Prod.mk.injEq]at e
    obtain⟨rfl,rfl⟩:=e
    exact TN (List.all_eq_true.1 hp _ (List.getElem_mem _)) 9999
   simp[Instr.keyThatStays,hs]
def Found(P:Program)(C:D4)(ms:List MapEntry)(i:Nat)(kv:Value):Option (Nat×AV)→Option (Nat×Value)→Prop
 |none,r=>r=none
 |some (n,v),r=> ∃j e,n=i+j∧r=some (n,e.val)∧ms[j]? =some e∧e.key=kv∧Gc C v e.val∧ ∀w,(Instr.keyThatStays kv kv).run P w= .ok kv w
theorem Found.up{ms:List MapEntry}{m:MapEntry}{i:Nat}{kv:Value}{r:Option (Nat×AV)}{r':Option (Nat×Value)}(h:Found P C ms (i+1) kv r r'):Found P C (m::ms) i kv r r':=by
 cases r with
 |none=>exact h
 |some p=>
  obtain⟨j,e,h1,h2⟩:=h
  exact⟨j+1,e,by omega,h2⟩
theorem fT{ek:EK}{t:TypeId}(hk:Ml P ek t=true){kx:AV}{kv:Value}(rk:Gc C kx kv){d:TypeDesc}(hu:P.underlying t=some d): ∀(es:List (AV×AV)) (ms:List MapEntry) (i:Nat) {r:Option (Nat×AV)},
  Bg C (es.map (·.1)) (ms.map (·.key))→Bg C (es.map (·.2)) (ms.map (·.val))→find ek kx es i=some r→
  (∃r',Instr.findNow d kv ms i=some r'∧Found P C ms i kv r r')∨(Instr.findNow d kv ms i=none∧(∀v u,Instr.sameNow d v u=none)∧ ∃r',(∀w,(Instr.findAsking t kv ms i).run P w= .ok r' w)∧Found P C ms i kv r r')
 |[],[],i,r,_,_,h=>by
  simp only[find,Option.some.injEq]at h
  subst h
  exact .inl ⟨none,rfl,rfl⟩
 |[],_::_,_,_,r1,_,_=>by simp[Bg]at r1
 |_::_,[],_,_,⟨_,_,e,_⟩,_,_=>by simp at e
 |(x,v)::es,m::ms,i,r,⟨u,us,e1,r1,r2⟩,⟨q,qs,e2,r3,r4⟩,h=>by
  simp only[List.map_cons,List.cons.injEq]at e1 e2
  obtain⟨rfl,rfl⟩:=e1
  obtain⟨rfl,rfl⟩:=e2
  simp only[find]at h
  obtain⟨b,hb,h⟩:=Option.bind_eq_some_iff.1 h
  obtain⟨q1,q2⟩:=key_eq hk hb rk r1
  cases b with
  |true=>
   simp only[if_true,Option.some.injEq]at h
   subst h
   obtain⟨hkv,hst⟩:=q2 rfl
   have fd:Found P C (m::ms) i kv (some (i,v)) (some (i,m.val)):=⟨0,m,rfl,rfl,rfl,hkv.symm,r3,hst⟩
   rcases q1 with ⟨d',hu',hs⟩|⟨⟨d',hu',hs⟩,hq⟩
   ·rw[hu]at hu';cases hu'
    exact .inl ⟨_,by simp only[Instr.findNow,hs],fd⟩
   ·rw[hu]at hu';cases hu'
    exact .inr ⟨by simp only[Instr.findNow,hs],hs,_,fun w=>by simp[Instr.findAsking,hq],fd⟩
  |false=>
   simp only[Bool.false_eq_true,if_false]at h
   have ih:=fT hk rk hu es ms (i+1) r2 r4 h
   rcases q1 with ⟨d',hu',hs⟩|⟨⟨d',hu',hs⟩,hq⟩
   ·rw[hu]at hu';cases hu'
    rcases ih with ⟨r',h1,h2⟩|⟨h1,h2,_⟩
    ·exact .inl ⟨r',by simp only[Instr.findNow,hs,h1],h2.up⟩
    ·rw[h2]at hs;cases hs
   ·rw[hu]at hu';cases hu'
    refine .inr ⟨by simp only[Instr.findNow,hs],hs,?_⟩
    rcases ih with ⟨r',h1,h2⟩|⟨_,_,r',h1,h2⟩
    ·refine⟨r',fun w=> ?_,h2.up⟩
     have:ms=[]∧r'=none:=by
      cases ms with
      |nil=>exact⟨rfl,by simpa [Instr.findNow]using h1.symm⟩
      |cons m' ms=>simp[Instr.findNow,hs]at h1
     obtain⟨rfl,rfl⟩:=this
     simp[Instr.findAsking,hq]
    ·exact⟨r',fun w=>by simp[Instr.findAsking,hq,h1],h2.up⟩
theorem WI{ek:EK}{t:TypeId}(hk:Ml P ek t=true){kx:AV}{kv:Value}(rk:Gc C kx kv){es:List (AV×AV)}{ms:List MapEntry}{r:Option (Nat×AV)}(r1:Bg C (es.map (·.1)) (ms.map (·.key)))(r2:Bg C (es.map (·.2)) (ms.map (·.val)))
  (h:find ek kx es 0=some r): ∃r',(∀w,(Instr.findKey t kv ms).run P w= .ok r' w)∧Found P C ms 0 kv r r':=by
 obtain⟨d,hu⟩: ∃d,P.underlying t=some d:=by
  rcases QO hk with ⟨c,_,hu⟩|⟨_,d,_,_,_,hu,_⟩
  ·exact⟨_,hu⟩
  ·exact⟨_,hu⟩
 rcases fT hk rk hu es ms 0 r1 r2 h with ⟨r',h1,h2⟩|⟨h1,_,r',h2,h3⟩
 ·exact⟨r',fun w=>by simp only[Instr.findKey,Sem.run_bind,Av hu,Result.andThen_ok,h1,Sem.run_pure],h2⟩
 ·exact⟨r',fun w=>by simp only[Instr.findKey,Sem.run_bind,Av hu,Result.andThen_ok,h1,h2],h3⟩
theorem nF(I:Inv tb C){x:AV}{v:Value}{es:List (AV×AV)}(r:Gc C x v)(h:PN C.H x=some es): ∃(ms:List MapEntry),Bg C (es.map (·.1)) (ms.map (·.key))∧Bg C (es.map (·.2)) (ms.map (·.val))∧
  ((v= .map none∧ms=[])∨ ∃b clock,v= .map (some b)∧C.w.heap[b]? =some (.map ms.toArray clock)):=by
 cases x<;>simp only[PN,reduceCtorEq]at h
 case nilm=>
  obtain rfl:=Option.some.inj h
  exact⟨[],rfl,rfl, .inl ⟨r,rfl⟩⟩
 case mp id=>
  have hg:C.H[id]? =some (.map es):=by
   unfold Qz at h
   split at h
   ·rename_i es' hg;rw[hg];rw[Option.some.inj h]
   ·cases h
  obtain⟨ms,clock,h1,h2,h3⟩:=I.obj id _ hg
  exact⟨ms,h2,h3, .inr ⟨_,clock,r.2,h1⟩⟩
theorem yG(I:Inv tb C)(F:By C f a nt){o:Oper}{t kt e:TypeId}{ek:EK}{zero:AV}{ok:Bool}{m k:AO}{y1 y2:Operand}(ho:o.op= .lookup t y1 y2 ok)(hu:P.underlying t=some (.map kt e)){i:TypeInfo}{z:Value}(hi:P.info? e=some i)(hz:i.zero=some z)
  (hzv:isV zero z=true) (hk:Ml P ek kt=true) (h1:Bk m y1=true) (h2:Bk k y2=true) {es:List (AV×AV)} (he:PN C.H (eval tb f m)=some es) (hko:Q1 ek (eval tb f k)=true) {q:Option (Nat×AV)} (hq:find ek (eval tb f k) es 0=some q):
  Yields tb C ((match(generalizing:=false) q with
    |some (_,v)=>(if ok then .tup [v, .b true]else v,none)
    |none=>(if ok then .tup [zero, .b false]else zero,none)):AV×Option Ax) ((execOp a.eval o).run P C.w):=by
 have r1:=AJ I F h1
 have r2:=AJ I F h2
 obtain⟨ms,g1,g2,g3⟩:=nF I r1 he
 obtain⟨r',f1,f2⟩:=WI hk r2 g1 g2 hq
 have hzz: ∀w,(zeroValue e).run P w= .ok z w:=fun w=>by simp only[zeroValue,Sem.run_bind,Hi hi,Result.andThen_ok,hz,Sem.run_pure]
 have run: ∀{v:Value} {b:Bool},((∃n,r'=some (n,v))∧b=true)∨(r'=none∧v=z∧b=false)→(execOp a.eval o).run P C.w= .ok (.value (if ok then .tuple #[v, .bool b]else v)) C.w:=by
  rintro v b (⟨⟨n,rfl⟩,rfl⟩|⟨rfl,rfl,rfl⟩)<;>rcases g3 with ⟨e1,rfl⟩|⟨b',clock,e1,hb⟩
  ·simp only[execOp,ho,e1,Instr.lookup,Sem.run_bind,Av hu,Result.andThen_ok,Sem.run_pure,Id hk hko r2,f1]
  ·simp only[execOp,ho,e1,Instr.lookup,Sem.run_bind,Av hu,Result.andThen_ok,Sem.run_pure,MapKept.run_getObj_map hb,Id hk hko r2,f1]
  ·simp only[execOp,ho,e1,Instr.lookup,Sem.run_bind,Av hu,Result.andThen_ok,Sem.run_pure,Id hk hko r2,f1,hzz]
  ·simp only[execOp,ho,e1,Instr.lookup,Sem.run_bind,Av hu,Result.andThen_ok,Sem.run_pure,MapKept.run_getObj_map hb,Id hk hko r2,f1,hzz]
 cases q with
 |none=>
  simp only[Found]at f2
  subst f2
  have hr:=run (v:=z) (b:=false) (.inr ⟨rfl,rfl,rfl⟩)
  refine Az I hr ?_
  have hzr:Gc C zero z:=nH hzv
  cases ok
  ·exact hzr
  ·exact⟨[z, .bool false],rfl,z,[.bool false],rfl,hzr, .bool false,[],rfl,rfl,rfl⟩
 |some p=>
  obtain⟨n,v⟩:=p
  obtain⟨j,e0,hn,rfl,hj,hkey,hv,_⟩:=f2
  have hr:=run (v:=e0.val) (b:=true) (.inl ⟨⟨_,rfl⟩,rfl⟩)
  refine Az I hr ?_
  cases ok
  ·exact hv
  ·exact⟨[e0.val, .bool true],rfl,e0.val,[.bool true],rfl,hv, .bool true,[],rfl,rfl,rfl⟩
theorem sD(I:Inv tb C)(F:By C f a nt){o:Oper}{c:Call}{t kt e:TypeId}{x:AO}{y:Operand}(ho:o.op= .call c)(hc:c.callee= .builtin .len)(ht:c.argTypes[0]? =some t)(ha:c.args= #[y])(hx:Bk x y=true)(hu:P.underlying t=some (.map kt e))
  {es:List (AV×AV)} (he:PN C.H (eval tb f x)=some es):Yields tb C (.i .i64 (es.length:Nat),none) ((execOp a.eval o).run P C.w):=by
 have r:=AJ I F hx
 obtain⟨ms,g1,g2,g3⟩:=nF I r he
 have hl:ms.length=es.length:=by have:=g1.length;simpa using this
 refine Az I (v:= .int .i64 (es.length:Nat)) (Ec ho hc fun q=> ?_) rfl
 rcases g3 with ⟨e1,rfl⟩|⟨b,clock,e1,hb⟩
 ·simp only[ha,List.map_toArray,List.map_cons,List.map_nil,builtin,Sem.run_bind,Builtin.len_,ht,e1,List.getElem?_toArray,List.getElem?_cons_zero,Av hu,Result.andThen_ok,Sem.run_pure,←hl,goInt]
  rfl
 ·simp only[ha,List.map_toArray,List.map_cons,List.map_nil,builtin,Sem.run_bind,Builtin.len_,ht,e1,List.getElem?_toArray,List.getElem?_cons_zero,Av hu,Result.andThen_ok,MapKept.run_getObj_map hb,Sem.run_pure,←hl,goInt]
  simp
theorem yE(I:Inv tb C){o:Oper}{t:TypeId}(ho:o.op= .makeMap t none):Yields tb C (.mp C.H.length,some (C.H++[BW.map []])) ((execOp a.eval o).run P C.w):=by
 have hlt:C.w.heap.size<(C.w.alloc (.map #[] 0)).heap.size:=by rw[GU];omega
 refine L9 (w:=C.w.alloc (.map #[] 0)) (v:= .map (some C.w.heap.size)) I (p:=⟨C.w.heap.size,0,0⟩) ⟨rfl,rfl,rfl⟩ ?_ hlt rfl (fun b hb=>alloc_old _ _ hb) ?_ ?_
 ·simp only[execOp,ho,Instr.makeMap,Option.map_none,Sem.run_bind,Sem.run_pure,Result.andThen_ok,run_newObj]
  rfl
 ·exact⟨[],0,Ij _ _,rfl,rfl⟩
 ·intro hφ
  exact⟨⟨BW.map [],by simp[D4.more],rfl⟩,by rw[hφ]⟩
theorem Wg{α:Type}(g:α→α): ∀(l:List α) (i:Nat) (x:α),l[i]? =some x→l.modify i g=l.set i (g x)
 |[],_,_,h=>by simp at h
 |y::l,0,x,h=>by simp at h;subst h;simp[List.modify]
 |y::l,i+1,x,h=>by
  have:=Wg g l i x (by simpa using h)
  simp[this]
theorem Rq: ∀{l:List AV} {vs:List Value} {i:Nat},Bg C l vs→Bg C (l.eraseIdx i) (vs.eraseIdx i)
 |[],_,_,h=>by simp only[Bg]at h;subst h;rfl
 |_::_,_,0,⟨v,q,e,_,h⟩=>by subst e;exact h
 |_::_,_,i+1,⟨v,q,e,r,h⟩=>by subst e;exact⟨v,_,rfl,r,Rq h⟩
theorem Is{α β:Type}(g:α→β): ∀(l:List α) (j:Nat),(l.eraseIdx j).map g=(l.map g).eraseIdx j
 |[],_=>rfl
 |_::_,0=>rfl
 |x::l,j+1=>by simp[Is g l j]
theorem Ns(I:Inv tb C){id:Nat}{es es':List (AV×AV)}(hg:C.H[id]? =some (.map es)){ms:List MapEntry}{clock clock':Nat}(hb:C.w.heap[(C.φ id).blk]? =some (.map ms.toArray clock)){ms':List MapEntry}
  (h1:Bg C (es'.map (·.1)) (ms'.map (·.key))) (h2:Bg C (es'.map (·.2)) (ms'.map (·.val))) {x:Result Next} {r:AV}
  (hx:(∃v,x= .ok (.value v) {C.w with heap:=C.w.heap.setIfInBounds (C.φ id).blk (.map ms'.toArray clock')}∧ ∀D,Gc D r v)∨(x= .ok .skip {C.w with heap:=C.w.heap.setIfInBounds (C.φ id).blk (.map ms'.toArray clock')}∧ ∀D,Gc D r undef)):
  Yields tb C (r,some (C.H.set id (BW.map es'))) x:=by
 have hlt:(C.φ id).blk<C.w.heap.size:=by
  by_cases h:(C.φ id).blk<C.w.heap.size
  ·exact h
  ·rw[Array.getElem?_eq_none (by omega)]at hb;cases hb
 obtain⟨X,hI⟩:=rO (D:=⟨C.φ,C.H.set id (BW.map es'),{C.w with heap:=C.w.heap.setIfInBounds (C.φ id).blk (.map ms'.toArray clock')}⟩) I ⟨rfl,rfl,rfl⟩ hg rfl (fun _ _=>rfl) (by simp)
  (fun b hb hne=>Array.getElem?_setIfInBounds_ne (Ne.symm hne)) (.inl rfl) (fun _=>⟨rfl,rfl⟩) (fun _ _ _ _ e=>by cases e)
 refine⟨_,X,hI ⟨ms',clock',?_,Bg.ext X h1,Bg.ext X h2⟩,rfl,?_⟩
 ·exact Array.getElem?_setIfInBounds_self_of_lt hlt
 ·rcases hx with ⟨v,e,h⟩|⟨e,h⟩
  ·exact .inl ⟨v,e,h _⟩
  ·exact .inr ⟨e,h _⟩
theorem jU(I:Inv tb C){id:Nat}{es:List (AV×AV)}(h:Qz C.H id=some es):C.H[id]? =some (.map es)∧ ∃(ms:List MapEntry) (clock:Nat),C.w.heap[(C.φ id).blk]? =some (.map ms.toArray clock)∧Bg C (es.map (·.1)) (ms.map (·.key))∧Bg C (es.map (·.2)) (ms.map (·.val)):=by
 have hg:C.H[id]? =some (.map es):=by
  unfold Qz at h
  split at h
  ·rename_i es' hg;rw[hg];rw[Option.some.inj h]
  ·cases h
 exact⟨hg,I.obj id _ hg⟩
theorem yC(I:Inv tb C)(F:By C f a nt){o:Oper}{t kt e:TypeId}{ek:EK}{m k v:AO}{y1 y2 y3:Operand}(ho:o.op= .mapUpdate t y1 y2 y3∨o.op= .insert t y1 y2 y3)(hu:P.underlying t=some (.map kt e))(hk:Ml P ek kt=true)(h1:Bk m y1=true)(h2:Bk k y2=true)(h3:Bk v y3=true)
  {id:Nat} (hm:eval tb f m= .mp id) {es:List (AV×AV)} (he:Qz C.H id=some es) (hko:Q1 ek (eval tb f k)=true) {q:Option (Nat×AV)} (hq:find ek (eval tb f k) es 0=some q):
  Yields tb C ((match(generalizing:=false) q with
    |some (i,_)=>(.junk,some (C.H.set id (BW.map (es.set i (eval tb f k,eval tb f v)))))
    |none=>(.junk,some (C.H.set id (BW.map (es++[(eval tb f k,eval tb f v)]))))):AV×Option Ax) ((execOp a.eval o).run P C.w):=by
 have r1:=AJ I F h1
 have r2:=AJ I F h2
 have r3:=AJ I F h3
 rw[hm]at r1
 have e1:a.eval y1= .map (some (C.φ id).blk):=r1.2
 obtain⟨hg,ms,clock,hb,g1,g2⟩:=jU I he
 obtain⟨r',f1,f2⟩:=WI hk r2 g1 g2 hq
 have ho':execOp a.eval o=(Instr.mapUpdate t (a.eval y1) (a.eval y2) (a.eval y3)>>= fun _=>pure .skip):=by
  rcases ho with ho|ho<;>simp only[execOp,ho]
 cases q with
 |none=>
  simp only[Found]at f2
  subst f2
  refine Ns (ms':=ms++[{key:=a.eval y2,val:=a.eval y3,born:=clock}]) (clock':=clock+1) I hg hb ?_ ?_ (.inr ⟨?_,fun D=>trivial⟩)
  ·simp only[List.map_append,List.map_cons,List.map_nil]
   exact Bg.app g1 ⟨_,[],rfl,r2,rfl⟩
  ·simp only[List.map_append,List.map_cons,List.map_nil]
   exact Bg.app g2 ⟨_,[],rfl,r3,rfl⟩
  ·rw[ho']
   simp only[e1,Instr.mapUpdate,Sem.run_bind,Av hu,Result.andThen_ok,MapKept.run_getObj_map hb,Id hk hko r2,f1,MapKept.run_setObj_map _ hb,Sem.run_pure]
   simp
 |some p=>
  obtain⟨n,v0⟩:=p
  obtain⟨j,e0,hn,rfl,hj,hkey,hv,hst⟩:=f2
  obtain rfl:n=j:=by omega
  have hmod:=Wg (fun x:MapEntry=>{x with key:=a.eval y2,val:=a.eval y3}) ms n e0 hj
  refine Ns (ms':=ms.set n {e0 with key:=a.eval y2,val:=a.eval y3}) (clock':=clock) I hg hb ?_ ?_ (.inr ⟨?_,fun D=>trivial⟩)
  ·simp only[List.map_set]
   exact Bg.set r2 g1
  ·simp only[List.map_set]
   exact Bg.set r3 g2
  ·rw[ho']
   have hj':ms.toArray[n]? =some e0:=by simpa using hj
   simp only[e1,Instr.mapUpdate,Sem.run_bind,Av hu,Result.andThen_ok,MapKept.run_getObj_map hb,Id hk hko r2,f1,hj',Option.map_some,Option.getD_some,hkey,hst,MapKept.run_setObj_map _ hb,Sem.run_pure]
   congr 4
   rw[←hmod]
   simp
theorem yP(I:Inv tb C)(F:By C f a nt){o:Oper}{c:Call}{t kt e:TypeId}{ts:List TypeId}{ek:EK}{m k:AO}{y1 y2:Operand}(ho:o.op= .call c)(hc:c.callee= .builtin .delete)(ha:c.args= #[y1,y2])(ht:c.argTypes=(t::ts).toArray)
  (hu:P.underlying t=some (.map kt e)) (hk:Ml P ek kt=true) (h1:Bk m y1=true) (h2:Bk k y2=true) (hko:Q1 ek (eval tb f k)=true) {r:AV×Option Ax}
  (h:(match eval tb f m with
   | .nilm=>some (.tup [],none)
   | .mp id=>(Qz C.H id).bind fun es=>(find ek (eval tb f k) es 0).map fun r=>match r with
    |some (i,_)=>(.tup [],some (C.H.set id (BW.map (es.eraseIdx i))))
    |none=>(.tup [],none)
   |_=>none)=some r):Yields tb C r ((execOp a.eval o).run P C.w):=by
 have r1:=AJ I F h1
 have r2:=AJ I F h2
 have run: ∀{w'},(Builtin.delete_ (t::ts).toArray o.type #[a.eval y1,a.eval y2]).run P C.w= .ok (.tuple #[]) w'→(execOp a.eval o).run P C.w= .ok (.value (.tuple #[])) w':=by
  intro w' hv
  refine Ec ho hc fun q=> ?_
  simp only[ha,ht,List.map_toArray,List.map_cons,List.map_nil,builtin,Sem.run_bind,hv,Result.andThen_ok,Sem.run_pure]
 generalize eval tb f m=v at*
 cases v<;>simp only[reduceCtorEq]at h
 case nilm=>
  obtain rfl:=Option.some.inj h
  have e1:a.eval y1= .map none:=r1
  refine Az I (v:= .tuple #[]) (run ?_) ⟨[],rfl,rfl⟩
  simp only[Builtin.delete_,List.getElem?_toArray,List.getElem?_cons_zero,List.getElem?_cons_succ,e1,Sem.run_bind,Av hu,Result.andThen_ok,Id hk hko r2,Sem.run_pure]
 case mp id=>
  have e1:a.eval y1= .map (some (C.φ id).blk):=r1.2
  obtain⟨es,he,h⟩:=Option.bind_eq_some_iff.1 h
  obtain⟨q,hq,rfl⟩:=Option.map_eq_some_iff.1 h
  obtain⟨hg,ms,clock,hb,g1,g2⟩:=jU I he
  obtain⟨r',f1,f2⟩:=WI hk r2 g1 g2 hq
  cases q with
  |none=>
   simp only[Found]at f2
   subst f2
   refine Az I (v:= .tuple #[]) (run ?_) ⟨[],rfl,rfl⟩
   simp only[Builtin.delete_,List.getElem?_toArray,List.getElem?_cons_zero,List.getElem?_cons_succ,e1,Sem.run_bind,Av hu,Result.andThen_ok,MapKept.run_getObj_map hb,Id hk hko r2,f1,MapKept.run_setObj_map _ hb,Sem.run_pure]
   have:C.w.heap.setIfInBounds (C.φ id).blk (.map ms.toArray clock)=C.w.heap:=by
    apply Array.ext_getElem?
    intro i
    by_cases hi:(C.φ id).blk=i
    ·subst hi
     have hlt:(C.φ id).blk<C.w.heap.size:=by
      by_cases h:(C.φ id).blk<C.w.heap.size
      ·exact h
      ·rw[Array.getElem?_eq_none (by omega)]at hb;cases hb
     rw[Array.getElem?_setIfInBounds_self_of_lt hlt,hb]
    ·rw[Array.getElem?_setIfInBounds_ne hi]
   rw[this]
  |some p=>
   obtain⟨n,v0⟩:=p
   obtain⟨j,e0,hn,rfl,hj,hkey,hv,hst⟩:=f2
   obtain rfl:n=j:=by omega
   have hnl:n<ms.length:=(List.getElem?_eq_some_iff.1 hj).1
   refine Ns (ms':=ms.eraseIdx n) (clock':=clock) I hg hb ?_ ?_ (.inl ⟨.tuple #[],run ?_,fun D=>⟨[],rfl,rfl⟩⟩)
   ·rw[Is,Is]
    exact Rq g1
   ·rw[Is,Is]
    exact Rq g2
   ·simp only[Builtin.delete_,List.getElem?_toArray,List.getElem?_cons_zero,List.getElem?_cons_succ,e1,Sem.run_bind,Av hu,Result.andThen_ok,MapKept.run_getObj_map hb,Id hk hko r2,f1,MapKept.run_setObj_map _ hb,Sem.run_pure]
    congr 3
    simp[Array.eraseIdxIfInBounds,hnl]
theorem Y6{l:List AV}{vs:List Value}(r:Bg C l vs): ∀n,AY C (List.replicate n l) (List.replicate n vs)
 |0=>rfl
 |n+1=>⟨_,_,by rw[List.replicate_succ],r,Y6 r n⟩
theorem mU(I:Inv tb C)(F:By C f a nt){o:Oper}{c:Call}{t:TypeId}{ts:List TypeId}{zero:List AV}{x:AO}{y:Operand}(ho:o.op= .call c)(hc:c.callee= .builtin .clear)(ha:c.args= #[y])(ht:c.argTypes=(t::ts).toArray)
  (hu:(∃k e,P.underlying t=some (.map k e)∧zero=[])∨ ∃e i z,P.underlying t=some (.slice e)∧P.info? e=some i∧i.zero=some z∧NJ zero z.cells.toList=true) (hx:Bk x y=true) {r:AV×Option Ax}
  (h:(match eval tb f x with
   | .nils=>some (.tup [],none)
   | .orow id n lo len=>(rowAt C.H id).bind fun r=>
    if r.1=false∧n=r.2.2.length∧lo+len≤n∧zero.length=r.2.1 then
     some (.tup [],some (C.H.set id (BW.row (E5 C.H id) false r.2.1 (r.2.2.take lo++List.replicate len zero++r.2.2.drop (lo+len)))))
    else none
   | .mp id=>(Qz C.H id).map fun _=>(.tup [],some (C.H.set id (BW.map [])))
   |_=>none)=some r):Yields tb C r ((execOp a.eval o).run P C.w):=by
 have r1:=AJ I F hx
 have hd: ∃d,P.underlying t=some d:=by
  rcases hu with ⟨k,e,hu,_⟩|⟨e,i,z,hu,_⟩<;>exact⟨_,hu⟩
 obtain⟨d,hd⟩:=hd
 have run: ∀{w'},(Builtin.clear_ (t::ts).toArray o.type #[a.eval y]).run P C.w= .ok (.tuple #[]) w'→(execOp a.eval o).run P C.w= .ok (.value (.tuple #[])) w':=by
  intro w' hv
  refine Ec ho hc fun q=> ?_
  simp only[ha,ht,List.map_toArray,List.map_cons,List.map_nil,builtin,Sem.run_bind,hv,Result.andThen_ok,Sem.run_pure]
 generalize eval tb f x=v at*
 cases v<;>simp only[reduceCtorEq]at h
 case nils=>
  obtain rfl:=Option.some.inj h
  have e1:a.eval y= .slice none 0 0:=r1
  refine Az I (v:= .tuple #[]) (run ?_) ⟨[],rfl,rfl⟩
  simp only[Builtin.clear_,List.getElem?_toArray,List.getElem?_cons_zero,e1,Sem.run_bind,Av hd,Result.andThen_ok,Sem.run_pure]
 case mp id=>
  have e1:a.eval y= .map (some (C.φ id).blk):=r1.2
  obtain⟨es,he,rfl⟩:=Option.map_eq_some_iff.1 h
  obtain⟨hg,ms,clock,hb,g1,g2⟩:=jU I he
  refine Ns (es':=[]) (ms':=[]) (clock':=clock) I hg hb rfl rfl (.inl ⟨.tuple #[],run ?_,fun D=>⟨[],rfl,rfl⟩⟩)
  simp only[Builtin.clear_,List.getElem?_toArray,List.getElem?_cons_zero,e1,Sem.run_bind,Av hd,Result.andThen_ok,MapKept.run_getObj_map hb,MapKept.run_setObj_map _ hb,Sem.run_pure]
 case orow id n lo len=>
  obtain⟨_,fz,sz,els,hg,hle,k⟩:=r1
  simp only[hg,Option.bind_some]at h
  split at h
  ·rename_i hcond
   obtain⟨hfz,hn',hlo,hzl⟩:=hcond
   obtain rfl:=Option.some.inj h
   obtain⟨_,off,cap,e1,hlc,hoff,hsize,hbo⟩:=k hn'
   obtain⟨tl,hg',hlab⟩:=Iv hg
   obtain⟨ws,arr,et,fr,⟨g1,hfr0,hlb⟩,g2,g3,g4,g5,g6,g7,g8,g9⟩:=I.obj id _ hg'
   subst hzl
   rcases hu with ⟨k',e',hu,rfl⟩|⟨e,i,z,hu,hi,hz,hzs⟩
   ·simp at g3
   ·obtain⟨z1,z2⟩:=LL (C:=C) hzs
    have hzz:z.cells.toList.length=zero.length:=z1.length
    have hsl: ∀x∈List.replicate len zero,x.length=zero.length∧x.all scal=true:=fun x hx=>by
     rw[List.eq_of_mem_replicate hx];exact⟨rfl,z2⟩
    have hrr:=Y6 z1 len
    have q1:=AY.flat hrr
    have q2:(List.replicate len zero).flatten.all scal=true:=L7 fun x hx=>(hsl x hx).2
    have q4:(List.replicate len z.cells.toList).flatten.length=len*zero.length:=by simp[List.length_flatten,hzz]
    have hwl:=AY.lens (fun x hx=>(g4 x hx).1) g5
    have hwfl:ws.flatten.length=els.length*zero.length:=by rw[Fa _ hwl,g5.length]
    have hb1:lo*zero.length+len*zero.length≤els.length*zero.length:=by
     rw[←Nat.add_mul];exact Nat.mul_le_mul_right _ (by omega)
    have hst:(storeCells ⟨(C.φ id).blk,off,none⟩ (List.replicate len z.cells.toList).flatten).run P C.w= .ok () (C.w.setCells (C.φ id).blk ((C.φ id).base+lo*zero.length) (List.replicate len z.cells.toList).flatten):=by
     by_cases h0:0<len
     ·rw[hoff h0]
      exact R7 g1 (by rw[q4,g2];omega) (fun j hj=>g8 hfz _ (by rw[q4]at hj;omega)) (LH q2 q1)
     ·have:len=0:=by omega
      subst this
      simp[storeCells,World.setCells]
    obtain⟨arr',k1,k2⟩:=FU (List.replicate len z.cells.toList).flatten ((C.φ id).base+lo*zero.length) g1
    obtain⟨X,hI⟩:=rO (D:=⟨C.φ,C.H.set id (BW.row (E5 C.H id) false zero.length (els.take lo++List.replicate len zero++els.drop (lo+len))),C.w.setCells (C.φ id).blk ((C.φ id).base+lo*zero.length) (List.replicate len z.cells.toList).flatten⟩) I (FS _ _) hg' rfl (fun _ _=>rfl) (by simp only[FQ];omega)
     (fun b hb hne=>Dm hne _ _) (.inl rfl) (fun e=>by cases e) (fun _ fz' sz' els' e=>by cases e;exact⟨_,_,_,rfl,by simp only[List.length_append,List.length_take,List.length_drop,List.length_replicate];omega,fun _=>rfl⟩)
    have hnl:(els.take lo++List.replicate len zero++els.drop (lo+len)).length=els.length:=by simp only[List.length_append,List.length_take,List.length_drop,List.length_replicate];omega
    refine⟨_,X,hI ?_,rfl, .inl ⟨.tuple #[],run ?_,⟨[],rfl,rfl⟩⟩⟩
    ·refine⟨ws.take lo++List.replicate len z.cells.toList++ws.drop (lo+len),arr',et,fr,⟨k1,hfr0,by rw[hlab];exact hlb⟩,by rw[k2];exact g2,g3,?_,?_,by rw[hnl];exact g6,?_,?_,?_⟩
     ·intro y hy
      simp only[List.mem_append]at hy
      rcases hy with (hy|hy)|hy
      ·exact g4 y (List.mem_of_mem_take hy)
      ·exact hsl y hy
      ·exact g4 y (List.mem_of_mem_drop hy)
     ·exact AY.app (AY.app (AY.take (g5.ext X)) (hrr.ext X)) (AY.drop (g5.ext X))
     ·have hfl:(ws.take lo++List.replicate len z.cells.toList++ws.drop (lo+len)).flatten=ws.flatten.take (lo*zero.length)++(List.replicate len z.cells.toList).flatten++ws.flatten.drop (lo*zero.length+(List.replicate len z.cells.toList).flatten.length):=by
       rw[List.flatten_append,List.flatten_append,E0 _ _ hwl,EW _ _ hwl,q4,←Nat.add_mul]
      rw[hfl]
      exact DY.put (base:=(C.φ id).base) (o:=lo*zero.length) g1 g7 (vs:=(List.replicate len z.cells.toList).flatten) (by omega) (by omega)
     ·intro _ j hj
      rw[FV]
      exact g8 hfz j hj
     ·intro _ j hj hj'
      rw[FV]
      exact g9 hfz j (by rwa [hnl]at hj) hj'
    ·have hzc:(Builtin.zeroCells z.cells len).toList=(List.replicate len z.cells.toList).flatten:=Q9 z.cells len
     have hzv: ∀w,(zeroValue e).run P w= .ok z w:=fun w=>by simp only[zeroValue,Sem.run_bind,Hi hi,Result.andThen_ok,hz,Sem.run_pure]
     by_cases h0:len=0
     ·subst h0
      simp only[Builtin.clear_,List.getElem?_toArray,List.getElem?_cons_zero,e1,Sem.run_bind,Av hu,Result.andThen_ok,Sem.run_pure]
      simp[World.setCells]
     ·have hm:(Builtin.clear_ (t::ts).toArray o.type #[a.eval y]).run P C.w=((storeCells ⟨(C.φ id).blk,off,none⟩ (Builtin.zeroCells z.cells len).toList).run P C.w).andThen fun _ w=> .ok (.tuple #[]) w:=by
       obtain⟨l,rfl⟩: ∃l,len=l+1:=⟨len-1,by omega⟩
       simp only[Builtin.clear_,List.getElem?_toArray,List.getElem?_cons_zero,e1,Sem.run_bind,Av hu,Result.andThen_ok,Sem.run_pure,hzv]
      rw[hm,hzc,hst]
      rfl
  ·simp at h
end
end Go.Proofs.YtobejhpigbllpaaGreatDoor.Am
namespace Go.Proofs.YtobejhpigbllpaaGreatDoor.Am
section
variable{cl:Nat→List AV→Ax→Lb}{P:Program}{tb:Dg}{C:D4}{f:Fr}{a:Act}{nt:Nat}
theorem Ox{x:List AV}{v:List Value}(h:Bg C x v): ∀n,AY C (List.replicate n x) (List.replicate n v)
 |0=>rfl
 |n+1=>⟨v,_,rfl,h,Ox h n⟩
theorem yD(I:Inv tb C)(F:By C f a nt){o:Oper}{t e:TypeId}{x1 x2:AO}{y1 y2:Operand}(ho:o.op= .makeSlice t y1 y2)(hu:P.underlying t=some (.slice e)){i:TypeInfo}{z:Value}(hi:P.info? e=some i)(hz:i.zero=some z)
  {zero:List AV} (hzs:NJ zero z.cells.toList=true) (hsz:i.size=z.cells.size) (hz0:0<i.size) (h1:Bk x1 y1=true) (h2:Bk x2 y2=true) {l c:Int} (e1:Il (eval tb f x1)=some l) (e2:Il (eval tb f x2)=some c)
  (hc:0≤l∧l≤c∧c*i.bytes≤B4) (hc63:c≤9223372036854775807):Yields tb C (.orow C.H.length l.toNat 0 l.toNat,some (C.H++[BW.row (some e) false i.size (List.replicate l.toNat zero)])) ((execOp a.eval o).run P C.w):=by
 obtain⟨k1,_,r1⟩:=It (AJ I F h1) e1
 obtain⟨k2,_,r2⟩:=It (AJ I F h2) e2
 obtain⟨hr,hs⟩:=LL (C:=C) hzs
 have hlen:zero.length=i.size:=by rw[←hr.length,hsz];simp
 have hrun:=run_make (P:=P) C.w t e i z hu hi hz k1 k2 l c hc.1 hc.2.1 (by have:=hc.2.2;unfold B4 at this;rw[Int.mul_comm];omega) hc63
 have hle:l.toNat≤c.toNat:=by have:=hc.2.1;omega
 have hy:=QA (fz:=false) (sz:=i.size) (els:=List.replicate l.toNat zero) (vss:=List.replicate l.toNat z.cells.toList) (arr:=madeCells z.cells (c.toNat*i.size)) (e:=e) (w:=C.w) (K:=c.toNat)
  (x:=(execOp a.eval o).run P C.w) I ⟨rfl,rfl,rfl⟩ rfl hz0 (fun x hx=>by rw[List.eq_of_mem_replicate hx];exact⟨hlen,hs⟩) (Ox hr _) (fun j v hj=> ?_) (by simpa using hle) (by rw[size_madeCells];exact Nat.le_refl _) ?_
 ·simpa using hy
 ·have hmade:(madeCells z.cells (c.toNat*i.size)).toList=(List.replicate c.toNat z.cells.toList).flatten:=by
   rw[hsz];exact Q9 z.cells c.toNat
  have hsplit:(List.replicate c.toNat z.cells.toList).flatten=(List.replicate l.toNat z.cells.toList).flatten++(List.replicate (c.toNat-l.toNat) z.cells.toList).flatten:=by
   rw[←List.flatten_append,List.replicate_append_replicate,show l.toNat+(c.toNat-l.toNat)=c.toNat by omega]
  rw[←Array.getElem?_toList,hmade,hsplit,List.getElem?_append_left (Bb hj)]
  exact hj
 ·simp only[execOp,ho,r1,r2,Sem.run_bind,hrun,Result.andThen_ok,Sem.run_pure,List.length_replicate]
theorem RZ{α β:Type}{g:α→β}: ∀l:List α,(l.map fun c=>[g c]).flatten=l.map g
 |[]=>rfl
 |c::l=>by simp only[List.map_cons,List.flatten_cons,RZ l];rfl
theorem yW(I:Inv tb C)(F:By C f a nt){o:Oper}{s d e:TypeId}{x:AO}{y:Operand}(ho:o.op= .convert s d y)(hs:P.underlying s=some .string)(hd:P.underlying d=some (.slice e))(he:P.underlying e=some (.int .u8))(hx:Bk x y=true)
  {l:List UInt8} (h:eval tb f x= .s l):Yields tb C (.orow C.H.length l.length 0 l.length,some (C.H++[BW.row (some e) false 1 (B1 l)])) ((execOp a.eval o).run P C.w):=by
 have r:=AJ I F hx
 rw[h]at r
 have e1:a.eval y= .string ⟨l.toArray⟩:=r
 have hrun:=Lib.run_convert_string_bytes (P:=P) C.w s d e ⟨l.toArray⟩ hs hd he
 have hsize:(⟨l.toArray⟩:ByteArray).size=l.length:=by simp[ByteArray.size]
 have hold: ∀b,b<C.w.heap.size→(Lib.bytesWorld C.w e ⟨l.toArray⟩).heap[b]? =C.w.heap[b]? :=fun b hb=>Lib.bytesWorld_at_old C.w e _ b hb
 have hnew:=Lib.bytesWorld_at_new C.w e ⟨l.toArray⟩
 have hgrow:C.w.heap.size<(Lib.bytesWorld C.w e ⟨l.toArray⟩).heap.size:=by rw[Lib.bytesWorld_size];omega
 have hrest:Rest C.w (Lib.bytesWorld C.w e ⟨l.toArray⟩):=by
  refine⟨?_,?_,?_⟩<;>simp[Lib.bytesWorld,World.freeze,World.alloc,World.drew,-World.alloc_eq,-World.drew_eq]
 have hcs:l.length≤(Lib.bytesCells C.w e ⟨l.toArray⟩).size:=by simp[Lib.bytesCells]
 obtain⟨hb1,hb2⟩:=Zc (C:=C) l
 have hcell: ∀(j:Nat) (v:Value),(l.map fun c=>[Value.int .u8 c.toNat]).flatten[j]? =some v→(Lib.bytesWorld C.w e ⟨l.toArray⟩).cell? ⟨C.w.heap.size,j,none⟩=some v:=by
  intro j v hj
  rw[RZ]at hj
  obtain⟨u,hu,rfl⟩:=List.getElem?_eq_some_iff.1 hj
  simp only[List.length_map]at u
  rw[Lib.bytesWorld_cell C.w e ⟨l.toArray⟩ j (by rw[hsize];exact u)]
  simp[List.getD,u]
 have hfz: ∀o,o<(Lib.bytesCells C.w e ⟨l.toArray⟩).size→(Lib.bytesWorld C.w e ⟨l.toArray⟩).frozen? ⟨C.w.heap.size,o,none⟩=false:=by
  intro o ho
  simp only[World.frozen?,hnew]
  simp
  omega
 have hcap:l.length≤grownCap C.w l.length 0 e:=grownCap_ge _ _ _ _
 have hcsz:(Lib.bytesCells C.w e ⟨l.toArray⟩).size=grownCap C.w l.length 0 e:=by
  simp[Lib.bytesCells,hsize];omega
 refine L9 (w:=Lib.bytesWorld C.w e ⟨l.toArray⟩) (v:= .slice (some ⟨C.w.heap.size,0,none⟩) l.length (grownCap C.w l.length 0 e)) I (p:=⟨C.w.heap.size,0,(Lib.bytesCells C.w e ⟨l.toArray⟩).size⟩) hrest ?_ hgrow rfl hold ?_ ?_
 ·simp only[execOp,ho,e1,Sem.run_bind,hrun,Result.andThen_ok,Sem.run_pure,hsize]
 ·have X:=(more (w:=Lib.bytesWorld C.w e ⟨l.toArray⟩) I (p:=⟨C.w.heap.size,0,(Lib.bytesCells C.w e ⟨l.toArray⟩).size⟩) (o:=BW.row (some e) false 1 (B1 l)) hrest hgrow rfl hold).1
  refine⟨_,_,_,_,⟨hnew,Nat.le_succ _,fun k hk=>by cases hk;rfl⟩,rfl,by omega,hb2,AY.ext X hb1,by simpa [B1]using hcs,fun j v hj=>by rw[Nat.zero_add];exact hcell j v hj,fun _=>hfz,fun _ o _=>hfz o⟩
 ·intro hφ
  refine⟨⟨_,_,rfl⟩,false,1,B1 l,by simp[D4.more,rowAt],by simp[B1],fun _=>⟨by omega,0,grownCap C.w l.length 0 e,by rw[hφ],hcap,fun _=>by rw[hφ],by rw[hφ];simp only[hcsz];omega,by rw[hφ];exact Nat.zero_le _⟩⟩
theorem yS(I:Inv tb C)(F:By C f a nt){o:Oper}{s e:TypeId}{x:AO}{y:Operand}(ho:o.op= .convert s s y)(hs:P.underlying s=some (.slice e))(he:P.underlying e=some (.int .u8))(hx:Bk x y=true)
  {id n lo len:Nat} (h:eval tb f x= .orow id n lo len) {fz:Bool} {sz:Nat} {els:List (List AV)} (hq:rowAt C.H id=some (fz,sz,els)) (hfz:fz=false) (hn:n=els.length) (hle:lo+len≤n):
  Yields tb C (.orow id n lo len,none) ((execOp a.eval o).run P C.w):=by
 have r:=AJ I F hx
 rw[h]at r
 have r0:=r
 obtain⟨_,fz',sz',els',hg,hl,k⟩:=r
 rw[hq]at hg
 cases hg
 obtain⟨_,off,cap,e1,hlc,hoff,hsize,hbo⟩:=k hn
 obtain⟨tl,hg',hlab⟩:=Iv hq
 obtain⟨vss,arr,et,fr,⟨h1,hfr0,hlb⟩,h2,h3,h4,h5,h6,h7,h8,h9⟩:=I.obj id _ hg'
 have hsh:C.w.shape? (C.φ id).blk=some (et,arr.size):=by simp only[World.shape?,h1]
 have hrun:(convert s s (.slice (some ⟨(C.φ id).blk,off,none⟩) len cap)).run P C.w= .ok (.slice (some ⟨(C.φ id).blk,off,none⟩) len cap) (C.w.freeze ⟨(C.φ id).blk,arr.size,none⟩ 1):=by
  simp[convert,Av hs,Av he,markStringish,hsh]
 have hfr: ∀q,q<(C.φ id).size→ ¬(fr.1≤q∧q<fr.2):=fun q hq'=>by
  have:=h8 hfz q hq'
  simp only[World.frozen?,h1]at this
  simpa using this
 let w':=C.w.freeze ⟨(C.φ id).blk,arr.size,none⟩ 1
 let fr':Nat×Nat:=if fr.1==fr.2 then(arr.size,arr.size+1)else(min fr.1 arr.size,max fr.2 (arr.size+1))
 have hnew:w'.heap[(C.φ id).blk]? =some (.cells arr et fr'):=by
  show(C.w.freeze ⟨(C.φ id).blk,arr.size,none⟩ 1).heap[(C.φ id).blk]? =_
  unfold World.freeze
  rw[if_neg (by decide)]
  simp only[Array.getElem?_modify,if_true,h1,Option.map_some]
  rfl
 have hother: ∀b,b≠(C.φ id).blk→w'.heap[b]? =C.w.heap[b]? :=fun b hb=>by
  show(C.w.freeze ⟨(C.φ id).blk,arr.size,none⟩ 1).heap[b]? =_
  unfold World.freeze
  rw[if_neg (by decide)]
  simp only[Array.getElem?_modify,if_neg (Ne.symm hb)]
 have hsz':w'.heap.size=C.w.heap.size:=by
  show(C.w.freeze ⟨(C.φ id).blk,arr.size,none⟩ 1).heap.size=_
  unfold World.freeze
  rw[if_neg (by decide)]
  simp
 have hfr1:fr'.1≤fr'.2∧ ∀q,q<arr.size→ ¬(fr'.1≤q∧q<fr'.2):=by
  show(if fr.1==fr.2 then(arr.size,arr.size+1)else(min fr.1 arr.size,max fr.2 (arr.size+1))).1≤(if fr.1==fr.2 then(arr.size,arr.size+1)else(min fr.1 arr.size,max fr.2 (arr.size+1))).2∧ ∀q,q<arr.size→ ¬((if fr.1==fr.2 then(arr.size,arr.size+1)else(min fr.1 arr.size,max fr.2 (arr.size+1))).1≤q∧q<(if fr.1==fr.2 then(arr.size,arr.size+1)else(min fr.1 arr.size,max fr.2 (arr.size+1))).2)
  split
  ·exact⟨by simp,fun q hq'=>by simp;omega⟩
  ·rename_i hne
   have hlt:fr.1<fr.2:=by
    have:fr.1≠fr.2:=by simpa using hne
    omega
   have hge:arr.size≤fr.1:=by
    rcases Nat.lt_or_ge fr.1 arr.size with h|h
    ·exact absurd ⟨Nat.le_refl _,hlt⟩ (hfr fr.1 (by omega))
    ·exact h
   refine⟨by simp only;omega,fun q hq'=>by simp only;omega⟩
 have hfz': ∀q,q<(C.φ id).size→w'.frozen? ⟨(C.φ id).blk,q,none⟩=false:=fun q hq'=>by
  have:=hfr1.2 q (by omega)
  simp only[World.frozen?,hnew]
  simpa using this
 have hset:C.H.set id (BW.row tl fz sz els)=C.H:=by
  apply List.ext_getElem?
  intro j
  rw[List.getElem?_set]
  split
  ·rename_i hj;subst hj;split
   ·exact hg'.symm
   ·rename_i hj;exact absurd (Bb hg') hj
  ·rfl
 have hrest:Rest C.w w':=by
  show Rest C.w (C.w.freeze ⟨(C.φ id).blk,arr.size,none⟩ 1)
  unfold World.freeze
  rw[if_neg (by decide)]
  exact⟨rfl,rfl,rfl⟩
 obtain⟨X,hI⟩:=rO (D:=⟨C.φ,C.H,w'⟩) I hrest hg' (o':=BW.row tl fz sz els) hset.symm (fun _ _=>rfl) (by show C.w.heap.size≤w'.heap.size;omega) (fun b _ hne=>hother b hne) (.inl rfl) (fun e=>by cases e)
  (fun _ fz' sz' els' e=>by cases e;exact⟨_,_,_,rfl,Nat.le_refl _,fun _=>rfl⟩)
 have hcell: ∀q,w'.cell? ⟨(C.φ id).blk,q,none⟩=C.w.cell? ⟨(C.φ id).blk,q,none⟩:=fun q=>by simp only[World.cell?,hnew,h1]
 refine⟨_,X,hI ⟨vss,arr,et,fr',⟨hnew,hfr1.1,hlb⟩,h2,h3,h4,AY.ext X h5,h6,fun j v hj=>by rw[hcell];exact h7 j v hj,fun _ q hq'=>hfz' q hq',fun _ q _ hq'=>hfz' q hq'⟩,rfl, .inl ⟨.slice (some ⟨(C.φ id).blk,off,none⟩) len cap,?_,?_⟩⟩
 ·simp only[execOp,ho,e1,Sem.run_bind,hrun,Result.andThen_ok,Sem.run_pure];rfl
 ·rw[←e1];exact Gc.ext X r0
theorem Ut: ∀{els:List (List AV)} {vss:List (List Value)} {l:List UInt8},AY C els vss→EL els=some l→ ∃ns:List Int,vss.flatten=ns.map (Value.int .u8)∧l=ns.map fun n=>UInt8.ofNat n.toNat
 |[],_,_,r,h=>by
  rw[show _=[]from r]
  simp only[EL,Option.some.injEq]at h
  subst h
  exact⟨[],rfl,rfl⟩
 |e::els,_,l,⟨v,q,e1,r1,r2⟩,h=>by
  unfold EL at h
  split at h
  ·rename_i he;cases he
  ·rename_i n r' he
   cases he
   obtain⟨l',hl,rfl⟩:=Option.map_eq_some_iff.1 h
   obtain⟨ns,h1,h2⟩:=Ut r2 hl
   obtain⟨u,us,e2,ru,e3⟩:=r1
   have e3':us=[]:=e3
   have ru':u= .int .u8 n:=ru
   subst e3';subst e2;subst ru'
   exact⟨n::ns,by rw[e1];simp[h1],by simp[h2]⟩
  ·cases h
theorem WG: ∀(ns:List Int) (b:ByteArray),ns.foldl (fun r n=>r.push (UInt8.ofNat n.toNat)) b=⟨b.data++(ns.map fun n=>UInt8.ofNat n.toNat).toArray⟩
 |[],b=>by apply ByteArray.ext;simp
 |n::ns,b=>by
  rw[List.foldl_cons,WG ns]
  apply ByteArray.ext
  simp[ByteArray.push]
theorem yR(I:Inv tb C)(F:By C f a nt){o:Oper}{s d e:TypeId}{x:AO}{y:Operand}(ho:o.op= .convert s d y)(hs:P.underlying s=some (.slice e))(he:P.underlying e=some (.int .u8))(hd:P.underlying d=some .string)(hx:Bk x y=true)
  {els:List (List AV)} {l:List UInt8} (h:EP C.H 1 (eval tb f x)=some els) (hl:EL els=some l):Yields tb C (.s l,none) ((execOp a.eval o).run P C.w):=by
 have r:=AJ I F hx
 refine Az I (v:= .string ⟨l.toArray⟩) ?_ rfl
 rcases bI I (by omega) r h with ⟨rfl,ev⟩|⟨q,cap,vss,ev,hlc,hh,hsz,hr⟩
 ·simp only[EL,Option.some.injEq]at hl
  subst hl
  simp only[execOp,ho,ev,Sem.run_bind,run_convert_bytes_string C.w s d e _ _ _ hs he hd]
  rfl
 ·obtain⟨ns,h1,h2⟩:=Ut hr hl
  have hlen:ns.length=els.length:=by
   have:=congrArg List.length h1
   rw[Fa _ (AY.lens (fun x hx=>(hsz x hx).1) hr),hr.length]at this
   simpa using this.symm
  have hload:(loadCells q els.length).run P C.w= .ok (ns.map (Value.int .u8)).toArray C.w:=by
   by_cases hne:els=[]
   ·subst hne
    have:ns=[]:=List.eq_nil_of_length_eq_zero (by simpa using hlen)
    subst this
    rfl
   ·obtain⟨b,base,rfl,hh2⟩:=hh hne
    have:=HC (P:=P) hh2
    rw[h1]at this
    simpa [hlen]using this
  have:=run_bytesToString (P:=P) C.w q els.length cap ns hload
  simp only[execOp,ho,ev,Sem.run_bind,run_convert_bytes_string C.w s d e _ _ _ hs he hd,this,Result.andThen_ok,Sem.run_pure]
  rw[WG,h2]
  rw[show ByteArray.empty.data= #[]from rfl];simp
theorem yA(I:Inv tb C)(F:By C f a nt){o:Oper}{t:TypeId}{x:AO}{y:Operand}(ho:o.op= .range t y)(ht:P.underlying t=some .string)(hx:Bk x y=true){l:List UInt8}(h:eval tb f x= .s l):
  Yields tb C (.ptr C.H.length 0,some (C.H++[BW.iter l 0])) ((execOp a.eval o).run P C.w):=by
 have r:=AJ I F hx
 rw[h]at r
 have e1:a.eval y= .string ⟨l.toArray⟩:=r
 have hlt:C.w.heap.size<(C.w.alloc (.stringIter ⟨l.toArray⟩ 0)).heap.size:=by rw[GU];omega
 refine L9 (w:=C.w.alloc (.stringIter ⟨l.toArray⟩ 0)) (v:= .pointer (some ⟨C.w.heap.size,0,none⟩)) I (p:=⟨C.w.heap.size,0,0⟩) ⟨rfl,rfl,rfl⟩ ?_ hlt rfl (fun b hb=>alloc_old _ _ hb) ?_ ?_
 ·simp only[execOp,ho,e1,Instr.range,Sem.run_bind,Av ht,Result.andThen_ok,Sem.run_pure,run_newObj]
  rfl
 ·exact Ij _ _
 ·intro hφ
  exact⟨⟨BW.iter l 0,by simp[D4.more],rfl⟩,by rw[hφ]⟩
theorem yB(I:Inv tb C)(F:By C f a nt){o:Oper}{x:AO}{y:Operand}(ho:o.op= .next y true)(hx:Bk x y=true){id:Nat}{l:List UInt8}{pos:Nat}(h:eval tb f x= .ptr id 0)(hi:W5 C.H id=some (l,pos)){r:AV×Option Ax}
  (hr:(if pos<l.length then some (AV.tup [.b true, .i .i64 pos, .i .i32 (Utf8.decode ⟨l.toArray⟩ pos).1],some (C.H.set id (BW.iter l (pos+(Utf8.decode ⟨l.toArray⟩ pos).2))))else some (AV.tup [.b false],none))=some r):
  Yields tb C r ((execOp a.eval o).run P C.w):=by
 have rv:=AJ I F hx
 rw[h]at rv
 obtain⟨_,e1⟩:=rv
 have hH:C.H[id]? =some (.iter l pos):=by
  simp only[W5]at hi
  split at hi
  ·rename_i l' p' hg;cases hi;exact hg
  ·cases hi
 have hobj:C.w.heap[(C.φ id).blk]? =some (.stringIter ⟨l.toArray⟩ pos):=I.obj id _ hH
 have hsize:(⟨l.toArray⟩:ByteArray).size=l.length:=by simp[ByteArray.size]
 have hget:(getObj (C.φ id).blk).run P C.w= .ok (.stringIter ⟨l.toArray⟩ pos) C.w:=by
  simp[getObj,Sem.run,hobj]
 by_cases hp:pos<l.length
 ·rw[if_pos hp]at hr
  cases hr
  have hlt:=I.lt id (Bb hH)
  have hset:(setObj (C.φ id).blk (.stringIter ⟨l.toArray⟩ (pos+(Utf8.decode ⟨l.toArray⟩ pos).2))).run P C.w= .ok () {C.w with heap:=C.w.heap.setIfInBounds (C.φ id).blk (.stringIter ⟨l.toArray⟩ (pos+(Utf8.decode ⟨l.toArray⟩ pos).2))}:=by
   simp[setObj,Sem.run,hobj]
  let D:D4:=⟨C.φ,C.H.set id (.iter l (pos+(Utf8.decode ⟨l.toArray⟩ pos).2)),{C.w with heap:=C.w.heap.setIfInBounds (C.φ id).blk (.stringIter ⟨l.toArray⟩ (pos+(Utf8.decode ⟨l.toArray⟩ pos).2))}⟩
  obtain⟨X,hI⟩:=rO (D:=D) I ⟨rfl,rfl,rfl⟩ hH rfl (fun _ _=>rfl) (by simp[D]) (fun b hb hne=>by simp only[D];rw[Array.getElem?_setIfInBounds_ne (Ne.symm hne)]) (.inl rfl) (fun _=>⟨rfl,rfl⟩) (fun _ fz sz els h=>by cases h)
  refine⟨D,X,hI (by simp[Obj,D,hlt]),rfl, .inl ⟨.tuple #[.bool true, .int .i64 pos, .int .i32 (Utf8.decode ⟨l.toArray⟩ pos).1],?_,⟨[.bool true, .int .i64 pos, .int .i32 (Utf8.decode ⟨l.toArray⟩ pos).1],rfl,_,_,rfl,rfl,_,_,rfl,rfl,_,_,rfl,rfl,rfl⟩⟩⟩
  simp only[execOp,ho,e1,Instr.next,Sem.run_bind,hget,Result.andThen_ok,hsize,if_pos hp,hset,Sem.run_pure]
  rfl
 ·rw[if_neg hp]at hr
  cases hr
  refine Az I (v:= .tuple #[.bool false]) ?_ ⟨[.bool false],rfl,_,_,rfl,rfl,rfl⟩
  simp only[execOp,ho,e1,Instr.next,Sem.run_bind,hget,Result.andThen_ok,hsize,if_neg hp,Sem.run_pure]
end
end Go.Proofs.YtobejhpigbllpaaGreatDoor.Am
namespace Go.Proofs.YtobejhpigbllpaaGreatDoor.Am
section
variable{cl:Nat→List AV→Ax→Lb}{P:Program}{tb:Dg}{C:D4}{f:Fr}{a:Act}{nt:Nat}
theorem yT(I:Inv tb C)(F:By C f a nt){o:Oper}{s d t:TypeId}{j:TypeInfo}{x:AO}{y:Operand}(ho:o.op= .convert s d y)(hs:P.underlying s=some (.pointer t))(hd:P.underlying d=some .unsafePointer)(ht:P.info? t=some j)(hj:j.size≠0)
  (hx:Bk x y=true) {r:AV×Option Ax} (h:Bz tb cl (eval tb f) C.H (.cvp x)=some r):Yields tb C r ((execOp a.eval o).run P C.w):=by
 have r1:=AJ I F hx
 simp only[Bz]at h
 split at h
 ·rename_i hv
  cases h
  rw[hv]at r1
  have e1:a.eval y= .pointer none:=r1
  have hrun:(convert s d (.pointer none)).run P C.w= .ok (.pointer none) C.w:=by
   simp[convert,Av hs,Av hd,Conv.unsafePointer]
  exact Az I (v:= .pointer none) (by simp only[execOp,ho,e1,Sem.run_bind,hrun,Result.andThen_ok,Sem.run_pure]) rfl
 ·rename_i id off hv
  obtain⟨cs,hcs,h⟩:=Option.bind_eq_some_iff.1 h
  split at h
  ·rename_i hlt
   cases h
   rw[hv]at r1
   have r0:=r1
   obtain⟨_,e1⟩:=r1
   obtain⟨tl,hg,_⟩:=Np hcs
   obtain⟨vs,arr,e,fr,⟨h1,_⟩,h2,_⟩:=I.obj id _ hg
   have hsh:C.w.shape? (C.φ id).blk=some (e,arr.size):=by simp only[World.shape?,h1]
   have hrun:=Lib.run_to_unsafe (P:=P) C.w ⟨(C.φ id).blk,off,none⟩ hs hd ht hj hsh (by rw[h2];exact hlt)
   exact Az I (v:= .pointer (some ⟨(C.φ id).blk,off,none⟩)) (by simp only[execOp,ho,e1,Sem.run_bind,hrun,Result.andThen_ok,Sem.run_pure]) (e1▸r0)
  ·cases h
 ·cases h
theorem yQ(I:Inv tb C)(F:By C f a nt){o:Oper}{s d u t n:Nat}{j:TypeInfo}{x:AO}{y:Operand}(ho:o.op= .convert s d y)(hs:P.underlying s=some .unsafePointer)(hd:P.underlying d=some (.pointer u))(hu:P.info? u=some j)
  (hl:liesAt P P.depth t (n/P.cellsOf t) 0 u 1=true) (hx:Bk x y=true) {r:AV×Option Ax} (h:Bz tb cl (eval tb f) C.H (.cvu t n x)=some r):Yields tb C r ((execOp a.eval o).run P C.w):=by
 have r1:=AJ I F hx
 simp only[Bz]at h
 split at h
 ·rename_i hv
  cases h
  rw[hv]at r1
  have e1:a.eval y= .pointer none:=r1
  have hrun:(convert s d (.pointer none)).run P C.w= .ok (.pointer none) C.w:=by
   simp[convert,Av hs,Av hd,Conv.unsafePointer]
  exact Az I (v:= .pointer none) (by simp only[execOp,ho,e1,Sem.run_bind,hrun,Result.andThen_ok,Sem.run_pure]) rfl
 ·rename_i id off hv
  obtain⟨cs,hcs,h⟩:=Option.bind_eq_some_iff.1 h
  split at h
  ·rename_i hlt
   cases h
   obtain⟨rfl,hn,hlab⟩:=hlt
   rw[hv]at r1
   have r0:=r1
   obtain⟨_,e1⟩:=r1
   obtain⟨tl,hg,hlab'⟩:=Np hcs
   obtain⟨vs,arr,e,fr,⟨h1,hb⟩,h2,_⟩:=I.obj id _ hg
   have het:e=t:=hb t (by rw[←hlab',hlab])
   subst het
   have hsh:C.w.shape? (C.φ id).blk=some (e,arr.size):=by simp only[World.shape?,h1]
   have hrun:=Lib.run_from_unsafe (P:=P) C.w ⟨(C.φ id).blk,0,none⟩ hs hd hu hsh (by rw[h2,hn];exact hl)
   exact Az I (v:= .pointer (some ⟨(C.φ id).blk,0,none⟩)) (by simp only[execOp,ho,e1,Sem.run_bind,hrun,Result.andThen_ok,Sem.run_pure]) (e1▸r0)
  ·cases h
 ·cases h
theorem sG(I:Inv tb C)(F:By C f a nt){o:Oper}{c:Call}{t e:TypeId}{x:AO}{y:Operand}(ho:o.op= .call c)(hc:c.callee= .builtin .cap)(ht:c.argTypes[0]? =some t)(ha:c.args= #[y])
  (hx:Bk x y=true) (h:eval tb f x= .nils) (hu:P.underlying t=some (.slice e)):Yields tb C (.i .i64 0,none) ((execOp a.eval o).run P C.w):=by
 have r:=AJ I F hx
 rw[h]at r
 have r':a.eval y= .slice none 0 0:=r
 refine Az I (v:= .int .i64 0) (Ec ho hc fun q=> ?_) rfl
 simp only[ha,List.map_toArray,List.map_cons,List.map_nil,builtin,Sem.run_bind,Builtin.cap_,ht]
 simp[r',Av hu,goInt]
theorem eqIn_nn(d:Nat){t:TypeId}{x1}(hu:P.underlying t=some (.interface x1))(w:World):(Op.equalIn (d+1) t .nilIface .nilIface).run P w= .ok true w:=by
 simp only[Op.equalIn,Sem.run_bind,Av hu,Result.andThen_ok,Sem.run_pure]
theorem sE(I:Inv tb C)(F:By C f a nt){o:Oper}{op:BinOp}{t t':TypeId}{ms:Array (String×TypeId)}{neg:Bool}{x:AO}{p:Operand}(ho:o.op= .binOp op t p (.const .nilIface) t')(h0:op=if neg then .neq else .eql)(ht:P.underlying t=some (.interface ms))
  (hx:Bk x p=true) {r:AV×Option Ax} (h:Bz tb cl (eval tb f) C.H (.isni neg x)=some r):Yields tb C r ((execOp a.eval o).run P C.w):=by
 have r1:=AJ I F hx
 simp only[Bz]at h
 have fin: ∀(v:Value) (b:Bool),a.eval p=v→r=(.b (if neg then !b else b),none)→(Op.equalIn 10000 t v .nilIface).run P C.w= .ok b C.w→(∀l,v≠ .agg l)→(∀k n,v≠ .int k n)→Yields tb C r ((execOp a.eval o).run P C.w):=by
  rintro v b e rfl hq h3 h4
  have hg:(eqGuard op t p (.const .nilIface) v .nilIface).run P C.w= .ok () C.w:=by
   cases v<;>first
    |exact absurd rfl (h3 _)
    |(simp only[eqGuard];split<;>rfl)
    |(simp only[eqGuard];cases p<;>(split<;>rfl))
  have q2: ∀op,(op= .eql→(Go.binOp op t v .nilIface).run P C.w= .ok (.bool b) C.w)∧(op= .neq→(Go.binOp op t v .nilIface).run P C.w= .ok (.bool (!b)) C.w):=
   fun op=>FE hq (.inr (.inr (.inr (.inr (.inr (.inl ⟨.inr rfl,fun k n=>⟨h4 k n,fun e=>(by cases e)⟩⟩))))))
  have ec:a.eval (.const .nilIface)= .nilIface:=rfl
  cases neg with
  |true=>
   simp only[if_true]at h0
   refine Az I (v:= .bool (!b)) ?_ rfl
   simp only[execOp,ho,e,ec,Sem.run_bind,hg,Result.andThen_ok,(q2 op).2 h0,Sem.run_pure]
  |false=>
   simp only[Bool.false_eq_true,if_false]at h0
   refine Az I (v:= .bool b) ?_ rfl
   simp only[execOp,ho,e,ec,Sem.run_bind,hg,Result.andThen_ok,(q2 op).1 h0,Sem.run_pure]
 split at h
 ·rename_i hv
  rw[hv]at r1
  cases h
  refine fin .nilIface true r1 (by cases neg<;>rfl) ?_ (fun l e=>by cases e) (fun k n e=>by cases e)
  exact eqIn_nn 9999 ht C.w
 ·rename_i hv
  rw[hv]at r1
  cases h
  obtain⟨u,z,e,_⟩:=r1
  exact fin (.iface u z) false e (by cases neg<;>rfl) (nR 9999 ht C.w) (fun l e=>by cases e) (fun k n e=>by cases e)
 ·cases h
theorem yO(I:Inv tb C)(F:By C f a nt){o:Oper}{op:BinOp}{t u t':TypeId}{j:TypeInfo}{neg:Bool}{x y:AO}{p q:Operand}(ho:o.op= .binOp op t p q t')(h0:op=if neg then .neq else .eql)(ht:P.underlying t=some (.pointer u))(hu:P.info? u=some j)
  (hx:Bk x p=true) (hy:Bk y q=true) {r:AV×Option Ax} (h:Bz tb cl (eval tb f) C.H (.eqp neg x y)=some r):Yields tb C r ((execOp a.eval o).run P C.w):=by
 have r1:=AJ I F hx
 have r2:=AJ I F hy
 simp only[Bz]at h
 split at h
 ·rename_i i1 o1 i2 o2 hv1 hv2
  split at h
  ·rename_i hc
   obtain⟨rfl,rfl⟩:=hc
   cases h
   rw[hv1]at r1
   rw[hv2]at r2
   obtain⟨_,e1⟩:=r1
   obtain⟨_,e2⟩:=r2
   have hg:(eqGuard op t p q (.pointer (some ⟨(C.φ i1).blk,o1,none⟩)) (.pointer (some ⟨(C.φ i1).blk,o1,none⟩))).run P C.w= .ok () C.w:=Ni p q C.w (fun l e=>by cases e) (.inl fun e=>by cases e) op
   refine Az I (v:= .bool (!neg)) ?_ rfl
   cases neg
   ·simp only[Bool.false_eq_true,if_false]at h0
    subst h0
    have:=run_eql_ptr_same (P:=P) C.w ⟨(C.φ i1).blk,o1,none⟩ ht hu
    simp only[execOp,ho,e1,e2,Sem.run_bind,hg,this,Result.andThen_ok,Sem.run_pure]
    rfl
   ·simp only[if_true]at h0
    subst h0
    have:=Lib.run_neq_ptr_same (P:=P) C.w ⟨(C.φ i1).blk,o1,none⟩ ht hu
    simp only[execOp,ho,e1,e2,Sem.run_bind,hg,this,Result.andThen_ok,Sem.run_pure]
    rfl
  ·cases h
 ·cases h
theorem xV(I:Inv tb C)(F:By C f a nt){o:Oper}{c:Call}{x:AO}{y:Operand}(ho:o.op= .call c)(hc:c.callee= .builtin .unsafeSliceData)(ha:c.args= #[y])(hx:Bk x y=true){r:AV×Option Ax}(h:Bz tb cl (eval tb f) C.H (.usd x)=some r):
  Yields tb C r ((execOp a.eval o).run P C.w):=by
 have r1:=AJ I F hx
 have run: ∀{v},(Builtin.unsafeSliceData_ c.argTypes o.type #[a.eval y]).run P C.w= .ok v C.w→(execOp a.eval o).run P C.w= .ok (.value v) C.w:=by
  intro v hv
  refine Ec ho hc fun q=> ?_
  simp only[ha,List.map_toArray,List.map_cons,List.map_nil,builtin,Sem.run_bind,hv,Result.andThen_ok,Sem.run_pure]
 simp only[Bz]at h
 split at h
 ·rename_i hv
  cases h
  rw[hv]at r1
  have e1:a.eval y= .slice none 0 0:=r1
  exact Az I (v:= .pointer none) (run (by rw[e1];rfl)) rfl
 ·rename_i id n lo len hv
  obtain⟨q,hq,h⟩:=Option.bind_eq_some_iff.1 h
  split at h
  ·rename_i hcond
   obtain⟨hn,hle,hpos⟩:=hcond
   cases h
   rw[hv]at r1
   obtain⟨_,fz,sz,els,hg,hl,k⟩:=r1
   have hq':q=(fz,sz,els):=by rw[hg]at hq;exact(Option.some.inj hq).symm
   subst hq'
   obtain⟨_,off,cap,e1,hlc,hoff,hsize,hbo⟩:=k hn
   have hrun:=Lib.run_unsafeSliceData_row (P:=P) C.w c.argTypes o.type ⟨(C.φ id).blk,off,none⟩ len cap (by omega)
   refine Az I (v:= .pointer (some ⟨(C.φ id).blk,off,none⟩)) (run (by rw[e1];exact hrun)) ?_
   exact⟨⟨_,rfl⟩,fz,sz,els,hg,hl,fun _=>by rw[hoff hpos,Nat.add_zero]⟩
  ·cases h
 ·cases h
theorem eH{e:TypeId}(hc:P.cellsOf e=1)(count off n:Nat)(hn:off+n≤count):liesAt P P.depth e count off e n=true:=by
 have hd:P.depth=(2*(P.types.size+Made.depth)+1)+1:=rfl
 rw[hd]
 simp only[liesAt,Bool.or_eq_true]
 left
 rw[hd]
 simp[Go.rowAt,hc,hn,sameLayout,Nat.mod_one]
theorem Qx(w:World)(b:Nat): ∀(els:List (List AV)) (vss:List (List Value)) (l:List UInt8) (o:Nat) (acc:ByteArray),AY C els vss→EL els=some l→DY w b o vss.flatten→
  (loadBytes ⟨b,o,none⟩ acc els.length).run P w= .ok ⟨acc.data++l.toArray⟩ w
 |[],_,l,o,acc,_,h,_=>by
  simp only[EL,Option.some.injEq]at h
  subst h
  simp[loadBytes]
 |e::els,vss,l,o,acc,r,h,hh=>by
  obtain⟨v,q,e1,r1,r2⟩:=r
  subst e1
  unfold EL at h
  split at h
  ·rename_i he;cases he
  ·rename_i n r' he
   cases he
   obtain⟨l',hl,rfl⟩:=Option.map_eq_some_iff.1 h
   obtain⟨u,us,e2,ru,e3⟩:=r1
   have e3':us=[]:=e3
   have ru':u= .int .u8 n:=ru
   subst e3';subst e2;subst ru'
   have h0:w.cell? ⟨b,o,none⟩=some (.int .u8 n):=by
    have:=hh 0 (.int .u8 n) rfl
    simpa using this
   have hh':DY w b (o+1) q.flatten:=fun j v hj=>by
    have:=hh (j+1) v (by simpa using hj)
    rwa [show o+(j+1)=o+1+j by omega]at this
   have ih:=Qx w b els q l' (o+1) (acc.push n.toNat.toUInt8) r2 hl hh'
   simp only[List.length_cons,loadBytes,Sem.run_bind,run_load,h0,Result.andThen]
   have e4:(⟨b,o,none⟩:Addr).add 1=⟨b,o+1,none⟩:=rfl
   rw[e4,ih]
   congr 1
   apply ByteArray.ext
   simp[ByteArray.push]
  ·cases h
theorem xU(I:Inv tb C)(F:By C f a nt){o:Oper}{c:Call}{pt it t:TypeId}{x n:AO}{y1 y2:Operand}(ho:o.op= .call c)(hc:c.callee= .builtin .unsafeString)(ha:c.args= #[y1,y2])(hty:c.argTypes= #[pt,it])(hp:P.underlying pt=some (.pointer t))(ht:P.cellsOf t=1)
  (hx:Bk x y1=true) (hn:Bk n y2=true) {r:AV×Option Ax} (h:Bz tb cl (eval tb f) C.H (.ust t x n)=some r):Yields tb C r ((execOp a.eval o).run P C.w):=by
 have r1:=AJ I F hx
 simp only[Bz]at h
 obtain⟨k,hk,h⟩:=Option.bind_eq_some_iff.1 h
 obtain⟨k1,_,e2⟩:=It (AJ I F hn) hk
 have run: ∀{v w},(Builtin.unsafeString_ #[pt,it] o.type #[a.eval y1, .int k1 k]).run P C.w= .ok v w→(execOp a.eval o).run P C.w= .ok (.value v) w:=by
  intro v w hv
  refine Ec ho hc fun q=> ?_
  simp only[ha,hty,List.map_toArray,List.map_cons,List.map_nil,builtin,Sem.run_bind,e2,hv,Result.andThen_ok,Sem.run_pure]
 have hmax:IntKind.i64.max=9223372036854775807:=rfl
 have hdef: ∀q:Option Addr,Builtin.unsafeString_ #[pt,it] o.type #[.pointer q, .int k1 k]=
   (do
    let n←asInt (.int k1 k)
    if n<0 then runtimePanic (.error "unsafe.String: len out of range")
    if n>IntKind.i64.max then unsupported (.unsafePointer "String: a length above the largest int")
    match q with
    |none=>
     if n=0 then pure (.string .empty)
     else runtimePanic (.error "unsafe.String: ptr is nil and len is not zero")
    |some a=>
     if n=0 then pure (.string .empty)
     else if←variablesAt a (←elemOf pt) n.toNat then do
      let s←loadBytes a .empty n.toNat
      freeze a n.toNat
      pure (.string s)
     else unsupported (.unsafePointer "String: not so many bytes at ptr")):=fun _=>rfl
 split at h
 ·rename_i hv
  split at h
  ·rename_i hk0
   subst hk0
   cases h
   rw[hv]at r1
   have e1:a.eval y1= .pointer none:=r1
   refine Az I (v:= .string .empty) (run ?_) rfl
   rw[e1,hdef]
   simp[asInt,asIntOf,hmax]
  ·cases h
 ·rename_i id m i off hv
  obtain⟨q,hq,g⟩:=Option.bind_eq_some_iff.1 h
  clear h
  split at g
  ·rename_i hcond
   obtain⟨hoff0,hpos,hm,hle,hsz,hlab,hmost⟩:=hcond
   subst hoff0
   obtain⟨l,hl,rfl⟩:=Option.map_eq_some_iff.1 g
   rw[hv]at r1
   obtain⟨_,fz,sz,els,hg,hl1,kk⟩:=r1
   have hq':q=(fz,sz,els):=by rw[hg]at hq;exact(Option.some.inj hq).symm
   subst hq'
   simp only at hm hle hsz hl
   subst hsz
   have e1:=kk hm
   obtain⟨tl,hg',hlab'⟩:=Iv hg
   obtain⟨vss,arr,et,fr,⟨h1,hfr0,hlb⟩,h2,h3,h4,h5,h6,h7,h8,h9⟩:=I.obj id _ hg'
   have het:et=t:=hlb t (by rw[←hlab',hlab])
   subst het
   have hlens:=AY.lens (fun x hx=>(h4 x hx).1) h5
   have hkn:((els.drop i).take k.toNat).length=k.toNat:=by simp only[List.length_take,List.length_drop];omega
   have hh:DY C.w (C.φ id).blk ((C.φ id).base+i) ((vss.drop i).take k.toNat).flatten:=by
    have:=h7.sub (i*1) (k.toNat*1)
    rw[Nat.mul_one]at this
    intro j v hj
    refine this j v ?_
    rw[E0 (sz:=1) _ _ (fun x hx=>hlens x (List.mem_of_mem_drop hx)),EW (sz:=1) _ _ hlens]at hj
    simpa using hj
   have hload:=Qx (P:=P) (C:=C) C.w (C.φ id).blk _ _ l ((C.φ id).base+i) .empty (AY.take (n:=k.toNat) (AY.drop (n:=i) h5)) hl hh
   rw[hkn]at hload
   have hsh:C.w.shape? (C.φ id).blk=some (et,arr.size):=by simp only[World.shape?,h1]
   have hlies:=eH (P:=P) ht (arr.size/P.cellsOf et) ((C.φ id).base+i) k.toNat (by rw[ht,Nat.div_one,h2];omega)
   let w':=C.w.freeze ⟨(C.φ id).blk,(C.φ id).base+i,none⟩ k.toNat
   have hk0:k.toNat≠0:=by omega
   let fr':Nat×Nat:=if fr.1==fr.2 then((C.φ id).base+i,(C.φ id).base+i+k.toNat)else(min fr.1 ((C.φ id).base+i),max fr.2 ((C.φ id).base+i+k.toNat))
   have hnew:w'.heap[(C.φ id).blk]? =some (.cells arr et fr'):=by
    show(C.w.freeze ⟨(C.φ id).blk,(C.φ id).base+i,none⟩ k.toNat).heap[(C.φ id).blk]? =_
    unfold World.freeze
    rw[if_neg hk0]
    simp only[Array.getElem?_modify,if_true,h1,Option.map_some]
    rfl
   have hother: ∀b,b≠(C.φ id).blk→w'.heap[b]? =C.w.heap[b]? :=fun b hb=>by
    show(C.w.freeze ⟨(C.φ id).blk,(C.φ id).base+i,none⟩ k.toNat).heap[b]? =_
    unfold World.freeze
    rw[if_neg hk0]
    simp only[Array.getElem?_modify,if_neg (Ne.symm hb)]
   have hsz':w'.heap.size=C.w.heap.size:=by
    show(C.w.freeze ⟨(C.φ id).blk,(C.φ id).base+i,none⟩ k.toNat).heap.size=_
    unfold World.freeze
    rw[if_neg hk0]
    simp
   have hfr1:fr'.1≤fr'.2:=by
    show(if fr.1==fr.2 then((C.φ id).base+i,(C.φ id).base+i+k.toNat)else(min fr.1 ((C.φ id).base+i),max fr.2 ((C.φ id).base+i+k.toNat))).1≤(if fr.1==fr.2 then((C.φ id).base+i,(C.φ id).base+i+k.toNat)else(min fr.1 ((C.φ id).base+i),max fr.2 ((C.φ id).base+i+k.toNat))).2
    split
    ·simp
    ·simp only;omega
   have hrest:Rest C.w w':=by
    show Rest C.w (C.w.freeze ⟨(C.φ id).blk,(C.φ id).base+i,none⟩ k.toNat)
    unfold World.freeze
    rw[if_neg hk0]
    exact⟨rfl,rfl,rfl⟩
   obtain⟨X,hI⟩:=rO (D:=⟨C.φ,C.H.set id (BW.row tl true 1 els),w'⟩) I hrest hg' (o':=BW.row tl true 1 els) rfl (fun _ _=>rfl) (by show C.w.heap.size≤w'.heap.size;omega) (fun b _ hne=>hother b hne) (.inl rfl) (fun e=>by cases e)
    (fun _ fz' sz' els' e=>by cases e;exact⟨_,_,_,rfl,Nat.le_refl _,fun _=>rfl⟩)
   have hcell: ∀q,w'.cell? ⟨(C.φ id).blk,q,none⟩=C.w.cell? ⟨(C.φ id).blk,q,none⟩:=fun q=>by simp only[World.cell?,hnew,h1]
   refine⟨_,X,hI ⟨vss,arr,et,fr',⟨hnew,hfr1,hlb⟩,h2,h3,h4,AY.ext X h5,h6,fun j v hj=>by rw[hcell];exact h7 j v hj,fun f=>(by cases f),fun f=>(by cases f)⟩,by simp only[Option.getD_some,hlab'], .inl ⟨.string ⟨l.toArray⟩,run ?_,rfl⟩⟩
   rw[e1,Nat.mul_one,Nat.add_zero]
   have h63: ¬k>IntKind.i64.max:=by rw[hmax];unfold B4 at hmost;omega
   have hneg: ¬k<0:=by omega
   have hk00: ¬k=0:=by omega
   rw[hdef]
   have h63': ¬(9223372036854775807:Int)<k:=by rw[hmax]at h63;exact h63
   simp[asInt,asIntOf,hmax,h63',hneg,hk00,variablesAt,hsh,elemOf,Av hp,hlies,hload]
   rfl
  ·cases g
 ·cases h
end
end Go.Proofs.YtobejhpigbllpaaGreatDoor.Am
namespace Go.Proofs.YtobejhpigbllpaaGreatDoor.Am
def oP(tb:Dg)(C:D4)(r:AV×Option Ax)(e:Ending)(w:World):Prop:=
 ∃(v:Value) (D:D4),e= .returned v∧KM C D∧Inv tb D∧D.w=w∧D.H=r.2.getD C.H∧Gc D r.1 v
def oO(P:Program)(tb:Dg)(C:D4)(r:AV×Option Ax)(x:Result Next):Prop:=
 Yields tb C r x∨ ∃(g:Nat) (vs:Array Value),x= .ok (.enter g vs) C.w∧Calls P g vs C.w (oP tb C r)
def Fs(P:Program)(tb:Dg)(cl:Nat→List AV→Ax→Lb):Prop:=
 ∀(g:Nat) (C:D4) (args:List AV) (vs:List Value) (r:AV×Option Ax),Inv tb C→Bg C args vs→cl g args C.H=some r→oO P tb C r ((callFunc g vs.toArray).run P C.w)
def oN(P:Program)(tb:Dg):Prop:= ∀g p,tb.prim g=some p→Fs P tb fun g' args h=>if g'=g then p args h else none
theorem O6{P:Program}{tb:Dg}{cl:Nat→List AV→Ax→Lb}(hp:oN P tb)(hc:Fs P tb cl):Fs P tb fun g args h=>B6 tb cl h g args:=by
 intro g C args vs r I hr h
 simp only[B6]at h
 split at h
 ·rename_i p hpg
  exact hp g p hpg g C args vs r I hr (by simpa using h)
 ·exact hc g C args vs r I hr h
theorem TF{P:Program}{tb:Dg}{C:D4}{a:Act}{o:Oper}{r:AV×Option Ax}(h:oO P tb C r ((execOp a.eval o).run P C.w)){next:Act→World→Prop}{Q:Exit→Act→World→Prop}
  (k: ∀(v:Value) (D:D4),KM C D→Inv tb D→D.H=r.2.getD C.H→Gc D r.1 v→next (a.put o.dst v) D.w):o.wp P a C.w next Q:=by
 rcases h with h|⟨g,vs,e,hc⟩
 ·exact Zu h k
 ·unfold Oper.wp
  rw[e]
  refine hc.mono fun e w' ⟨v,D,he,X,I,hw,hH,hr⟩=> ?_
  subst he
  subst hw
  exact k v D X I hH hr
def D3(P:Program)(tb:Dg)(ao:Im)(o:Oper):Prop:=
 ∀{cl:Nat→List AV→Ax→Lb} {C:D4} {f:Fr} {a:Act} {nt:Nat} {r:AV×Option Ax},Fs P tb (fun g args h=>B6 tb cl h g args)→Inv tb C→By C f a nt→
  Bz tb cl (eval tb f) C.H ao=some r→oO P tb C r ((execOp a.eval o).run P C.w)
section
variable{P:Program}{tb:Dg}{o:Oper}
def isSlice(P:Program)(t e:TypeId):Bool:=match P.underlying t with
 |some (.slice e')=>e==e'
 |_=>false
def LQ(P:Program)(t:TypeId):Option TypeId:=match P.underlying t with
 |some (.slice e)=>some e
 |_=>none
theorem Ew{t e:TypeId}(h:LQ P t=some e):P.underlying t=some (.slice e):=by
 unfold LQ at h
 split at h
 ·rename_i e' hu;rw[hu];simp at h;rw[h]
 ·cases h
def mB(P:Program)(t:TypeId):Option (Nat×TypeId):=match P.underlying t with
 |some (.array n e)=>some (n,e)
 |_=>none
theorem Nq{t e:TypeId}{n:Nat}(h:mB P t=some (n,e)):P.underlying t=some (.array n e):=by
 unfold mB at h
 split at h
 ·rename_i n' e' hu;rw[hu];simp at h;rw[h.1,h.2]
 ·cases h
def Vc(P:Program)(t:TypeId):Option (Array Field):=match P.underlying t with
 |some (.struct fs)=>some fs
 |_=>none
theorem Rt{t:TypeId}{fs:Array Field}(h:Vc P t=some fs):P.underlying t=some (.struct fs):=by
 unfold Vc at h
 split at h
 ·rename_i fs' hu;rw[hu];simp at h;rw[h]
 ·cases h
def Q2(P:Program)(t:TypeId):Bool:=match P.underlying t with
 |some .string=>true
 |_=>false
theorem GH{t:TypeId}(h:Q2 P t=true):P.underlying t=some .string:=by
 unfold Q2 at h
 split at h
 ·assumption
 ·cases h
def vD(P:Program)(t:TypeId):Option IntKind:=match P.underlying t with
 |some (.int k)=>some k
 |_=>none
theorem kN{t:TypeId}{k:IntKind}(h:vD P t=some k):P.underlying t=some (.int k):=by
 unfold vD at h
 split at h
 ·rename_i fs' hu;rw[hu];simp at h;rw[h]
 ·cases h
def nK(P:Program)(t:TypeId):Bool:=match P.underlying t with
 |some (.interface _)=>true
 |_=>false
def okMv(P:Program)(x:AO)(o:Oper):Bool:=match o.op with
 | .move y=>Bk x y
 | .assign y=>Bk x y
 | .call c=>match c.callee,c.args.toList,(c.argTypes[0]?).bind (mB P),x with
  | .builtin .len,[_],some (n,_), .k (.i .i64 m)=>m==n
  |_,_,_,_=>false
 |_=>false
theorem ok_mv{x:AO}(h:okMv P x o=true):D3 P tb (.mv x) o:=by
 intro cl C f a nt r hc I F hr
 simp only[Bz,Option.some.injEq]at hr
 subst hr
 unfold okMv at h
 split at h
 ·rename_i y ho;exact .inl (rZ I F (.inl ho) h)
 ·rename_i y ho;exact .inl (rZ I F (.inr ho) h)
 ·rename_i c ho
  split at h
  ·rename_i y n e m hcal hargs hty
   have hm:m=(n:Int):=by simpa using h
   subst hm
   obtain⟨t,ht,hu⟩:=Option.bind_eq_some_iff.1 hty
   have hargs':c.args= #[y]:=by rw[←Array.toList_inj,hargs]
   refine .inl (Az I (v:= .int .i64 n) (Ec ho hcal fun q=> ?_) rfl)
   simp[hargs',builtin,Builtin.len_,ht,Av (Nq hu),goInt]
  ·cases h
 ·cases h
def jL(x y z:AO)(o:Oper):Bool:=match o.op with
 | .pick a b c=>Bk x a&&Bk y b&&Bk z c
 |_=>false
theorem zM{x y z:AO}(h:jL x y z o=true):D3 P tb (.pick x y z) o:=by
 intro cl C f a nt r hc I F hr
 unfold jL at h
 split at h
 ·rename_i a b c ho
  simp only[Bool.and_eq_true]at h
  simp only[Bz]at hr
  split at hr
  ·rename_i t ht
   simp only[Option.some.injEq]at hr
   subst hr
   exact .inl (rX I F ho h.1.1 h.1.2 h.2 ht)
  ·cases hr
 ·cases h
def ZV(P:Program)(t0:Nat)(z:List AV)(o:Oper):Bool:=match o.op with
 | .alloc t=>match(P.info? t).bind (·.zero)with
  |some zv=>Nat.beq t0 t&&NJ z zv.cells.toList
  |none=>false
 |_=>false
theorem tC{t0:Nat}{z:List AV}(h:ZV P t0 z o=true):D3 P tb (.alloc t0 z) o:=by
 intro cl C f a nt r hc I F hr
 unfold ZV at h
 split at h
 ·rename_i t ho
  split at h
  ·rename_i zv hz
   obtain⟨i,hi,hz2⟩:=Option.bind_eq_some_iff.1 hz
   simp only[Bz,Option.some.injEq]at hr
   subst hr
   rw[Bool.and_eq_true]at h
   obtain rfl:=Nat.eq_of_beq_eq_true h.1
   exact .inl (oW I ho hi hz2 h.2)
  ·cases h
 ·cases h
def uK(t0 n:Nat)(x:AO)(o:Oper):Bool:=match o.op with
 | .box t y=>(Bk x y&&decide (0<n))&&Nat.beq t0 t
 |_=>false
theorem ok_box{t0 n:Nat}{x:AO}(h:uK t0 n x o=true):D3 P tb (.box t0 n x) o:=by
 intro cl C f a nt r hc I F hr
 unfold uK at h
 split at h
 ·rename_i t y ho
  rw[Bool.and_eq_true]at h
  obtain rfl:=Nat.eq_of_beq_eq_true h.2
  replace h:=h.1
  simp only[Bool.and_eq_true,decide_eq_true_eq]at h
  simp only[Bz]at hr
  split at hr
  ·rename_i hn
   simp only[Option.some.injEq]at hr
   subst hr
   exact .inl (yY I F ho h.1 (by omega))
  ·cases hr
 ·cases h
def okLd(P:Program)(ag:Bool)(n:Nat)(x:AO)(o:Oper):Bool:=match o.op with
 | .load t y=>Bk x y&&(P.underlying t).isSome&&ag==Fi P t&&n==P.cellsOf t
 |_=>false
theorem ok_ld{ag:Bool}{n:Nat}{x:AO}(h:okLd P ag n x o=true):D3 P tb (.ld ag n x) o:=by
 intro cl C f a nt r hc I F hr
 unfold okLd at h
 split at h
 ·rename_i t y ho
  simp only[Bool.and_eq_true,beq_iff_eq]at h
  obtain⟨⟨⟨h1,h2⟩,rfl⟩,rfl⟩:=h
  exact .inl (sim_ld I F ho h1 h2 hr)
 ·cases h
def okSt(P:Program)(n:Nat)(x z:AO)(o:Oper):Bool:=match o.op with
 | .store t y u=>Bk x y&&Bk z u&&(P.info? t).isSome&&n==P.cellsOf t&&decide (0<n)
 |_=>false
theorem ok_st{n:Nat}{x z:AO}(h:okSt P n x z o=true):D3 P tb (.st n x z) o:=by
 intro cl C f a nt r hc I F hr
 unfold okSt at h
 split at h
 ·rename_i t y u ho
  simp only[Bool.and_eq_true,beq_iff_eq,decide_eq_true_eq]at h
  obtain⟨⟨⟨⟨h1,h2⟩,h3⟩,rfl⟩,h4⟩:=h
  simp only[Bz]at hr
  obtain⟨H',hs,rfl⟩:=Option.map_eq_some_iff.1 hr
  exact .inl (sim_st I F ho h1 h2 h3 h4 hs)
 ·cases h
def jM(x:AO)(o:Oper):Bool:=match o.op with
 | .nilCheck y=>Bk x y
 |_=>false
theorem zN{x:AO}(h:jM x o=true):D3 P tb (.nilc x) o:=by
 intro cl C f a nt r hc I F hr
 unfold jM at h
 split at h
 ·rename_i y ho;exact .inl (rY I F ho h hr)
 ·cases h
def uM(op:BinOp)(x y:AO)(o:Oper):Bool:=match o.op with
 | .binOp op' _ u v _=>op==op'&&Bk x u&&Bk y v
 |_=>false
theorem ok_bin{op:BinOp}{x y:AO}(h:uM op x y o=true):D3 P tb (.bin op x y) o:=by
 intro cl C f a nt r hc I F hr
 unfold uM at h
 split at h
 ·rename_i op' t u v t' ho
  simp only[Bool.and_eq_true,beq_iff_eq]at h
  obtain⟨⟨rfl,h1⟩,h2⟩:=h
  exact .inl (zD I F ho h1 h2 hr)
 ·cases h
def okUn(op:UnOp)(x:AO)(o:Oper):Bool:=match o.op with
 | .unOp op' _ u=>op==op'&&Bk x u
 |_=>false
theorem ok_un{op:UnOp}{x:AO}(h:okUn op x o=true):D3 P tb (.un op x) o:=by
 intro cl C f a nt r hc I F hr
 unfold okUn at h
 split at h
 ·rename_i op' t u ho
  simp only[Bool.and_eq_true,beq_iff_eq]at h
  obtain⟨rfl,h1⟩:=h
  exact .inl (sim_un I F ho h1 hr)
 ·cases h
def uG(P:Program)(k:IntKind)(x:AO)(o:Oper):Bool:=match o.op with
 | .convert s d y=>Bk x y&&(P.underlying s).isSome&&vD P d==some k
 |_=>false
theorem ok_cvi{k:IntKind}{x:AO}(h:uG P k x o=true):D3 P tb (.cvi k x) o:=by
 intro cl C f a nt r hc I F hr
 unfold uG at h
 split at h
 ·rename_i s d y ho
  simp only[Bool.and_eq_true,beq_iff_eq]at h
  simp only[Bz]at hr
  split at hr
  ·rename_i k' n hn
   simp only[Option.some.injEq]at hr
   subst hr
   exact .inl (yU I F ho h.1.2 (kN h.2) h.1.1 (by rw[hn];rfl))
  ·cases hr
 ·cases h
def SV(P:Program)(x:AO)(o:Oper):Bool:=match o.op with
 | .convert s d y=>Bk x y&&(P.underlying s).isSome&&Q2 P d
 |_=>false
theorem zS{x:AO}(h:SV P x o=true):D3 P tb (.cvid x) o:=by
 intro cl C f a nt r hc I F hr
 unfold SV at h
 split at h
 ·rename_i s d y ho
  simp only[Bool.and_eq_true]at h
  simp only[Bz]at hr
  split at hr
  ·rename_i l hn
   simp only[Option.some.injEq]at hr
   subst hr
   exact .inl (sF I F ho h.1.2 (GH h.2) h.1.1 hn)
  ·cases hr
 ·cases h
theorem ok_cvc{x:AO}(h:SV P x o=true):D3 P tb (.cvc x) o:=by
 intro cl C f a nt r hc I F hr
 unfold SV at h
 split at h
 ·rename_i s d y ho
  simp only[Bool.and_eq_true]at h
  simp only[Bz]at hr
  split at hr
  ·rename_i k n hn
   simp only[Option.some.injEq]at hr
   subst hr
   exact .inl (yV I F ho h.1.2 (GH h.2) h.1.1 (by rw[hn];rfl))
  ·cases hr
 ·cases h
def tP [DecidableEq Fn](fn:Fn)(x1 x2:List AO)(o:Oper):Bool:=match o.op with
 | .makeFunc fn' y1 y2=>decide (fn=fn')&&OX x1 y1.toList&&OX x2 y2.toList
 |_=>false
theorem ok_mkf [DecidableEq Fn]{fn:Fn}{x1 x2:List AO}(h:tP fn x1 x2 o=true):D3 P tb (.mkf fn x1 x2) o:=by
 intro cl C f a nt r hc I F hr
 unfold tP at h
 split at h
 ·rename_i fn' y1 y2 ho
  simp only[Bool.and_eq_true,decide_eq_true_eq]at h
  obtain⟨⟨rfl,h1⟩,h2⟩:=h
  simp only[Bz,Option.some.injEq]at hr
  subst hr
  exact .inl (yF I F ho h1 h2)
 ·cases h
def jN(P:Program)(t:TypeId)(x:AO)(o:Oper):Bool:=match o.op with
 | .makeInterface t' y=>t==t'&&Bk x y&&(P.underlying t).isSome&& !nK P t
 |_=>false
theorem zO{t:TypeId}{x:AO}(h:jN P t x o=true):D3 P tb (.mkif t x) o:=by
 intro cl C f a nt r hc I F hr
 unfold jN at h
 split at h
 ·rename_i t' y ho
  simp only[Bool.and_eq_true,beq_iff_eq,Bool.not_eq_true']at h
  obtain⟨⟨⟨rfl,h1⟩,h2⟩,h3⟩:=h
  simp only[Bz,Option.some.injEq]at hr
  subst hr
  refine .inl (sA I F ho (fun m hm=> ?_) h2 h1)
  simp[nK,hm]at h3
 ·cases h
def tY(x:AO)(i:Nat)(o:Oper):Bool:=match o.op with
 | .extract y j=>Bk x y&&i==j
 |_=>false
theorem ok_ext{x:AO}{i:Nat}(h:tY x i o=true):D3 P tb (.ext x i) o:=by
 intro cl C f a nt r hc I F hr
 unfold tY at h
 split at h
 ·rename_i y j ho
  simp only[Bool.and_eq_true,beq_iff_eq]at h
  obtain⟨h1,rfl⟩:=h
  simp only[Bz]at hr
  split at hr
  ·rename_i vs hv
   simp only[val]at hr
   obtain⟨v,hv',rfl⟩:=Option.map_eq_some_iff.1 hr
   exact .inl (yN I F ho h1 hv hv')
  ·cases hr
 ·cases h
def T7(o:Oper):Option (Builtin×List Operand×List TypeId):=match o.op with
 | .call c=>match c.callee with
  | .builtin b=>some (b,c.args.toList,c.argTypes.toList)
  |_=>none
 |_=>none
theorem F8{b:Builtin}{l:List Operand}{ts:List TypeId}(h:T7 o=some (b,l,ts)): ∃c:Call,o.op= .call c∧c.callee= .builtin b∧c.args=l.toArray∧c.argTypes=ts.toArray:=by
 unfold T7 at h
 split at h
 ·rename_i c ho
  split at h
  ·rename_i b' hb
   simp only[Option.some.injEq,Prod.mk.injEq]at h
   obtain⟨rfl,rfl,rfl⟩:=h
   exact⟨c,ho,hb,by simp,by simp⟩
  ·cases h
 ·cases h
def tR(P:Program)(x:AO)(o:Oper):Bool:=match T7 o with
 |some (.len,[y],[t])=>Bk x y&&(LQ P t).isSome
 |_=>false
theorem ok_len{x:AO}(h:tR P x o=true):D3 P tb (.len x) o:=by
 intro cl C f a nt r hc I F hr
 unfold tR at h
 split at h
 ·rename_i y t hb
  obtain⟨c,ho,hcal,ha,ht⟩:=F8 hb
  simp only[Bool.and_eq_true]at h
  obtain⟨e,he⟩:=Option.isSome_iff_exists.1 h.2
  simp only[Bz]at hr
  obtain⟨n,hn,rfl⟩:=Option.map_eq_some_iff.1 hr
  exact .inl (yH I F ho hcal (by rw[ht];rfl) ha h.1 hn (Ew he))
 ·cases h
def jO(P:Program)(x:AO)(o:Oper):Bool:=match T7 o with
 |some (.len,[y],[t])=>Bk x y&&Q2 P t
 |_=>false
theorem zP{x:AO}(h:jO P x o=true):D3 P tb (.lens x) o:=by
 intro cl C f a nt r hc I F hr
 unfold jO at h
 split at h
 ·rename_i y t hb
  obtain⟨c,ho,hcal,ha,ht⟩:=F8 hb
  simp only[Bool.and_eq_true]at h
  simp only[Bz]at hr
  split at hr
  ·rename_i l hl
   simp only[Option.some.injEq]at hr
   subst hr
   exact .inl (sC I F ho hcal (by rw[ht];rfl) ha h.1 hl (GH h.2))
  ·cases hr
 ·cases h
def okFa(P:Program)(off:Nat)(x:AO)(o:Oper):Bool:=match o.op with
 | .fieldAddr t y i=>match(Vc P t).bind (·[i]?)with
  |some fd=>Bk x y&&off==fd.offset&&(P.info? fd.type).isSome&&decide (0<P.cellsOf fd.type)
  |none=>false
 |_=>false
theorem ok_fa{off:Nat}{x:AO}(h:okFa P off x o=true):D3 P tb (.fa off x) o:=by
 intro cl C f a nt r hc I F hr
 unfold okFa at h
 split at h
 ·rename_i t y i ho
  split at h
  ·rename_i fd hfd
   obtain⟨fs,hs,hf⟩:=Option.bind_eq_some_iff.1 hfd
   simp only[Bool.and_eq_true,beq_iff_eq,decide_eq_true_eq]at h
   obtain⟨⟨⟨h1,rfl⟩,h2⟩,h3⟩:=h
   exact .inl (sim_fa I F ho (Rt hs) hf h2 (by omega) h1 hr)
  ·cases h
 ·cases h
def tX(P:Program)(ag:Bool)(off n:Nat)(x:AO)(o:Oper):Bool:=match o.op with
 | .field t y i=>match(Vc P t).bind (·[i]?)with
  |some fd=>Bk x y&&off==fd.offset&&(P.underlying fd.type).isSome&&ag==Fi P fd.type&&n==P.cellsOf fd.type
  |none=>false
 |_=>false
theorem ok_fld{ag:Bool}{off n:Nat}{x:AO}(h:tX P ag off n x o=true):D3 P tb (.fld ag off n x) o:=by
 intro cl C f a nt r hc I F hr
 unfold tX at h
 split at h
 ·rename_i t y i ho
  split at h
  ·rename_i fd hfd
   obtain⟨fs,hs,hf⟩:=Option.bind_eq_some_iff.1 hfd
   simp only[Bool.and_eq_true,beq_iff_eq]at h
   obtain⟨⟨⟨⟨h1,rfl⟩,h2⟩,rfl⟩,rfl⟩:=h
   simp only[Bz]at hr
   split at hr
   ·rename_i cs hv
    split at hr
    ·rename_i hle
     simp only[val]at hr
     obtain⟨v,hv',rfl⟩:=Option.map_eq_some_iff.1 hr
     exact .inl (yM I F ho (Rt hs) hf h2 h1 hv hle hv')
    ·cases hr
   ·cases hr
  ·cases h
 ·cases h
def tV(P:Program)(sz:Nat)(x i:AO)(o:Oper):Bool:=match o.op with
 | .indexAddr t y j=>match LQ P t with
  |some e=>Bk x y&&Bk i j&&(P.info? e).isSome&&sz==P.cellsOf e
  |none=>false
 |_=>false
theorem ok_ias{sz:Nat}{x i:AO}(h:tV P sz x i o=true):D3 P tb (.ias sz x i) o:=by
 intro cl C f a nt r hc I F hr
 unfold tV at h
 split at h
 ·rename_i t y j ho
  split at h
  ·rename_i e he
   simp only[Bool.and_eq_true,beq_iff_eq]at h
   obtain⟨⟨⟨h1,h2⟩,h3⟩,rfl⟩:=h
   simp only[Bz]at hr
   obtain⟨n,hn,hr⟩:=Option.bind_eq_some_iff.1 hr
   split at hr
   ·rename_i h0
    exact .inl (yK I F ho (Ew he) h3 h1 h2 hn h0 hr)
   ·cases hr
  ·cases h
 ·cases h
def tW(P:Program)(len sz:Nat)(x i:AO)(o:Oper):Bool:=match o.op with
 | .indexAddr t y j=>match mB P t with
  |some (n,e)=>Bk x y&&Bk i j&&(P.info? e).isSome&&len==n&&sz==P.cellsOf e
  |none=>false
 |_=>false
theorem ok_iaa{len sz:Nat}{x i:AO}(h:tW P len sz x i o=true):D3 P tb (.iaa len sz x i) o:=by
 intro cl C f a nt r hc I F hr
 unfold tW at h
 split at h
 ·rename_i t y j ho
  split at h
  ·rename_i n e he
   simp only[Bool.and_eq_true,beq_iff_eq]at h
   obtain⟨⟨⟨⟨h1,h2⟩,h3⟩,rfl⟩,rfl⟩:=h
   simp only[Bz]at hr
   obtain⟨m,hm,hr⟩:=Option.bind_eq_some_iff.1 hr
   split at hr
   ·rename_i h0
    exact .inl (yL I F ho (Nq he) h3 h1 h2 hm h0 hr)
   ·cases hr
  ·cases h
 ·cases h
def tU(P:Program)(len sz:Nat)(ag:Bool)(x i:AO)(o:Oper):Bool:=match o.op with
 | .index t y j=>match mB P t with
  |some (n,e)=>Bk x y&&Bk i j&&(P.underlying e).isSome&&len==n&&sz==P.cellsOf e&&ag==Fi P e
  |none=>false
 |_=>false
theorem ok_ixa{len sz:Nat}{ag:Bool}{x i:AO}(h:tU P len sz ag x i o=true):D3 P tb (.ixa len sz ag x i) o:=by
 intro cl C f a nt r hc I F hr
 unfold tU at h
 split at h
 ·rename_i t y j ho
  split at h
  ·rename_i n e he
   simp only[Bool.and_eq_true,beq_iff_eq]at h
   obtain⟨⟨⟨⟨⟨h1,h2⟩,h3⟩,rfl⟩,rfl⟩,rfl⟩:=h
   simp only[Bz]at hr
   obtain⟨m,hm,hr⟩:=Option.bind_eq_some_iff.1 hr
   split at hr
   ·rename_i cs hv
    split at hr
    ·rename_i h0
     simp only[val]at hr
     obtain⟨v,hv',rfl⟩:=Option.map_eq_some_iff.1 hr
     exact .inl (yJ I F ho (Nq he) h3 h1 h2 hm hv ⟨h0.1,h0.2.1⟩ h0.2.2 hv')
    ·cases hr
   ·cases hr
  ·cases h
 ·cases h
def tT(P:Program)(x i:AO)(o:Oper):Bool:=match o.op with
 | .index t y j=>Bk x y&&Bk i j&&Q2 P t
 |_=>false
theorem ok_ixs{x i:AO}(h:tT P x i o=true):D3 P tb (.ixs x i) o:=by
 intro cl C f a nt r hc I F hr
 unfold tT at h
 split at h
 ·rename_i t y j ho
  simp only[Bool.and_eq_true]at h
  obtain⟨⟨h1,h2⟩,h3⟩:=h
  simp only[Bz]at hr
  obtain⟨n,hn,hr⟩:=Option.bind_eq_some_iff.1 hr
  split at hr
  ·rename_i l hl
   split at hr
   ·rename_i h0
    obtain⟨v,hv',rfl⟩:=Option.map_eq_some_iff.1 hr
    exact .inl (yI I F ho (GH h3) h1 h2 hn hl h0 hv')
   ·cases hr
  ·cases hr
 ·cases h
def tF(P:Program)(x:AO)(lo hi:Option AO)(o:Oper):Bool:=match o.op with
 | .slice t y ylo yhi none=>Bk x y&&YH lo ylo&&YH hi yhi&&Q2 P t
 |_=>false
theorem ok_sls{x:AO}{lo hi:Option AO}(h:tF P x lo hi o=true):D3 P tb (.sls x lo hi) o:=by
 intro cl C f a nt r hc I F hr
 unfold tF at h
 split at h
 ·rename_i t y ylo yhi ho
  simp only[Bool.and_eq_true]at h
  obtain⟨⟨⟨h1,h2⟩,h3⟩,h4⟩:=h
  simp only[Bz]at hr
  split at hr
  ·rename_i l hl
   obtain⟨⟨p,q⟩,hb,rfl⟩:=Option.map_eq_some_iff.1 hr
   exact .inl (xW I F ho (GH h4) h1 h2 h3 hl hb)
  ·cases hr
 ·cases h
def tG(P:Program)(sz:Nat)(x:AO)(lo hi:Option AO)(o:Oper):Bool:=match o.op with
 | .slice t y ylo yhi none=>match LQ P t with
  |some e=>Bk x y&&YH lo ylo&&YH hi yhi&&(P.info? e).isSome&&sz==P.cellsOf e
  |none=>false
 |_=>false
theorem ok_sll{sz:Nat}{x:AO}{lo hi:Option AO}(h:tG P sz x lo hi o=true):D3 P tb (.sll sz x lo hi) o:=by
 intro cl C f a nt r hc I F hr
 unfold tG at h
 split at h
 ·rename_i t y ylo yhi ho
  split at h
  ·rename_i e he
   simp only[Bool.and_eq_true,beq_iff_eq]at h
   obtain⟨⟨⟨⟨h1,h2⟩,h3⟩,h4⟩,rfl⟩:=h
   simp only[Bz]at hr
   obtain⟨len,hl,hr⟩:=Option.bind_eq_some_iff.1 hr
   obtain⟨⟨p,q⟩,hb,hr⟩:=Option.bind_eq_some_iff.1 hr
   exact .inl (xX I F ho (Ew he) h4 h1 h2 h3 hl hb hr)
  ·cases h
 ·cases h
def wT(P:Program)(t:TypeId):Option (Nat×TypeId):=match P.underlying t with
 |some (.array n e)=>some (n,e)
 |some (.pointer u)=>mB P u
 |_=>none
theorem mA{t e:TypeId}{n:Nat}(h:wT P t=some (n,e)):P.underlying t=some (.array n e)∨ ∃u,P.underlying t=some (.pointer u)∧P.underlying u=some (.array n e):=by
 unfold wT at h
 split at h
 ·rename_i n' e' hu;rw[hu];simp at h;left;rw[h.1,h.2]
 ·rename_i u hu;exact .inr ⟨u,hu,Nq h⟩
 ·cases h
def tH(P:Program)(n sz:Nat)(x:AO)(lo hi:Option AO)(o:Oper):Bool:=match o.op with
 | .slice t y ylo yhi none=>match wT P t with
  |some (m,e)=>Bk x y&&YH lo ylo&&YH hi yhi&&(P.info? e).isSome&&n==m&&sz==P.cellsOf e&&decide (0<sz)
  |none=>false
 |_=>false
theorem ok_sla{n sz:Nat}{x:AO}{lo hi:Option AO}(h:tH P n sz x lo hi o=true):D3 P tb (.sla n sz x lo hi) o:=by
 intro cl C f a nt r hc I F hr
 unfold tH at h
 split at h
 ·rename_i t y ylo yhi ho
  split at h
  ·rename_i m e he
   simp only[Bool.and_eq_true,beq_iff_eq,decide_eq_true_eq]at h
   obtain⟨⟨⟨⟨⟨⟨h1,h2⟩,h3⟩,h4⟩,rfl⟩,rfl⟩,h5⟩:=h
   simp only[Bz]at hr
   obtain⟨⟨p,q⟩,hb,hr⟩:=Option.bind_eq_some_iff.1 hr
   exact .inl (xY I F ho h4 h5 (mA he) h1 h2 h3 hb hr)
  ·cases h
 ·cases h
def uN(P:Program)(t0 sz bytes:Nat)(s x:AO)(o:Oper):Bool:=match T7 o with
 |some (.append,[y1,y2],[t,u])=>Bk s y1&&Bk x y2&&((LQ P u).isSome||Q2 P u)&&match LQ P t with
  |some e=>sz==P.cellsOf e&&decide (0<sz)&&match P.info? e with
   |some i=>bytes==i.bytes&&decide (0<bytes)&&match i.zero with
    |some z=>z.cells.size==sz&&Nat.beq t0 e
    |none=>false
   |none=>false
  |none=>false
 |_=>false
theorem ok_app{t0 sz bytes:Nat}{s x:AO}(h:uN P t0 sz bytes s x o=true):D3 P tb (.app t0 sz bytes s x) o:=by
 intro cl C f a nt r hc I F hr
 unfold uN at h
 split at h
 ·rename_i y1 y2 t u hb
  obtain⟨c,ho,hcal,ha,ht⟩:=F8 hb
  simp only[Bool.and_eq_true,Bool.or_eq_true]at h
  obtain⟨⟨⟨h1,h2⟩,h3⟩,h4⟩:=h
  split at h4
  ·rename_i e he
   simp only[Bool.and_eq_true,beq_iff_eq,decide_eq_true_eq]at h4
   obtain⟨⟨rfl,h5⟩,h6⟩:=h4
   split at h6
   ·rename_i i hi
    simp only[Bool.and_eq_true,beq_iff_eq,decide_eq_true_eq]at h6
    obtain⟨⟨rfl,h7⟩,h8⟩:=h6
    split at h8
    ·rename_i z hz
     rw[Bool.and_eq_true]at h8
     obtain rfl:=Nat.eq_of_beq_eq_true h8.2
     replace h8:=h8.1
     simp only[beq_iff_eq]at h8
     simp only[Bz]at hr
     obtain⟨new,hn,hr⟩:=Option.bind_eq_some_iff.1 hr
     refine .inl (zE I F ho hcal (by rw[ha]) (by rw[ht]) (Ew he) ?_ hi hz h8 h5 h7 h1 h2 hn hr)
     rcases h3 with h3|h3
     ·obtain⟨e',he'⟩:=Option.isSome_iff_exists.1 h3
      exact⟨_,Ew he',fun k hk=>(by cases hk)⟩
     ·exact⟨_,GH h3,fun k hk=>(by cases hk)⟩
    ·cases h8
   ·cases h6
  ·cases h4
 ·cases h
def uI(P:Program)(sz:Nat)(d x:AO)(o:Oper):Bool:=match T7 o with
 |some (.copy,[y1,y2],t::_)=>Bk d y1&&Bk x y2&&match LQ P t with
  |some e=>sz==P.cellsOf e&&decide (0<sz)&&(P.info? e).isSome
  |none=>false
 |_=>false
theorem ok_cpy{sz:Nat}{d x:AO}(h:uI P sz d x o=true):D3 P tb (.cpy sz d x) o:=by
 intro cl C f a nt r hc I F hr
 unfold uI at h
 split at h
 ·rename_i y1 y2 t ts hb
  obtain⟨c,ho,hcal,ha,ht⟩:=F8 hb
  simp only[Bool.and_eq_true]at h
  obtain⟨⟨h1,h2⟩,h4⟩:=h
  split at h4
  ·rename_i e he
   simp only[Bool.and_eq_true,beq_iff_eq,decide_eq_true_eq]at h4
   obtain⟨⟨rfl,h5⟩,h6⟩:=h4
   simp only[Bz]at hr
   obtain⟨src,hn,hr⟩:=Option.bind_eq_some_iff.1 hr
   exact .inl (yX I F ho hcal ha ht (by simp) (Ew he) h6 h5 h1 h2 hn hr)
  ·cases h4
 ·cases h
theorem ok_die:D3 P tb .die o:=by
 intro cl C f a nt r hc I F hr
 simp[Bz]at hr
def jT(g:Nat)(xs:List AO)(o:Oper):Bool:=match o.op with
 | .call c=>match c.callee with
  | .value (.func g')=>g==g'&&OX xs c.args.toList
  |_=>false
 |_=>false
theorem zU{g:Nat}{xs:List AO}(h:jT g xs o=true):D3 P tb (.call g xs) o:=by
 intro cl C f a nt r hc I F hr
 unfold jT at h
 split at h
 ·rename_i c ho
  split at h
  ·rename_i g' hcal
   simp only[Bool.and_eq_true,beq_iff_eq]at h
   obtain⟨rfl,h1⟩:=h
   simp only[Bz]at hr
   have:=hc g C _ _ r I (MX I F h1) hr
   have e:(execOp a.eval o).run P C.w=(callFunc g (c.args.toList.map a.eval).toArray).run P C.w:=by
    simp only[execOp,ho,resolve,hcal,Act.eval,Deferred.ofValue,invoke,Sem.run_bind,Sem.run_pure,Result.andThen_ok]
    congr 2
    rw[←Array.toList_inj]
    simp
   rw[e]
   exact this
  ·cases h
 ·cases h
def ZU(x:AO)(xs:List AO)(o:Oper):Bool:=match o.op with
 | .call c=>match c.callee with
  | .value y=>Bk x y&&OX xs c.args.toList
  |_=>false
 |_=>false
theorem tA{x:AO}{xs:List AO}(h:ZU x xs o=true):D3 P tb (.callv x xs) o:=by
 intro cl C f a nt r hc I F hr
 unfold ZU at h
 split at h
 ·rename_i c ho
  split at h
  ·rename_i y hcal
   simp only[Bool.and_eq_true]at h
   obtain⟨h1,h2⟩:=h
   simp only[Bz]at hr
   split at hr
   ·rename_i g first captured hv
    have rx:=AJ I F h1
    rw[hv]at rx
    obtain⟨p,q,e,r1,r2⟩:=rx
    have:=hc g C _ _ r I (Bg.app (Bg.app r1 (MX I F h2)) r2) hr
    have e':(execOp a.eval o).run P C.w=(callFunc g (p++c.args.toList.map a.eval++q).toArray).run P C.w:=by
     simp only[execOp,ho,resolve,hcal,e,Deferred.ofValue,invoke,Sem.run_bind,Sem.run_pure,Result.andThen_ok]
     congr 2
     simp
    rw[e']
    exact this
   ·cases hr
  ·cases h
 ·cases h
def okEq(P:Program)(neg:Bool)(ek:EK)(x y:AO)(o:Oper):Bool:=match o.op with
 | .binOp op t u v _=>decide (op=if neg then .neq else .eql)&&zV P ek t&&Bk x u&&Bk y v
 |_=>false
theorem ok_eq{neg:Bool}{ek:EK}{x y:AO}(h:okEq P neg ek x y o=true):D3 P tb (.eq neg ek x y) o:=by
 intro cl C f a nt r hc I F hr
 unfold okEq at h
 split at h
 ·rename_i op t u v t' ho
  simp only[Bool.and_eq_true,decide_eq_true_eq]at h
  obtain⟨⟨⟨h0,h1⟩,h2⟩,h3⟩:=h
  simp only[Bz,val]at hr
  obtain⟨b,hb,rfl⟩:=Option.map_eq_some_iff.1 hr
  obtain⟨e,he,rfl⟩:=Option.map_eq_some_iff.1 hb
  exact .inl (sim_eq I F ho h0 h1 h2 h3 he)
 ·cases h
def uL(P:Program)(zero:List AV)(ps:List (Nat×Nat×AO))(o:Oper):Bool:=match o.op with
 | .build t ys=>match zJ P t,(P.info? t).bind (·.zero)with
  |some place,some z=>NJ zero z.cells.toList&&Lg place ps ys.toList
  |_,_=>false
 |_=>false
theorem ok_bld{zero:List AV}{ps:List (Nat×Nat×AO)}(h:uL P zero ps o=true):D3 P tb (.bld zero ps) o:=by
 intro cl C f a nt r hc I F hr
 unfold uL at h
 split at h
 ·rename_i t ys ho
  split at h
  ·rename_i place z hp hz
   obtain⟨i,hi,hz⟩:=Option.bind_eq_some_iff.1 hz
   simp only[Bool.and_eq_true]at h
   simp only[Bz,val]at hr
   obtain⟨v,hv,rfl⟩:=Option.map_eq_some_iff.1 hr
   obtain⟨cs,hcs,rfl⟩:=Option.map_eq_some_iff.1 hv
   exact .inl (zC I F ho hp hi hz h.1 h.2 hcs)
  ·cases h
 ·cases h
def YJ(P:Program)(sz:Nat)(zero:List (List AV))(ps:List (Nat×AO))(o:Oper):Bool:=match o.op with
 | .buildSlice t len ys=>match LQ P t with
  |some e=>match(P.info? e).bind (·.zero)with
   |some z=>sz==P.cellsOf e&&decide (z.cells.size=P.cellsOf e)&&decide (0<P.cellsOf e)&&decide (len*P.cellsOf e≤2^24)&&decide (zero.length=len)&&zero.all (NJ · z.cells.toList)&&Lh sz ps ys.toList
   |none=>false
  |none=>false
 |_=>false
def jQ(P:Program)(t0:Nat)(o:Oper):Bool:=match o.op with
 | .buildSlice t _ _=>match LQ P t with
  |some e=>Nat.beq t0 e
  |none=>false
 |_=>false
theorem ok_bls{t0 sz:Nat}{zero:List (List AV)}{ps:List (Nat×AO)}(h:(YJ P sz zero ps o&&jQ P t0 o)=true):D3 P tb (.bls t0 sz zero ps) o:=by
 intro cl C f a nt r hc I F hr
 rw[Bool.and_eq_true]at h
 obtain⟨h,hl⟩:=h
 unfold YJ at h
 unfold jQ at hl
 split at h
 ·rename_i t len ys ho
  split at h
  ·rename_i e he
   split at h
   ·rename_i z hz
    obtain⟨i,hi,hz2⟩:=Option.bind_eq_some_iff.1 hz
    simp only[Bool.and_eq_true,beq_iff_eq,decide_eq_true_eq]at h
    obtain⟨⟨⟨⟨⟨⟨rfl,h1⟩,h2⟩,h3⟩,h4⟩,h5⟩,h6⟩:=h
    simp only[Bz]at hr
    obtain⟨els,hv,rfl⟩:=Option.map_eq_some_iff.1 hr
    simp only[ho,he]at hl
    obtain rfl:=Nat.eq_of_beq_eq_true hl
    exact .inl (yZ I F ho (Ew he) hi hz2 h1 h2 h3 h4 h5 h6 hv)
   ·cases h
  ·cases h
 ·cases h
theorem ok_bll{sz:Nat}{zero:List (List AV)}{ps:List (Nat×AO)}(h:YJ P sz zero ps o=true):D3 P tb (.bll sz zero ps) o:=by
 intro cl C f a nt r hc I F hr
 unfold YJ at h
 split at h
 ·rename_i t len ys ho
  split at h
  ·rename_i e he
   split at h
   ·rename_i z hz
    obtain⟨i,hi,hz⟩:=Option.bind_eq_some_iff.1 hz
    simp only[Bool.and_eq_true,beq_iff_eq,decide_eq_true_eq]at h
    obtain⟨⟨⟨⟨⟨⟨rfl,h1⟩,h2⟩,h3⟩,h4⟩,h5⟩,h6⟩:=h
    simp only[Bz,val]at hr
    obtain⟨u,hu,rfl⟩:=Option.map_eq_some_iff.1 hr
    obtain⟨els,hv,rfl⟩:=Option.map_eq_some_iff.1 hu
    exact .inl (zB I F ho (Ew he) hi hz h1 h2 h3 h4 h5 h6 hv)
   ·cases h
  ·cases h
 ·cases h
def tI(P:Program)(n sz:Nat)(x:AO)(o:Oper):Bool:=match o.op with
 | .sliceToArrayPointer t y=>match mB P t with
  |some (m,e)=>Bk x y&&n==m&&sz==P.cellsOf e&&decide (0<n)
  |none=>false
 |_=>false
theorem ok_s2a{n sz:Nat}{x:AO}(h:tI P n sz x o=true):D3 P tb (.s2a n sz x) o:=by
 intro cl C f a nt r hc I F hr
 unfold tI at h
 split at h
 ·rename_i t y ho
  split at h
  ·rename_i m e he
   simp only[Bool.and_eq_true,beq_iff_eq,decide_eq_true_eq]at h
   obtain⟨⟨⟨h1,rfl⟩,rfl⟩,h2⟩:=h
   exact .inl (xZ I F ho (Nq he) h2 h1 hr)
  ·cases h
 ·cases h
def tM(mx:Bool)(x y:AO)(o:Oper):Bool:=match T7 o with
 |some (.max,[u,v],_)=>mx&&Bk x u&&Bk y v
 |some (.min,[u,v],_)=> !mx&&Bk x u&&Bk y v
 |_=>false
theorem ok_mnx{mx:Bool}{x y:AO}(h:tM mx x y o=true):D3 P tb (.mnx mx x y) o:=by
 intro cl C f a nt r hc I F hr
 simp only[Bz]at hr
 split at hr
 ·rename_i k p k' q e1 e2
  split at hr
  ·rename_i hk
   subst hk
   simp only[Option.some.injEq]at hr
   subst hr
   unfold tM at h
   split at h
   ·rename_i u v ts hb
    obtain⟨c,ho,hcal,ha,ht⟩:=F8 hb
    simp only[Bool.and_eq_true]at h
    obtain⟨⟨rfl,h1⟩,h2⟩:=h
    exact .inl (mT (mx:=true) I F ho hcal (by rw[ha]) h1 h2 e1 e2)
   ·rename_i u v ts hb
    obtain⟨c,ho,hcal,ha,ht⟩:=F8 hb
    simp only[Bool.and_eq_true,Bool.not_eq_true']at h
    obtain⟨⟨rfl,h1⟩,h2⟩:=h
    exact .inl (mT (mx:=false) I F ho hcal (by rw[ha]) h1 h2 e1 e2)
   ·cases h
  ·cases hr
 ·cases hr
def eA(P:Program)(t:TypeId):Option (TypeId×TypeId):=match P.underlying t with
 |some (.map k e)=>some (k,e)
 |_=>none
theorem PI{t k e:TypeId}(h:eA P t=some (k,e)):P.underlying t=some (.map k e):=by
 unfold eA at h
 split at h
 ·rename_i k' e' hu;rw[hu];simp at h;rw[h.1,h.2]
 ·cases h
def tQ(P:Program)(ek:EK)(zero:AV)(ok:Bool)(m k:AO)(o:Oper):Bool:=match o.op with
 | .lookup t y1 y2 ok'=>ok==ok'&&Bk m y1&&Bk k y2&&match eA P t with
  |some (kt,e)=>Ml P ek kt&&match(P.info? e).bind (·.zero)with
   |some z=>isV zero z
   |none=>false
  |none=>false
 |_=>false
theorem ok_lkp{ek:EK}{zero:AV}{ok:Bool}{m k:AO}(h:tQ P ek zero ok m k o=true):D3 P tb (.lkp ek zero ok m k) o:=by
 intro cl C f a nt r hc I F hr
 unfold tQ at h
 split at h
 ·rename_i t y1 y2 ok' ho
  simp only[Bool.and_eq_true,beq_iff_eq]at h
  obtain⟨⟨⟨rfl,h1⟩,h2⟩,h3⟩:=h
  split at h3
  ·rename_i kt e hm
   simp only[Bool.and_eq_true]at h3
   obtain⟨h4,h5⟩:=h3
   split at h5
   ·rename_i z hz
    obtain⟨i,hi,hz⟩:=Option.bind_eq_some_iff.1 hz
    simp only[Bz]at hr
    split at hr
    ·rename_i hko
     obtain⟨es,he,hr⟩:=Option.bind_eq_some_iff.1 hr
     obtain⟨q,hq,rfl⟩:=Option.map_eq_some_iff.1 hr
     exact .inl (yG I F ho (PI hm) hi hz h5 h4 h1 h2 he hko hq)
    ·cases hr
   ·cases h5
  ·cases h3
 ·cases h
def tL(P:Program)(ek:EK)(m k v:AO)(o:Oper):Bool:=match o.op with
 | .mapUpdate t y1 y2 y3=>Bk m y1&&Bk k y2&&Bk v y3&&match eA P t with
  |some (kt,_)=>Ml P ek kt
  |none=>false
 | .insert t y1 y2 y3=>Bk m y1&&Bk k y2&&Bk v y3&&match eA P t with
  |some (kt,_)=>Ml P ek kt
  |none=>false
 |_=>false
theorem ok_mup{ek:EK}{m k v:AO}(h:tL P ek m k v o=true):D3 P tb (.mup ek m k v) o:=by
 intro cl C f a nt r hc I F hr
 have main: ∀{t:TypeId} {y1 y2 y3:Operand},(o.op= .mapUpdate t y1 y2 y3∨o.op= .insert t y1 y2 y3)→(Bk m y1&&Bk k y2&&Bk v y3&&(match eA P t with
  |some (kt,_)=>Ml P ek kt
  |none=>false))=true→oO P tb C r ((execOp a.eval o).run P C.w):=by
  intro t y1 y2 y3 ho h
  simp only[Bool.and_eq_true]at h
  obtain⟨⟨⟨h1,h2⟩,h3⟩,h4⟩:=h
  split at h4
  ·rename_i kt e hm
   simp only[Bz]at hr
   split at hr
   ·rename_i id hid
    split at hr
    ·rename_i hko
     obtain⟨es,he,hr⟩:=Option.bind_eq_some_iff.1 hr
     obtain⟨q,hq,rfl⟩:=Option.map_eq_some_iff.1 hr
     exact .inl (yC I F ho (PI hm) h4 h1 h2 h3 hid he hko hq)
    ·cases hr
   ·cases hr
  ·cases h4
 unfold tL at h
 split at h
 ·rename_i t y1 y2 y3 ho;exact main (.inl ho) h
 ·rename_i t y1 y2 y3 ho;exact main (.inr ho) h
 ·cases h
def tO(o:Oper):Bool:=match o.op with
 | .makeMap _ none=>true
 |_=>false
theorem ok_mkm(h:tO o=true):D3 P tb .mkm o:=by
 intro cl C f a nt r hc I F hr
 unfold tO at h
 split at h
 ·rename_i t ho
  simp only[Bz,Option.some.injEq]at hr
  subst hr
  exact .inl (yE I ho)
 ·cases h
def jS(P:Program)(x:AO)(o:Oper):Bool:=match T7 o with
 |some (.cap,[y],[t])=>Bk x y&&(LQ P t).isSome
 |_=>false
theorem zT{x:AO}(h:jS P x o=true):D3 P tb (.capn x) o:=by
 intro cl C f a nt r hc I F hr
 unfold jS at h
 split at h
 ·rename_i y t hb
  obtain⟨c,ho,hcal,ha,ht⟩:=F8 hb
  simp only[Bool.and_eq_true]at h
  obtain⟨e,he⟩:=Option.isSome_iff_exists.1 h.2
  simp only[Bz]at hr
  split at hr
  ·rename_i hn
   cases hr
   exact .inl (sG I F ho hcal (by rw[ht];rfl) ha h.1 hn (Ew he))
  ·cases hr
 ·cases h
def jP(P:Program)(x:AO)(o:Oper):Bool:=match T7 o with
 |some (.len,[y],[t])=>Bk x y&&(eA P t).isSome
 |_=>false
theorem zQ{x:AO}(h:jP P x o=true):D3 P tb (.lenm x) o:=by
 intro cl C f a nt r hc I F hr
 unfold jP at h
 split at h
 ·rename_i y t hb
  obtain⟨c,ho,hcal,ha,ht⟩:=F8 hb
  simp only[Bool.and_eq_true]at h
  obtain⟨⟨kt,e⟩,he⟩:=Option.isSome_iff_exists.1 h.2
  simp only[Bz]at hr
  obtain⟨es,hes,rfl⟩:=Option.map_eq_some_iff.1 hr
  exact .inl (sD I F ho hcal (by rw[ht];rfl) ha h.1 (PI he) hes)
 ·cases h
def uA(P:Program)(ek:EK)(m k:AO)(o:Oper):Bool:=match T7 o with
 |some (.delete,[y1,y2],t::_)=>Bk m y1&&Bk k y2&&match eA P t with
  |some (kt,_)=>Ml P ek kt
  |none=>false
 |_=>false
theorem ok_del{ek:EK}{m k:AO}(h:uA P ek m k o=true):D3 P tb (.del ek m k) o:=by
 intro cl C f a nt r hc I F hr
 unfold uA at h
 split at h
 ·rename_i y1 y2 t ts hb
  obtain⟨c,ho,hcal,ha,ht⟩:=F8 hb
  simp only[Bool.and_eq_true]at h
  obtain⟨⟨h1,h2⟩,h4⟩:=h
  split at h4
  ·rename_i kt e hm
   simp only[Bz]at hr
   by_cases hko:Q1 ek (eval tb f k)=true
   ·simp only[hko,if_true]at hr
    exact .inl (yP I F ho hcal ha ht (PI hm) h4 h1 h2 hko hr)
   ·simp only[hko,if_false,Bool.false_eq_true]at hr
    split at hr<;>cases hr
  ·cases h4
 ·cases h
def uJ(P:Program)(zero:List AV)(x:AO)(o:Oper):Bool:=match T7 o with
 |some (.clear,[y],t::_)=>Bk x y&&match P.underlying t with
  |some (.map _ _)=>zero.isEmpty
  |some (.slice e)=>match(P.info? e).bind (·.zero)with
   |some z=>NJ zero z.cells.toList
   |none=>false
  |_=>false
 |_=>false
theorem ok_clr{zero:List AV}{x:AO}(h:uJ P zero x o=true):D3 P tb (.clr zero x) o:=by
 intro cl C f a nt r hc I F hr
 unfold uJ at h
 split at h
 ·rename_i y t ts hb
  obtain⟨c,ho,hcal,ha,ht⟩:=F8 hb
  simp only[Bool.and_eq_true]at h
  obtain⟨h1,h2⟩:=h
  simp only[Bz]at hr
  split at h2
  ·rename_i k e hu
   exact .inl (mU I F ho hcal ha ht (.inl ⟨k,e,hu,by simpa using h2⟩) h1 hr)
  ·rename_i e hu
   split at h2
   ·rename_i z hz
    obtain⟨i,hi,hz⟩:=Option.bind_eq_some_iff.1 hz
    exact .inl (mU I F ho hcal ha ht (.inr ⟨e,i,z,hu,hi,hz,h2⟩) h1 hr)
   ·cases h2
  ·cases h2
 ·cases h
def tN(P:Program)(t0 sz bytes:Nat)(zero:List AV)(x1 x2:AO)(o:Oper):Bool:=match o.op with
 | .makeSlice t y1 y2=>match LQ P t with
  |some e=>match P.info? e with
   |some i=>match i.zero with
    |some z=>Bk x1 y1&&Bk x2 y2&&sz==i.size&&bytes==i.bytes&&NJ zero z.cells.toList&&decide (i.size=z.cells.size)&&decide (0<i.size)&&decide (0<i.bytes)&&Nat.beq t0 e
    |none=>false
   |none=>false
  |none=>false
 |_=>false
theorem ok_mks{t0 sz bytes:Nat}{zero:List AV}{x1 x2:AO}(h:tN P t0 sz bytes zero x1 x2 o=true):D3 P tb (.mks t0 sz bytes zero x1 x2) o:=by
 intro cl C f a nt r hc I F hr
 unfold tN at h
 split at h
 ·rename_i t y1 y2 ho
  split at h
  ·rename_i e he
   split at h
   ·rename_i i hi
    split at h
    ·rename_i z hz
     simp only[Bool.and_eq_true,beq_iff_eq,decide_eq_true_eq]at h
     obtain⟨⟨⟨⟨⟨⟨⟨⟨h1,h2⟩,rfl⟩,rfl⟩,h5⟩,h6⟩,h7⟩,h8⟩,hl⟩:=h
     obtain rfl:=Nat.eq_of_beq_eq_true hl
     simp only[Bz]at hr
     obtain⟨l,hl,hr⟩:=Option.bind_eq_some_iff.1 hr
     obtain⟨c,hcc,hr⟩:=Option.bind_eq_some_iff.1 hr
     split at hr
     ·rename_i hcond
      cases hr
      refine .inl (yD I F ho (Ew he) hi hz h5 h6 h7 h1 h2 hl hcc hcond ?_)
      have h9:=hcond.2.2
      unfold B4 at h9
      have h10:c≤c*i.bytes:=by
       rcases Int.lt_or_le c 0 with hneg|hpos
       ·have:=hcond.1;have:=hcond.2.1;omega
       ·have:c*1≤c*i.bytes:=Int.mul_le_mul_of_nonneg_left (by omega) hpos
        omega
      omega
     ·cases hr
    ·cases h
   ·cases h
  ·cases h
 ·cases h
def uH(P:Program)(t0:Nat)(x:AO)(o:Oper):Bool:=match o.op with
 | .convert s d y=>Q2 P s&&(match LQ P d with
  |some e=>(match P.underlying e with|some (.int .u8)=>Nat.beq t0 e|_=>false)
  |none=>false)&&Bk x y
 |_=>false
theorem ok_cvb{t0:Nat}{x:AO}(h:uH P t0 x o=true):D3 P tb (.cvb t0 x) o:=by
 intro cl C f a nt r hc I F hr
 unfold uH at h
 split at h
 ·rename_i s d y ho
  simp only[Bool.and_eq_true]at h
  obtain⟨⟨h1,h2⟩,h3⟩:=h
  split at h2
  ·rename_i e he
   split at h2
   ·rename_i hu
    simp only[Bz]at hr
    split at hr
    ·rename_i l hl
     cases hr
     obtain rfl:=Nat.eq_of_beq_eq_true h2
     exact .inl (yW I F ho (GH h1) (Ew he) hu h3 hl)
    ·cases hr
   ·cases h2
  ·cases h2
 ·cases h
def uE(P:Program)(x:AO)(o:Oper):Bool:=match o.op with
 | .convert s d y=>Nat.beq s d&&(match LQ P s with
  |some e=>(match P.underlying e with|some (.int .u8)=>true|_=>false)
  |none=>false)&&Bk x y
 |_=>false
theorem ok_cvr{x:AO}(h:uE P x o=true):D3 P tb (.cvr x) o:=by
 intro cl C f a nt r hc I F hr
 unfold uE at h
 split at h
 ·rename_i s d y ho
  simp only[Bool.and_eq_true]at h
  obtain⟨⟨h1,h2⟩,h3⟩:=h
  obtain rfl:=Nat.eq_of_beq_eq_true h1
  split at h2
  ·rename_i e he
   split at h2
   ·rename_i hu
    simp only[Bz]at hr
    split at hr
    ·rename_i id n lo len hv
     obtain⟨q,hq,hr⟩:=Option.bind_eq_some_iff.1 hr
     split at hr
     ·rename_i hcond
      cases hr
      exact .inl (yS I F ho (Ew he) hu h3 hv (show rowAt C.H id=some (q.1,q.2.1,q.2.2)from hq) hcond.1 hcond.2.1 hcond.2.2)
     ·cases hr
    ·cases hr
   ·cases h2
  ·cases h2
 ·cases h
def uD(P:Program)(x:AO)(o:Oper):Bool:=match o.op with
 | .convert s d y=>Q2 P d&&(match LQ P s with
  |some e=>(match P.underlying e with|some (.int .u8)=>true|_=>false)
  |none=>false)&&Bk x y
 |_=>false
theorem ok_cvs{x:AO}(h:uD P x o=true):D3 P tb (.cvs x) o:=by
 intro cl C f a nt r hc I F hr
 unfold uD at h
 split at h
 ·rename_i s d y ho
  simp only[Bool.and_eq_true]at h
  obtain⟨⟨h1,h2⟩,h3⟩:=h
  split at h2
  ·rename_i e he
   split at h2
   ·rename_i hu
    simp only[Bz,val]at hr
    obtain⟨v,hv,rfl⟩:=Option.map_eq_some_iff.1 hr
    obtain⟨l,hl,rfl⟩:=Option.map_eq_some_iff.1 hv
    obtain⟨els,he1,hl⟩:=Option.bind_eq_some_iff.1 hl
    exact .inl (yR I F ho (Ew he) hu (GH h1) h3 he1 hl)
   ·cases h2
  ·cases h2
 ·cases h
def tJ(P:Program)(x:AO)(o:Oper):Bool:=match o.op with
 | .range t y=>Q2 P t&&Bk x y
 |_=>false
theorem ok_rng{x:AO}(h:tJ P x o=true):D3 P tb (.rng x) o:=by
 intro cl C f a nt r hc I F hr
 unfold tJ at h
 split at h
 ·rename_i t y ho
  simp only[Bool.and_eq_true]at h
  simp only[Bz]at hr
  split at hr
  ·rename_i l hl
   cases hr
   exact .inl (yA I F ho (GH h.1) h.2 hl)
  ·cases hr
 ·cases h
def tK(x:AO)(o:Oper):Bool:=match o.op with
 | .next y true=>Bk x y
 |_=>false
theorem ok_nxt{x:AO}(h:tK x o=true):D3 P tb (.nxt x) o:=by
 intro cl C f a nt r hc I F hr
 unfold tK at h
 split at h
 ·rename_i y ho
  simp only[Bz]at hr
  split at hr
  ·rename_i id off hl
   obtain⟨it,hi,hr2⟩:=Option.bind_eq_some_iff.1 hr
   by_cases h0:off=0
   ·rw[if_pos h0]at hr2
    subst h0
    exact .inl (yB (id:=id) (l:=it.1) (pos:=it.2) I F ho h hl hi hr2)
   ·rw[if_neg h0]at hr2;cases hr2
  ·cases hr
 ·cases h
def pK(P:Program)(t:TypeId):Option TypeId:=match P.underlying t with
 |some (.pointer u)=>some u
 |_=>none
theorem PE{t u:TypeId}(h:pK P t=some u):P.underlying t=some (.pointer u):=by
 unfold pK at h
 split at h
 ·rename_i e hu;rw[hu];simp at h;rw[h]
 ·cases h
def nI(P:Program)(t:TypeId):Bool:=match P.underlying t with
 |some .unsafePointer=>true
 |_=>false
theorem W6{t:TypeId}(h:nI P t=true):P.underlying t=some .unsafePointer:=by
 unfold nI at h
 split at h
 ·assumption
 ·cases h
def uF(P:Program)(x:AO)(o:Oper):Bool:=match o.op with
 | .convert s d y=>nI P d&&(match(pK P s).bind P.info? with
  |some j=> !(Nat.beq j.size 0)
  |none=>false)&&Bk x y
 |_=>false
theorem ok_cvp{x:AO}(h:uF P x o=true):D3 P tb (.cvp x) o:=by
 intro cl C f a nt r hc I F hr
 unfold uF at h
 split at h
 ·rename_i s d y ho
  simp only[Bool.and_eq_true]at h
  obtain⟨⟨h1,h2⟩,h3⟩:=h
  split at h2
  ·rename_i j hj
   obtain⟨t,ht,hi⟩:=Option.bind_eq_some_iff.1 hj
   refine .inl (yT I F ho (PE ht) (W6 h1) hi (fun e=> ?_) h3 hr)
   rw[e]at h2;simp[Nat.beq_refl]at h2
  ·cases h2
 ·cases h
def uC(P:Program)(t n:Nat)(x:AO)(o:Oper):Bool:=match o.op with
 | .convert s d y=>nI P s&&(match pK P d with
  |some u=>(P.info? u).isSome&&liesAt P P.depth t (n/P.cellsOf t) 0 u 1
  |none=>false)&&Bk x y
 |_=>false
theorem ok_cvu{t n:Nat}{x:AO}(h:uC P t n x o=true):D3 P tb (.cvu t n x) o:=by
 intro cl C f a nt r hc I F hr
 unfold uC at h
 split at h
 ·rename_i s d y ho
  simp only[Bool.and_eq_true]at h
  obtain⟨⟨h1,h2⟩,h3⟩:=h
  split at h2
  ·rename_i u hu
   simp only[Bool.and_eq_true]at h2
   obtain⟨j,hj⟩:=Option.isSome_iff_exists.1 h2.1
   exact .inl (yQ I F ho (W6 h1) (PE hu) hj h2.2 h3 hr)
  ·cases h2
 ·cases h
def tZ(P:Program)(neg:Bool)(x y:AO)(o:Oper):Bool:=match o.op with
 | .binOp op t u v _=>decide (op=if neg then .neq else .eql)&&((pK P t).bind P.info?).isSome&&Bk x u&&Bk y v
 |_=>false
theorem ok_eqp{neg:Bool}{x y:AO}(h:tZ P neg x y o=true):D3 P tb (.eqp neg x y) o:=by
 intro cl C f a nt r hc I F hr
 unfold tZ at h
 split at h
 ·rename_i op t u v t' ho
  simp only[Bool.and_eq_true,decide_eq_true_eq]at h
  obtain⟨⟨⟨h0,h1⟩,h2⟩,h3⟩:=h
  obtain⟨j,hj⟩:=Option.isSome_iff_exists.1 h1
  obtain⟨e,he,hi⟩:=Option.bind_eq_some_iff.1 hj
  exact .inl (yO I F ho h0 (PE he) hi h2 h3 hr)
 ·cases h
def jR(P:Program)(neg:Bool)(x:AO)(o:Oper):Bool:=match o.op with
 | .binOp op t u (.const .nilIface) _=>(match P.underlying t with
  |some (.interface _)=>true
  |_=>false)&&decide (op=if neg then .neq else .eql)&&Bk x u
 |_=>false
theorem zR{neg:Bool}{x:AO}(h:jR P neg x o=true):D3 P tb (.isni neg x) o:=by
 intro cl C f a nt r hc I F hr
 unfold jR at h
 split at h
 ·rename_i op t u t' ho
  simp only[Bool.and_eq_true,decide_eq_true_eq]at h
  obtain⟨⟨h0,h1⟩,h2⟩:=h
  split at h0
  ·rename_i ms hu
   exact .inl (sE I F ho h1 hu h2 hr)
  ·cases h0
 ·cases h
def tE(x:AO)(o:Oper):Bool:=match T7 o with
 |some (.unsafeSliceData,[y],_)=>Bk x y
 |_=>false
theorem ok_usd{x:AO}(h:tE x o=true):D3 P tb (.usd x) o:=by
 intro cl C f a nt r hc I F hr
 unfold tE at h
 split at h
 ·rename_i y ts hb
  obtain⟨c,ho,hcal,ha,ht⟩:=F8 hb
  exact .inl (xV I F ho hcal (by rw[ha]) h hr)
 ·cases h
def tD(P:Program)(t:Nat)(x n:AO)(o:Oper):Bool:=match T7 o with
 |some (.unsafeString,[y,z],[pt,_])=>(match pK P pt with
  |some u=>Nat.beq u t&&Nat.beq (P.cellsOf t) 1
  |none=>false)&&Bk x y&&Bk n z
 |_=>false
theorem ok_ust{t:Nat}{x n:AO}(h:tD P t x n o=true):D3 P tb (.ust t x n) o:=by
 intro cl C f a nt r hc I F hr
 unfold tD at h
 split at h
 ·rename_i y z pt it hb
  obtain⟨c,ho,hcal,ha,hty⟩:=F8 hb
  simp only[Bool.and_eq_true]at h
  obtain⟨⟨h1,h2⟩,h3⟩:=h
  split at h1
  ·rename_i u hu
   simp only[Bool.and_eq_true]at h1
   obtain rfl:=Nat.eq_of_beq_eq_true h1.1
   exact .inl (xU I F ho hcal (by rw[ha]) (by rw[hty]) (PE hu) (Nat.eq_of_beq_eq_true h1.2) h2 h3 hr)
  ·cases h1
 ·cases h
def BC(P:Program)(ao:Im)(o:Oper):Bool:=
 match ao with
 | .mv x=>okMv P x o
 | .pick x y z=>jL x y z o
 | .alloc t z=>ZV P t z o
 | .box t n x=>uK t n x o
 | .ld ag n x=>okLd P ag n x o
 | .st n x z=>okSt P n x z o
 | .nilc x=>jM x o
 | .bin op x y=>uM op x y o
 | .un op x=>okUn op x o
 | .cvi k x=>uG P k x o
 | .cvid x=>SV P x o
 | .cvc x=>SV P x o
 | .mkf fn x y=>tP fn x y o
 | .mkif t x=>jN P t x o
 | .ext x i=>tY x i o
 | .len x=>tR P x o
 | .lens x=>jO P x o
 | .fa off x=>okFa P off x o
 | .fld ag off n x=>tX P ag off n x o
 | .ias sz x i=>tV P sz x i o
 | .iaa len sz x i=>tW P len sz x i o
 | .ixa len sz ag x i=>tU P len sz ag x i o
 | .ixs x i=>tT P x i o
 | .sls x lo hi=>tF P x lo hi o
 | .sll sz x lo hi=>tG P sz x lo hi o
 | .sla n sz x lo hi=>tH P n sz x lo hi o
 | .app t sz bytes s x=>uN P t sz bytes s x o
 | .call g xs=>jT g xs o
 | .callv x xs=>ZU x xs o
 | .eq neg ek x y=>okEq P neg ek x y o
 | .bld z ps=>uL P z ps o
 | .bls t sz z ps=>YJ P sz z ps o&&jQ P t o
 | .bll sz z ps=>YJ P sz z ps o
 | .s2a n sz x=>tI P n sz x o
 | .mnx mx x y=>tM mx x y o
 | .cpy sz d x=>uI P sz d x o
 | .die=>true
 | .lkp ek z ok m k=>tQ P ek z ok m k o
 | .mup ek m k v=>tL P ek m k v o
 | .mkm=>tO o
 | .lenm x=>jP P x o
 | .del ek m k=>uA P ek m k o
 | .clr z x=>uJ P z x o
 | .mks t sz b z l c=>tN P t sz b z l c o
 | .cvb t x=>uH P t x o
 | .cvr x=>uE P x o
 | .cvs x=>uD P x o
 | .rng x=>tJ P x o
 | .nxt x=>tK x o
 | .cvp x=>uF P x o
 | .cvu t n x=>uC P t n x o
 | .eqp neg x y=>tZ P neg x y o
 | .isni neg x=>jR P neg x o
 | .capn x=>jS P x o
 | .usd x=>tE x o
 | .ust t x n=>tD P t x n o
theorem pS(ao:Im)(o:Oper)(h:BC P ao o=true):D3 P tb ao o:=by
 cases ao<;>try simp only[BC]at h
 case mv=>exact ok_mv h
 case pick=>exact zM h
 case alloc=>exact tC h
 case box=>exact ok_box h
 case ld=>exact ok_ld h
 case st=>exact ok_st h
 case nilc=>exact zN h
 case bin=>exact ok_bin h
 case un=>exact ok_un h
 case cvi=>exact ok_cvi h
 case cvid=>exact zS h
 case cvc=>exact ok_cvc h
 case mkf=>exact ok_mkf h
 case mkif=>exact zO h
 case ext=>exact ok_ext h
 case len=>exact ok_len h
 case lens=>exact zP h
 case fa=>exact ok_fa h
 case fld=>exact ok_fld h
 case ias=>exact ok_ias h
 case iaa=>exact ok_iaa h
 case ixa=>exact ok_ixa h
 case ixs=>exact ok_ixs h
 case sls=>exact ok_sls h
 case sll=>exact ok_sll h
 case sla=>exact ok_sla h
 case app=>exact ok_app h
 case call=>exact zU h
 case callv=>exact tA h
 case eq=>exact ok_eq h
 case bld=>exact ok_bld h
 case bls=>exact ok_bls h
 case bll=>exact ok_bll h
 case s2a=>exact ok_s2a h
 case mnx=>exact ok_mnx h
 case cpy=>exact ok_cpy h
 case die=>exact ok_die
 case lkp=>exact ok_lkp h
 case mup=>exact ok_mup h
 case mkm=>exact ok_mkm h
 case lenm=>exact zQ h
 case del=>exact ok_del h
 case clr=>exact ok_clr h
 case mks=>exact ok_mks h
 case cvb=>exact ok_cvb h
 case cvr=>exact ok_cvr h
 case cvs=>exact ok_cvs h
 case rng=>exact ok_rng h
 case nxt=>exact ok_nxt h
 case cvp=>exact ok_cvp h
 case cvu=>exact ok_cvu h
 case eqp=>exact ok_eqp h
 case isni=>exact zR h
 case capn=>exact zT h
 case usd=>exact ok_usd h
 case ust=>exact ok_ust h
end
end Go.Proofs.YtobejhpigbllpaaGreatDoor.Am
