/-
  Each of the machine's operations does what the model's does: those that call nobody.
  Each of the machine's operations does what the model's does: rows that are made, grown, copied; maps; strings and bytes.
  Each of the machine's operations does what the model's does: what is equal; what is built of parts.
  Each of the machine's operations does what the model's does: ==, what is built of parts, copies.
  Each of the machine's operations does what the model's does: what is built of parts, copies.
  Each of the machine's operations does what the model's does: maps.
  Each of the machine's operations does what the model's does: rows that are made, texts and bytes, a text's runes.
  Each of the machine's operations does what the model's does: pointers seen as unsafe ones, texts that share a row's bytes.
  What an operation must be so that the machine's carries it out: a test by the machine's own eye, and that it is enough.
  Regions: in the order of the text; in any order that the tape draws.
  A region whose order is drawn: one walk, in the order of the text, serves every order.
  The machine's code and the model's; what it runs is what the model runs.
  What a call comes to in the machine, it comes to in the model.
-/
import Derived.Laws.IdiomCopy
import Derived.Laws.StructEq
import Derived.Laws.Cells
import Derived.Laws.AppendOwn
import Derived.Laws.Tables
import Derived.ChangeKeysEq
import Derived.MapKept
import Derived.Laws.MakeOwn
import Derived.Laws.BytesString
import Derived.Lib.ConvBytes
import Derived.Lib.Builder
import Derived.Lib.UnsafeStr
import Derived.Still
import Derived.Tactics
import Derived.LoopN
import Derived.Scope
import Derived.Control
import Derived.Laws.Sem
import Derived.Test.YtobejhpigbllpaaGreatDoorX0
namespace Go.Proofs.YtobejhpigbllpaaGreatDoor.Am
def isS:AV→Value→Bool
 | .b x, .bool y=>x==y
 | .i k n, .int j m=>k==j&&n==m
 | .s l, .string s=>l==s.data.toList
 | .nilp, .pointer none=>true
 | .nils, .slice none 0 0=>true
 | .nilm, .map none=>true
 | .nilf, .nilFunc=>true
 | .nili, .nilIface=>true
 |_,_=>false
def Rm:List AV→List Value→Bool
 |[],[]=>true
 |a::r,v::q=>isS a v&&Rm r q
 |_,_=>false
def isV(a:AV)(v:Value):Bool:=
 match a,v with
 | .agg cs, .agg vs=>Rm cs vs.toList
 |a,v=>isS a v
theorem oD{C:DP}{a:AV}{v:Value}(h:isS a v=true):HA C a v∧scal a=true:=by
 unfold isS at h
 split at h<;>simp only[Bool.false_eq_true,Bool.and_eq_true,beq_iff_eq]at h
 ·subst h;exact⟨rfl,rfl⟩
 ·obtain⟨rfl,rfl⟩:=h;exact⟨rfl,rfl⟩
 ·subst h;exact⟨by simp[HA],rfl⟩
 all_goals exact⟨rfl,rfl⟩
theorem P2{C:DP}: ∀{l:List AV} {vs:List Value},Rm l vs=true→B0 C l vs∧l.all scal=true
 |[],[],_=>⟨rfl,rfl⟩
 |[],_::_,h=>by simp[Rm]at h
 |_::_,[],h=>by simp[Rm]at h
 |_::_,v::q,h=>by
  simp only[Rm,Bool.and_eq_true]at h
  obtain⟨h1,h2⟩:=oD (C:=C) h.1
  obtain⟨h3,h4⟩:=P2 (C:=C) h.2
  exact⟨⟨v,q,rfl,h1,h3⟩,by simp[h2,h4]⟩
theorem Aa9{C:DP}{a:AV}{v:Value}(h:isV a v=true):HA C a v:=by
 unfold isV at h
 split at h
 ·rename_i cs vs
  obtain⟨h1,h2⟩:=P2 (C:=C) h
  exact⟨vs.toList,by simp,h2,h1⟩
 ·exact(oD h).1
def BA:AO→Operand→Bool
 | .t n, .tmp m=>n==m
 | .k a, .const v=>isV a v
 | .f n, .func m=>n==m
 | .g n, .global m=>n==m
 |_,_=>false
def Wm:List AO→List Operand→Bool
 |[],[]=>true
 |x::r,y::q=>BA x y&&Wm r q
 |_,_=>false
def YX:Option AO→Option Operand→Bool
 |none,none=>true
 |some x,some y=>BA x y
 |_,_=>false
def GQ(P:Program)(t:TypeId):Bool:=
 match P.underlying t with
 |some (.struct _)=>true
 |some (.array _ _)=>true
 |_=>false
structure BK(C:DP)(f:Fr)(a:Act)(nt:Nat):Prop where
 rep: ∀t,HA C (get f t) (a.tmps.getD t undef)
 size:a.tmps.size=nt
 defers:a.defers=[]
section
variable{cl:Nat→List AV→Ay→Lk}{P:Program}{tb:Dh}{C:DP}{f:Fr}{a:Act}{nt:Nat}
theorem Bd(I:Inv tb C)(F:BK C f a nt){x:AO}{y:Operand}(h:BA x y=true):HA C (eval tb f x) (a.eval y):=by
 cases x<;>cases y<;>simp only[BA,Bool.false_eq_true,beq_iff_eq]at h
 ·subst h;exact F.rep _
 ·exact Aa9 h
 ·subst h;exact⟨[],[],rfl,rfl,rfl⟩
 ·subst h
  simp only[eval,Act.eval]
  split
  ·rename_i cs hg
   obtain⟨h1,h2,h3,vs,h4,h5⟩:=I.gl _ cs hg
   exact⟨_,0,vs,rfl,h1,h2,h4,h3,h5⟩
  ·trivial
theorem Tf(I:Inv tb C)(F:BK C f a nt): ∀{xs:List AO} {ys:List Operand},Wm xs ys=true→B0 C (xs.map (eval tb f)) (ys.map a.eval)
 |[],[],_=>rfl
 |[],_::_,h=>by simp[Wm]at h
 |_::_,[],h=>by simp[Wm]at h
 |_::_,y::q,h=>by
  simp only[Wm,Bool.and_eq_true]at h
  exact⟨a.eval y,q.map a.eval,rfl,Bd I F h.1,Tf I F h.2⟩
theorem BK.put(F:BK C f a nt){D:DP}(X:KU C D){d:Option Nat}(hd: ∀t,d=some t→t<nt){x:AV}{v:Value}(r:HA D x v):BK D (put f d x) (a.put d v) nt:=by
 cases d with
 |none=>exact⟨fun t=>(F.rep t).ext X,F.size,F.defers⟩
 |some t=>
  have ht:=hd t rfl
  refine⟨fun u=> ?_,by simp[Act.put,F.size],F.defers⟩
  simp only[Am.put,get,Act.put]
  by_cases e:t=u
  ·subst e
   rw[if_pos rfl]
   have:(a.tmps.setIfInBounds t v).getD t undef=v:=by
    simp[Array.getD_eq_getD_getElem?,F.size,ht]
   rw[this];exact r
  ·rw[if_neg e]
   have:(a.tmps.setIfInBounds t v).getD u undef=a.tmps.getD u undef:=by
    simp[Array.getD_eq_getD_getElem?,Array.getElem?_setIfInBounds_ne e]
   rw[this];exact(F.rep u).ext X
theorem BK.ext(F:BK C f a nt){D:DP}(X:KU C D):BK D f a nt:=⟨fun t=>(F.rep t).ext X,F.size,F.defers⟩
def Yields(tb:Dh)(C:DP)(r:AV×Option Ay)(x:Result Next):Prop:=
 ∃D:DP,KU C D∧Inv tb D∧D.H=r.2.getD C.H∧((∃v,x= .ok (.value v) D.w∧HA D r.1 v)∨(x= .ok .skip D.w∧HA D r.1 undef))
theorem A6(I:Inv tb C){r:AV}{v:Value}{x:Result Next}(h:x= .ok (.value v) C.w)(hr:HA C r v):Yields tb C (r,none) x:=
 ⟨C,KU.refl C,I,rfl, .inl ⟨v,h,hr⟩⟩
theorem QW(I:Inv tb C){r:AV}{v:Value}{x:Result Next}{p:Place}{o:C6}{w:World}(hrest:Rest C.w w)(h:x= .ok (.value v) w)
  (hs:C.w.heap.size<w.heap.size) (hp:p.blk=C.w.heap.size) (hw: ∀b,b<C.w.heap.size→w.heap[b]? =C.w.heap[b]?)
  (ho:Obj (C.more p o w) p o) (hr:(C.more p o w).φ C.H.length=p→HA (C.more p o w) r v):Yields tb C (r,some (C.H++[o])) x:=by
 obtain⟨X,hI,hφ⟩:=more I (o:=o) hrest hs hp hw
 exact⟨C.more p o w,X,hI ho,rfl, .inl ⟨v,h,hr hφ⟩⟩
theorem Z9{o:Oper}{r:AV×Option Ay}(h:Yields tb C r ((execOp a.eval o).run P C.w)){next:Act→World→Prop}{Q:Exit→Act→World→Prop}
  (k: ∀(v:Value) (D:DP),KU C D→Inv tb D→D.H=r.2.getD C.H→HA D r.1 v→next (a.put o.dst v) D.w):o.wp P a C.w next Q:=by
 unfold Oper.wp
 obtain⟨D,X,I,hH,⟨v,e,hr⟩|⟨e,hr⟩⟩:=h
 ·rw[e];exact k v D X I hH hr
 ·rw[e];exact k undef D X I hH hr
theorem AA{t:TypeId}{d:TypeDesc}(h:P.underlying t=some d)(w:World):(underlying t).run P w= .ok d w:=by
 simp[underlying,h]
theorem Fo(t:TypeId)(w:World)(hd:(P.underlying t).isSome=true):(isAgg t).run P w= .ok (GQ P t) w:=by
 obtain⟨d,hd⟩:=Option.isSome_iff_exists.1 hd
 simp only[isAgg,Sem.run_bind,AA hd,Result.andThen_ok,GQ,hd]
 cases d<;>rfl
theorem Ko{t:TypeId}{i:TypeInfo}(h:P.info? t=some i)(w:World):(typeInfo t).run P w= .ok i w:=by
 simp[typeInfo,h]
theorem Cl{t:TypeId}(h:(P.info? t).isSome=true)(w:World):(sizeOf t).run P w= .ok (P.cellsOf t) w:=by
 obtain⟨i,hi⟩:=Option.isSome_iff_exists.1 h
 simp[sizeOf,Ko hi,Program.cellsOf,hi]
theorem info_of_underlying{t:TypeId}{d:TypeDesc}(h:P.underlying t=some d):(P.info? t).isSome=true:=by
 unfold Program.underlying at h
 cases hi:P.info? t with
 |none=>rw[hi]at h;simp at h
 |some i=>rfl
theorem Gx(b o n:Nat):(⟨b,o,none⟩:Addr).add n=⟨b,o+n,none⟩:=by
 unfold Addr.add;split<;>simp_all
theorem HD{w:World}{b o:Nat}{vs:List Value}(h:En w b o vs):(loadCells ⟨b,o,none⟩ vs.length).run P w= .ok vs.toArray w:=
 run_loadCells_list (P:=P) w ⟨b,o,none⟩ vs fun j v e=>by rw[Gx];exact h j v e
theorem En.sub{w:World}{b base:Nat}{vs:List Value}(h:En w b base vs)(off n:Nat):En w b (base+off) ((vs.drop off).take n):=by
 intro j v e
 rw[List.getElem?_take]at e
 split at e
 ·rw[List.getElem?_drop]at e
  rw[Nat.add_assoc]
  exact h _ v e
 ·simp at e
theorem O6{cs:List AV}(h:cs.all scal=true)(off n:Nat):(sub cs off n).all scal=true:=by
 simp only[List.all_eq_true,sub]at*
 exact fun x hx=>h x (List.mem_of_mem_drop (List.mem_of_mem_take hx))
theorem TH{cs:List AV}{vs:List Value}{agg:Bool}{v:AV}(h:Im agg cs=some v)(hs:cs.all scal=true)(r:B0 C cs vs):
  (agg=true→HA C v (.agg vs.toArray))∧(agg=false→ ∃x,vs=[x]∧HA C v x):=by
 cases agg with
 |true=>
  simp only[Im]at h
  obtain rfl:=Option.some.inj h
  exact⟨fun _=>⟨vs,rfl,hs,r⟩,fun e=>by cases e⟩
 |false=>
  refine⟨fun e=>(by cases e),fun _=> ?_⟩
  match cs,h with
  |[c],h=>
   simp only[Im]at h
   obtain rfl:=Option.some.inj h
   obtain⟨x,q,e,h1,h2⟩:=r
   exact⟨x,by rw[e,show q=[]from h2],h1⟩
theorem YS(I:Inv tb C){x:AV}{v:Value}(r:HA C x v){cs:List AV}{off:Nat}(h:place C.H x=some (cs,off)):
  ∃b base vs,v= .pointer (some ⟨b,base+off,none⟩)∧En C.w b base vs∧B0 C cs vs∧cs.all scal=true:=by
 cases x<;>simp only[place]at h
 case ptr id o=>
  unfold Cu at h
  split at h
  ·rename_i t' cs' hc
   simp only[Option.map_some,Option.some.injEq,Prod.mk.injEq]at h
   obtain⟨rfl,rfl⟩:=h
   obtain⟨_,e⟩:=r
   obtain⟨vs,arr,et,fr,⟨h1,hlb⟩,h2,h3,h4,h5,h6⟩:=I.obj id _ hc
   exact⟨_,0,vs,by simpa using e,h5,h4,h3⟩
  ·simp at h
 case pe id n i o=>
  obtain⟨_,fz,sz,els,hg,hl,e⟩:=r
  simp only[hg,Option.bind_some]at h
  split at h
  ·rename_i hn
   simp only[Option.some.injEq,Prod.mk.injEq]at h
   obtain⟨rfl,rfl⟩:=h
   obtain⟨tl,hg',hlab⟩:=Kp hg
   obtain⟨vss,arr,et,fr,⟨h1,hfr0,hlb⟩,h2,h3,h4,h5,h6,h7,h8,h9⟩:=I.obj id _ hg'
   have hlens:=Bi.lens (fun x hx=>(h4 x hx).1) h5
   have hfl: ∀(l:List (List Value)) (i:Nat),(∀y∈l,y.length=sz)→(l.drop i).flatten=l.flatten.drop (i*sz):=by
    intro l
    induction l with
    |nil=>intro i _;simp
    |cons y l ih=>
     intro i hy
     have hyl:=hy y List.mem_cons_self
     cases i with
     |zero=>simp
     |succ i=>
      simp only[List.drop_succ_cons,List.flatten_cons]
      rw[ih i (fun z hz=>hy z (List.mem_cons_of_mem _ hz)),show(i+1)*sz=y.length+i*sz by rw[hyl,Nat.succ_mul];omega,←List.drop_drop,List.drop_left' rfl]
   refine⟨_,(C.φ id).base+i*sz,(vss.drop i).flatten,by rw[e hn],fun j u hu=> ?_,Bi.flat h5.drop,List.all_eq_true.2 fun x hx=>(by obtain⟨y,hy,hx⟩:=List.mem_flatten.1 hx;exact List.all_eq_true.1 (h4 y (List.mem_of_mem_drop hy)).2 x hx)⟩
   rw[hfl vss i hlens,List.getElem?_drop]at hu
   rw[Nat.add_assoc]
   exact h7 _ u hu
  ·simp at h
 case ip cs' o=>
  simp only[Option.some.injEq,Prod.mk.injEq]at h
  obtain⟨rfl,rfl⟩:=h
  obtain⟨b,base,vs,e,_,_,h1,h2,h3⟩:=r
  exact⟨b,base,vs,e,h1,h3,h2⟩
 all_goals simp at h
theorem sim_ld(I:Inv tb C)(F:BK C f a nt){o:Oper}{t:TypeId}{x:AO}{y:Operand}(ho:o.op= .load t y)(hx:BA x y=true)(hu:(P.underlying t).isSome=true)
  {r:AV×Option Ay} (h:val (load C.H (GQ P t) (P.cellsOf t) (eval tb f x))=some r):Yields tb C r ((execOp a.eval o).run P C.w):=by
 have hr:=Bd I F hx
 simp only[val,load]at h
 cases hp:place C.H (eval tb f x)with
 |none=>rw[hp]at h;simp at h
 |some p=>
  obtain⟨cs,off⟩:=p
  rw[hp]at h
  simp only[Option.bind_some]at h
  split at h
  ·rename_i hle
   cases hv:Im (GQ P t) (sub cs off (P.cellsOf t))with
   |none=>rw[hv]at h;simp at h
   |some v=>
    rw[hv]at h
    obtain rfl:=Option.some.inj h
    obtain⟨b,base,vs,e,hh,hl,hs⟩:=YS I hr hp
    have hsub:=hh.sub off (P.cellsOf t)
    have hrl:B0 C (sub cs off (P.cellsOf t)) ((vs.drop off).take (P.cellsOf t)):=hl.drop.take
    have hlen:((vs.drop off).take (P.cellsOf t)).length=P.cellsOf t:=by
     rw[hrl.length];simp only[sub,List.length_take,List.length_drop];omega
    obtain⟨q1,q2⟩:=TH hv (O6 hs off _) hrl
    have hinfo:(P.info? t).isSome=true:=by
     obtain⟨d,hd⟩:=Option.isSome_iff_exists.1 hu
     exact info_of_underlying hd
    have hlc:=HD (P:=P) hsub
    rw[hlen]at hlc
    cases hag:GQ P t with
    |true=>
     refine A6 I (v:= .agg ((vs.drop off).take (P.cellsOf t)).toArray) ?_ (q1 hag)
     simp only[execOp,ho,e,Instr.loadAt,Instr.sureAddr,loadVar,Sem.run_bind,Sem.run_pure,Result.andThen_ok,Fo t C.w hu,hag,if_true,Cl hinfo,hlc]
    |false=>
     obtain⟨z,hz,rz⟩:=q2 hag
     refine A6 I (v:=z) ?_ rz
     have hc:C.w.cell? ⟨b,base+off,none⟩=some z:=by
      have:=hsub 0 z (by rw[hz];rfl)
      simpa using this
     simp only[execOp,ho,e,Instr.loadAt,Instr.sureAddr,loadVar,Sem.run_bind,Sem.run_pure,Result.andThen_ok,Fo t C.w hu,hag,Bool.false_eq_true,if_false,run_load,hc]
  ·simp at h
theorem tE(I:Inv tb C)(F:BK C f a nt){o:Oper}{x:AO}{y:Operand}(ho:o.op= .move y∨o.op= .assign y)(hx:BA x y=true):Yields tb C (eval tb f x,none) ((execOp a.eval o).run P C.w):=by
 refine A6 I (v:=a.eval y) ?_ (Bd I F hx)
 rcases ho with ho|ho<;>simp only[execOp,ho,Sem.run_pure]
theorem tC(I:Inv tb C)(F:BK C f a nt){o:Oper}{x1 x2 x3:AO}{y1 y2 y3:Operand}(ho:o.op= .pick y1 y2 y3)(h1:BA x1 y1=true)(h2:BA x2 y2=true)(h3:BA x3 y3=true)
  {t:Bool} (h:eval tb f x1= .b t):Yields tb C (if t then eval tb f x2 else eval tb f x3,none) ((execOp a.eval o).run P C.w):=by
 have r1:=Bd I F h1
 rw[h]at r1
 refine A6 I (v:=if t then a.eval y2 else a.eval y3) ?_ ?_
 ·simp only[execOp,ho,show a.eval y1= .bool t from r1,asBool,Sem.run_bind,Sem.run_pure,Result.andThen_ok]
 ·cases t
  ·exact Bd I F h3
  ·exact Bd I F h2
theorem Jc(w:World)(o:Go.Obj):(w.alloc o).heap[w.heap.size]? =some o:=Array.getElem?_push_size
theorem alloc_old(w:World)(o:Go.Obj){b:Nat}(h:b<w.heap.size):(w.alloc o).heap[b]? =w.heap[b]? :=by
 show(w.heap.push o)[b]? =_
 rw[Array.getElem?_push,if_neg (by omega)]
theorem HR(w:World)(o:Go.Obj):(w.alloc o).heap.size=w.heap.size+1:=Array.size_push _
theorem Vu(I:Inv tb C){cs:List AV}{vs:Array Value}{e:TypeId}(hs:cs.all scal=true)(hr:B0 C cs vs.toList){x:Result Next}
  (h:x= .ok (.value (.pointer (some ⟨C.w.heap.size,0,none⟩))) (C.w.alloc (.cells vs e))):Yields tb C (.ptr C.H.length 0,some (C.H++[C6.cells (some e) cs])) x:=by
 have hlen:vs.size=cs.length:=by have:=hr.length;simpa using this
 have hlt:C.w.heap.size<(C.w.alloc (.cells vs e)).heap.size:=by rw[HR];omega
 refine QW (w:=C.w.alloc (.cells vs e)) I (p:=⟨C.w.heap.size,0,vs.size⟩) ⟨rfl,rfl,rfl⟩ h hlt rfl (fun b hb=>alloc_old _ _ hb) ?_ ?_
 ·have X:=(more (w:=C.w.alloc (.cells vs e)) I (o:=C6.cells (some e) cs) (p:=⟨C.w.heap.size,0,vs.size⟩) ⟨rfl,rfl,rfl⟩ hlt rfl (fun b hb=>alloc_old _ _ hb)).1
  have hn:(C.more ⟨C.w.heap.size,0,vs.size⟩ (C6.cells (some e) cs) (C.w.alloc (.cells vs e))).w.heap[C.w.heap.size]? =some (.cells vs e):=Jc _ _
  refine⟨vs.toList,vs,e,(0,0),⟨hn,fun k hk=>by cases hk;rfl⟩,hlen,hs,hr.ext X,?_,?_⟩
  ·intro j v hj
   simp only[World.cell?,hn,Nat.zero_add]
   simpa using hj
  ·intro o ho
   simp only[World.frozen?,hn]
   simp
 ·intro hφ
  exact⟨⟨C6.cells (some e) cs,by simp[DP.more],rfl⟩,by rw[hφ]⟩
theorem pP(I:Inv tb C){o:Oper}{t:TypeId}{z:List AV}{i:TypeInfo}{zv:Value}(ho:o.op= .alloc t)(hi:P.info? t=some i)(hz:i.zero=some zv)(hv:Rm z zv.cells.toList=true):
  Yields tb C (.ptr C.H.length 0,some (C.H++[C6.cells (some t) z])) ((execOp a.eval o).run P C.w):=by
 obtain⟨h1,h2⟩:=P2 (C:=C) hv
 refine Vu I (e:=t) h2 h1 ?_
 simp only[execOp,ho,Instr.alloc,zeroValue,Sem.run_bind,Ko hi,Result.andThen_ok,hz,Sem.run_pure,newVar,newRow,run_newObj]
 rfl
theorem nW{x:AV}{v:Value}(hx:scal x=true)(r:HA C x v):v.oneCell'=true∧v.cells= #[v]:=by
 cases x<;>simp only[scal,Bool.false_eq_true]at hx<;>simp only[HA]at r
 case pe=>obtain⟨⟨p,rfl⟩,_⟩:=r;exact⟨rfl,rfl⟩
 case orow=>obtain⟨⟨p,c,rfl⟩,_⟩:=r;exact⟨rfl,rfl⟩
 case ptr=>obtain⟨_,rfl⟩:=r;exact⟨rfl,rfl⟩
 case ip=>obtain⟨_,_,_,rfl,_⟩:=r;exact⟨rfl,rfl⟩
 case sl=>rcases r with ⟨_,_,_,_,rfl,_⟩|⟨_,_,_,rfl⟩<;>exact⟨rfl,rfl⟩
 case ocel=>obtain⟨_,_,_,rfl,_⟩:=r;exact⟨rfl,rfl⟩
 case mp=>obtain⟨_,rfl⟩:=r;exact⟨rfl,rfl⟩
 case fn=>obtain⟨_,_,rfl,_⟩:=r;exact⟨rfl,rfl⟩
 case ifc=>obtain⟨_,_,rfl,_⟩:=r;exact⟨rfl,rfl⟩
 all_goals (subst r;exact⟨rfl,rfl⟩)
theorem Nt: ∀{cs:List AV} {vs:List Value},cs.all scal=true→B0 C cs vs→ ∀v∈vs,v.oneCell'=true
 |[],_,_,h,v,hv=>by rw[show _=[]from h]at hv;cases hv
 |x::_,_,hs,⟨u,q,e,h,r⟩,v,hv=>by
  simp only[List.all_cons,Bool.and_eq_true]at hs
  rw[e]at hv
  rcases List.mem_cons.1 hv with e'|hv
  ·subst e';exact(nW hs.1 h).1
  ·exact Nt hs.2 r v hv
theorem N8{x:AV}{v:Value}(r:HA C x v)(hn:0<(cellsOf x).length):B0 C (cellsOf x) v.cells.toList∧(cellsOf x).all scal=true:=by
 by_cases hx:scal x=true
 ·have hc:cellsOf x=[x]:=by cases x<;>simp_all [scal,cellsOf]
  rw[hc,(nW hx r).2]
  exact⟨⟨v,[],rfl,r,rfl⟩,by simp[hx]⟩
 ·cases x<;>simp only[scal,not_true_eq_false,Bool.false_eq_true,not_false_eq_true]at hx
  case agg cs=>
   obtain⟨vs,e,h1,h2⟩:=r
   subst e
   exact⟨by simpa [cellsOf,Value.cells]using h2,h1⟩
  case tup cs=>simp[cellsOf]at hn
  case junk=>simp[cellsOf]at hn
theorem zI(I:Inv tb C)(F:BK C f a nt){o:Oper}{t:TypeId}{x:AO}{y:Operand}(ho:o.op= .box t y)(hx:BA x y=true)(hn:0<(cellsOf (eval tb f x)).length):
  Yields tb C (.ptr C.H.length 0,some (C.H++[C6.cells (some t) (cellsOf (eval tb f x))])) ((execOp a.eval o).run P C.w):=by
 obtain⟨h1,h2⟩:=N8 (Bd I F hx) hn
 refine Vu I (e:=t) h2 h1 ?_
 simp only[execOp,ho,Instr.box,Sem.run_bind,Result.andThen_ok,Sem.run_pure,newVar,newRow,run_newObj]
 rfl
theorem tD(I:Inv tb C)(F:BK C f a nt){o:Oper}{x:AO}{y:Operand}(ho:o.op= .nilCheck y)(hx:BA x y=true){r:AV×Option Ay}
  (h:B6 tb cl (eval tb f) C.H (.nilc x)=some r):Yields tb C r ((execOp a.eval o).run P C.w):=by
 have hr:=Bd I F hx
 simp only[B6]at h
 split at h<;>simp only[Option.some.injEq,reduceCtorEq]at h
 ·rename_i e
  subst h
  rw[e]at hr
  refine A6 I (v:=a.eval y) ?_ hr
  obtain⟨_,e'⟩:=hr
  simp only[execOp,ho,e',Sem.run_pure]
 ·rename_i e
  subst h
  rw[e]at hr
  refine A6 I (v:=a.eval y) ?_ hr
  obtain⟨⟨_,e'⟩,_⟩:=hr
  simp only[execOp,ho,e',Sem.run_pure]
 ·rename_i e
  subst h
  rw[e]at hr
  refine A6 I (v:=a.eval y) ?_ hr
  obtain⟨_,_,_,e',_⟩:=hr
  simp only[execOp,ho,e',Sem.run_pure]
 ·rename_i e
  subst h
  rw[e]at hr
  refine A6 I (v:=a.eval y) ?_ hr
  obtain⟨_,_,e',_⟩:=hr
  simp only[execOp,ho,e',Sem.run_pure]
theorem O3(l:List UInt8):(⟨l.toArray⟩:ByteArray).toList=l:=by
 rw[ByteArray.toList_eq]
theorem PQ(l:List UInt8):(⟨l.toArray⟩:ByteArray).size=l.length:=by
 show l.toArray.size=_
 simp
theorem KI{x:AV}{v:Value}{n:Int}(r:HA C x v)(h:Io x=some n): ∃k,x= .i k n∧v= .int k n:=by
 cases x<;>simp only[Io,reduceCtorEq,Option.some.injEq]at h
 subst h
 exact⟨_,rfl,r⟩
theorem zN(I:Inv tb C)(F:BK C f a nt){o:Oper}{op:BinOp}{t u:TypeId}{x1 x2:AO}{y1 y2:Operand}(ho:o.op= .binOp op t y1 y2 u)(h1:BA x1 y1=true)(h2:BA x2 y2=true)
  {r:AV×Option Ay} (h:val (bin op (eval tb f x1) (eval tb f x2))=some r):Yields tb C r ((execOp a.eval o).run P C.w):=by
 have r1:=Bd I F h1
 have r2:=Bd I F h2
 generalize hx1:eval tb f x1=v1 at*
 generalize hx2:eval tb f x2=v2 at*
 cases v1<;>cases v2<;>simp only[bin,val,Option.map_none,reduceCtorEq]at h
 case i.i k n k' m=>
  have e1:a.eval y1= .int k n:=r1
  have e2:a.eval y2= .int k' m:=r2
  have hg:(eqGuard op t y1 y2 (.int k n) (.int k' m)).run P C.w= .ok () C.w:=by
   simp only[eqGuard];split<;>rfl
  have hrun: ∀v,(Go.binOp op t (.int k n) (.int k' m)).run P C.w= .ok v C.w→(execOp a.eval o).run P C.w= .ok (.value v) C.w:=by
   intro v hv
   simp only[execOp,ho,e1,e2,Sem.run_bind,hg,Result.andThen_ok,hv,Sem.run_pure]
  by_cases hk:k=k'
  ·subst hk
   cases op<;>simp only[if_true]at h
   case shl=>
    split at h<;>simp only[Option.map_none,Option.map_some,reduceCtorEq,Option.some.injEq]at h
    subst h
    exact A6 I (hrun _ (by simp[Go.binOp,Op.shift, *])) rfl
   case shr=>
    split at h<;>simp only[Option.map_none,Option.map_some,reduceCtorEq,Option.some.injEq]at h
    subst h
    exact A6 I (hrun _ (by simp[Go.binOp,Op.shift, *])) rfl
   case quo=>
    split at h<;>simp only[Option.map_none,Option.map_some,reduceCtorEq,Option.some.injEq]at h
    subst h
    exact A6 I (hrun _ (by simp[Go.binOp,Op.intDiv, *])) rfl
   case rem=>
    split at h<;>simp only[Option.map_none,Option.map_some,reduceCtorEq,Option.some.injEq]at h
    subst h
    exact A6 I (hrun _ (by simp[Go.binOp,Op.intDiv, *])) rfl
   all_goals
    simp only[Option.map_some,Option.some.injEq]at h
    subst h
    exact A6 I (hrun _ (by simp[Go.binOp,Op.intArith,Op.intBits,Op.intCmp,pA])) rfl
  ·cases op<;>simp only[if_neg hk,Option.map_none,reduceCtorEq]at h
   case shl=>
    split at h<;>simp only[Option.map_none,Option.map_some,reduceCtorEq,Option.some.injEq]at h
    subst h
    exact A6 I (hrun _ (by simp[Go.binOp,Op.shift, *])) rfl
   case shr=>
    split at h<;>simp only[Option.map_none,Option.map_some,reduceCtorEq,Option.some.injEq]at h
    subst h
    exact A6 I (hrun _ (by simp[Go.binOp,Op.shift, *])) rfl
 case s.s l m=>
  have e1:a.eval y1= .string ⟨l.toArray⟩:=r1
  have e2:a.eval y2= .string ⟨m.toArray⟩:=r2
  have hg:(eqGuard op t y1 y2 (.string ⟨l.toArray⟩) (.string ⟨m.toArray⟩)).run P C.w= .ok () C.w:=by
   simp only[eqGuard];split<;>rfl
  have hrun: ∀v,(Op.stringOp op ⟨l.toArray⟩ ⟨m.toArray⟩).run P C.w= .ok v C.w→(execOp a.eval o).run P C.w= .ok (.value v) C.w:=by
   intro v hv
   simp only[execOp,ho,e1,e2,Sem.run_bind,hg,Result.andThen_ok,Sem.run_pure]
   have:Go.binOp op t (.string ⟨l.toArray⟩) (.string ⟨m.toArray⟩)=Op.stringOp op ⟨l.toArray⟩ ⟨m.toArray⟩:=by cases op<;>rfl
   rw[this,hv]
   rfl
  cases op<;>simp only[Option.map_some,Option.map_none,Option.some.injEq,reduceCtorEq]at h
  case add=>
   split at h<;>simp only[Option.map_none,Option.map_some,reduceCtorEq,Option.some.injEq]at h
   rename_i hle
   subst h
   refine A6 I (v:= .string (⟨l.toArray⟩++⟨m.toArray⟩)) (hrun _ ?_) ?_
   ·have: ¬(((⟨l.toArray⟩:ByteArray).size+(⟨m.toArray⟩:ByteArray).size:Nat):Int)>IntKind.i64.max:=by
     rw[PQ,PQ]
     have:IntKind.i64.max=9223372036854775807:=rfl
     rw[this]
     unfold Di at hle
     omega
    simp only[Op.stringOp,if_neg this,Sem.run_pure]
   ·show _=_
    congr 1
  all_goals
   subst h
   exact A6 I (hrun _ (by simp only[Op.stringOp,O3,Sem.run_pure])) rfl
theorem sim_un(I:Inv tb C)(F:BK C f a nt){o:Oper}{op:UnOp}{t:TypeId}{x:AO}{y:Operand}(ho:o.op= .unOp op t y)(hx:BA x y=true)
  {r:AV×Option Ay} (h:val (un op (eval tb f x))=some r):Yields tb C r ((execOp a.eval o).run P C.w):=by
 have r1:=Bd I F hx
 generalize eval tb f x=v1 at*
 cases v1<;>simp only[un,val,Option.map_none,reduceCtorEq]at h
 case i k n=>
  have e1:a.eval y= .int k n:=r1
  cases op<;>simp only[Option.map_some,Option.map_none,Option.some.injEq,reduceCtorEq]at h
  all_goals
   subst h
   refine A6 I (v:= .int k _) ?_ rfl
   simp[execOp,ho,e1,Op.unary,Op.intArith,Op.intBits,pA]
 case b q=>
  have e1:a.eval y= .bool q:=r1
  cases op<;>simp only[Option.map_some,Option.map_none,Option.some.injEq,reduceCtorEq]at h
  subst h
  refine A6 I (v:= .bool _) ?_ rfl
  simp[execOp,ho,e1,Op.unary]
theorem zE(I:Inv tb C)(F:BK C f a nt){o:Oper}{k:IntKind}{s d:TypeId}{x:AO}{y:Operand}(ho:o.op= .convert s d y)(hs:(P.underlying s).isSome=true)(hd:P.underlying d=some (.int k))(hx:BA x y=true)
  {n:Int} (h:Io (eval tb f x)=some n):Yields tb C (.i k (k.wrap n),none) ((execOp a.eval o).run P C.w):=by
 obtain⟨k',_,e⟩:=KI (Bd I F hx) h
 obtain⟨ds,hs⟩:=Option.isSome_iff_exists.1 hs
 refine A6 I (v:= .int k (k.wrap n)) ?_ rfl
 simp only[execOp,ho,e,convert,Sem.run_bind,AA hs,AA hd,Result.andThen_ok]
 cases ds<;>rfl
theorem zF(I:Inv tb C)(F:BK C f a nt){o:Oper}{s d:TypeId}{x:AO}{y:Operand}(ho:o.op= .convert s d y)(hs:(P.underlying s).isSome=true)(hd:P.underlying d=some .string)(hx:BA x y=true)
  {n:Int} (h:Io (eval tb f x)=some n):Yields tb C (.s (Utf8.encode n).data.toList,none) ((execOp a.eval o).run P C.w):=by
 obtain⟨k',_,e⟩:=KI (Bd I F hx) h
 obtain⟨ds,hs⟩:=Option.isSome_iff_exists.1 hs
 refine A6 I (v:= .string (Utf8.encode n)) ?_ (by simp[HA])
 simp only[execOp,ho,e,convert,Sem.run_bind,AA hs,AA hd,Result.andThen_ok]
 cases ds<;>rfl
theorem tF(I:Inv tb C)(F:BK C f a nt){o:Oper}{t:TypeId}{x:AO}{y:Operand}(ho:o.op= .makeInterface t y)(ht: ∀m,P.underlying t≠some (.interface m))(hs:(P.underlying t).isSome=true)(hx:BA x y=true):
  Yields tb C (.ifc 0 .junk,none) ((execOp a.eval o).run P C.w):=by
 obtain⟨ds,hs⟩:=Option.isSome_iff_exists.1 hs
 refine A6 I (v:= .iface t (a.eval y)) ?_ ⟨_,_,rfl,trivial⟩
 simp only[execOp,ho,Instr.makeInterface,Sem.run_bind,AA hs,Result.andThen_ok]
 cases ds<;>first|rfl|exact absurd hs (ht _)
theorem yY(I:Inv tb C)(F:BK C f a nt){o:Oper}{x:AO}{y:Operand}{i:Nat}(ho:o.op= .extract y i)(hx:BA x y=true){vs:List AV}(h:eval tb f x= .tup vs){v:AV}(hv:vs[i]? =some v):
  Yields tb C (v,none) ((execOp a.eval o).run P C.w):=by
 have r:=Bd I F hx
 rw[h]at r
 obtain⟨us,e,hr⟩:=r
 obtain⟨u,hu,ru⟩:=hr.get hv
 refine A6 I (v:=u) ?_ ru
 simp only[execOp,ho,e,Instr.extract]
 simp[hu]
theorem FH{o:Oper}{c:Call}{b:Builtin}(ho:o.op= .call c)(hc:c.callee= .builtin b){x:Result Next}
  (h: ∀q,(builtin b c.argTypes o.type q (c.args.map a.eval)).run P C.w=x):(execOp a.eval o).run P C.w=x:=by
 simp only[execOp,ho,resolve,hc,invoke,Sem.run_bind,Sem.run_pure,Result.andThen_ok]
 exact h _
theorem vJ{x:AV}{v:Value}{n:Nat}(r:HA C x v)(h:Og x=some n): ∃p c,v= .slice p n c:=by
 cases x<;>simp only[Og,reduceCtorEq,Option.some.injEq]at h
 case nils=>subst h;exact⟨none,0,r⟩
 case sl=>
  subst h
  rcases r with ⟨b,base,cap,vss,e,_⟩|⟨rfl,p,cap,e⟩
  ·exact⟨_,_,e⟩
  ·exact⟨_,_,e⟩
 case orow=>subst h;obtain⟨⟨p,c,e⟩,_⟩:=r;exact⟨_,_,e⟩
 case ocel=>subst h;obtain⟨_,o,c,e,_⟩:=r;exact⟨_,_,e⟩
theorem yT(I:Inv tb C)(F:BK C f a nt){o:Oper}{c:Call}{t e:TypeId}{x:AO}{y:Operand}(ho:o.op= .call c)(hc:c.callee= .builtin .len)(ht:c.argTypes[0]? =some t)(ha:c.args= #[y])
  (hx:BA x y=true) {n:Nat} (h:Og (eval tb f x)=some n) (hu:P.underlying t=some (.slice e)):
  Yields tb C (.i .i64 n,none) ((execOp a.eval o).run P C.w):=by
 have r:=Bd I F hx
 refine A6 I (v:= .int .i64 n) (FH ho hc fun q=> ?_) rfl
 simp only[ha,List.map_toArray,List.map_cons,List.map_nil,builtin,Sem.run_bind,Builtin.len_,ht]
 obtain⟨p,cc,e⟩:=vJ r h
 simp[e,AA hu,goInt]
theorem tG(I:Inv tb C)(F:BK C f a nt){o:Oper}{c:Call}{t:TypeId}{x:AO}{y:Operand}(ho:o.op= .call c)(hc:c.callee= .builtin .len)(ht:c.argTypes[0]? =some t)(ha:c.args= #[y])
  (hx:BA x y=true) {l:List UInt8} (h:eval tb f x= .s l) (hu:P.underlying t=some .string):
  Yields tb C (.i .i64 (l.length:Nat),none) ((execOp a.eval o).run P C.w):=by
 have r:=Bd I F hx
 rw[h]at r
 have r':a.eval y= .string ⟨l.toArray⟩:=r
 refine A6 I (v:= .int .i64 (l.length:Nat)) (FH ho hc fun q=> ?_) rfl
 simp only[ha,List.map_toArray,List.map_cons,List.map_nil,builtin,Sem.run_bind,Builtin.len_,ht]
 simp[r',AA hu,goInt,PQ]
theorem YI{x y:AV}{v:Value}{off:Nat}(r:HA C x v)(h:shift off x=some y): ∃b q,v= .pointer (some ⟨b,q,none⟩)∧HA C y (.pointer (some ⟨b,q+off,none⟩))∨(∃p,v= .pointer (some p))∧ ∀u p,u=Value.pointer (some p)→HA C y u:=by
 cases x<;>simp only[shift,reduceCtorEq,Option.some.injEq]at h<;>subst h
 case ptr id o=>
  obtain⟨h1,e⟩:=r
  exact⟨_,_, .inl ⟨e,h1,rfl⟩⟩
 case pe id n i o=>
  obtain⟨⟨p,e⟩,fz,sz,els,hg,hl,k⟩:=r
  by_cases hn:n=els.length
  ·exact⟨_,_, .inl ⟨k hn,⟨_,rfl⟩,fz,sz,els,hg,hl,fun _=>by rw[Nat.add_assoc]⟩⟩
  ·exact⟨0,0, .inr ⟨⟨p,e⟩,fun u p hu=>⟨⟨p,hu⟩,fz,sz,els,hg,hl,fun q=>absurd q hn⟩⟩⟩
 case ip cs o=>
  obtain⟨b,base,vs,e,h1⟩:=r
  exact⟨_,_, .inl ⟨e,b,base,vs,by rw[Nat.add_assoc],h1⟩⟩
theorem sim_fa(I:Inv tb C)(F:BK C f a nt){o:Oper}{t:TypeId}{x:AO}{y:Operand}{i:Nat}{fs:Array Field}{fd:Field}(ho:o.op= .fieldAddr t y i)(hu:P.underlying t=some (.struct fs))(hf:fs[i]? =some fd)
  (hz:(P.info? fd.type).isSome=true) (hz0:P.cellsOf fd.type≠0) (hx:BA x y=true) {r:AV×Option Ay} (h:val (shift fd.offset (eval tb f x))=some r):Yields tb C r ((execOp a.eval o).run P C.w):=by
 have hr:=Bd I F hx
 simp only[val]at h
 cases hs:shift fd.offset (eval tb f x)with
 |none=>rw[hs]at h;simp at h
 |some y'=>
  rw[hs]at h
  obtain rfl:=Option.some.inj h
  have run: ∀p:Addr,a.eval y= .pointer (some p)→(execOp a.eval o).run P C.w= .ok (.value (.pointer (some (p.add fd.offset)))) C.w:=by
   intro p hp
   simp only[execOp,ho,hp,Instr.fieldAt,Sem.run_bind,AA hu,Result.andThen_ok,hf,Instr.sureAddr,Sem.run_pure,fieldPlace,Cl hz,if_neg hz0]
  obtain⟨b,q,⟨e,r'⟩|⟨⟨p,e⟩,r'⟩⟩:=YI hr hs
  ·exact A6 I (run _ e) (by rw[Gx];exact r')
  ·exact A6 I (run _ e) (r' _ _ rfl)
theorem yX(I:Inv tb C)(F:BK C f a nt){o:Oper}{t e:TypeId}{x i:AO}{y j:Operand}{len:Nat}(ho:o.op= .indexAddr t y j)(hu:P.underlying t=some (.array len e))
  (hz:(P.info? e).isSome=true) (hx:BA x y=true) (hi:BA i j=true) {n:Int} (hn:Io (eval tb f i)=some n) (h0:0≤n∧n<len) {r:AV×Option Ay} (h:val (shift (n.toNat*P.cellsOf e) (eval tb f x))=some r):
  Yields tb C r ((execOp a.eval o).run P C.w):=by
 have hr:=Bd I F hx
 obtain⟨k,_,ej⟩:=KI (Bd I F hi) hn
 simp only[val]at h
 cases hs:shift (n.toNat*P.cellsOf e) (eval tb f x)with
 |none=>rw[hs]at h;simp at h
 |some y'=>
  rw[hs]at h
  obtain rfl:=Option.some.inj h
  have run: ∀p:Addr,a.eval y= .pointer (some p)→(execOp a.eval o).run P C.w= .ok (.value (.pointer (some (p.add (n.toNat*P.cellsOf e))))) C.w:=by
   intro p hp
   simp only[execOp,ho,hp,ej,Instr.indexAt,asIntOf,Sem.run_bind,AA hu,Result.andThen_ok,Instr.sureAddr,Sem.run_pure,Cl hz,if_pos h0]
  obtain⟨b,q,⟨e',r'⟩|⟨⟨p,e'⟩,r'⟩⟩:=YI hr hs
  ·exact A6 I (run _ e') (by rw[Gx];exact r')
  ·exact A6 I (run _ e') (r' _ _ rfl)
theorem tM{t:TypeId}{cs:List AV}{vs:List Value}{off:Nat}{v:AV}(hu:(P.underlying t).isSome=true)(hs:cs.all scal=true)(r:B0 C cs vs)(_hle:off+P.cellsOf t≤cs.length)
  (h:Im (GQ P t) (sub cs off (P.cellsOf t))=some v): ∃x,(part t vs.toArray off).run P C.w= .ok x C.w∧HA C v x:=by
 have hinfo:(P.info? t).isSome=true:=by
  obtain⟨d,hd⟩:=Option.isSome_iff_exists.1 hu
  exact info_of_underlying hd
 have hrl:B0 C (sub cs off (P.cellsOf t)) ((vs.drop off).take (P.cellsOf t)):=r.drop.take
 obtain⟨q1,q2⟩:=TH h (O6 hs off _) hrl
 cases hag:GQ P t with
 |true=>
  refine⟨.agg ((vs.drop off).take (P.cellsOf t)).toArray,?_,q1 hag⟩
  simp only[part,Sem.run_bind,Fo t C.w hu,hag,Result.andThen_ok,if_true,Cl hinfo,Sem.run_pure]
  congr 2
  simp
 |false=>
  obtain⟨z,hz,rz⟩:=q2 hag
  refine⟨z,?_,rz⟩
  have:vs[off]? =some z:=by
   have:((vs.drop off).take (P.cellsOf t))[0]? =some z:=by rw[hz];rfl
   rw[List.getElem?_take]at this
   split at this
   ·simpa using this
   ·simp at this
  simp only[part,Sem.run_bind,Fo t C.w hu,hag,Result.andThen_ok,Bool.false_eq_true,if_false]
  simp[this]
theorem yV(I:Inv tb C)(F:BK C f a nt){o:Oper}{t e:TypeId}{x i:AO}{y j:Operand}{len:Nat}(ho:o.op= .index t y j)(hu:P.underlying t=some (.array len e))
  (hz:(P.underlying e).isSome=true) (hx:BA x y=true) (hi:BA i j=true) {n:Int} (hn:Io (eval tb f i)=some n) {cs:List AV} (hv:eval tb f x= .agg cs) (h0:0≤n∧n<len) (hle:len*P.cellsOf e≤cs.length)
  {v:AV} (h:Im (GQ P e) (sub cs (n.toNat*P.cellsOf e) (P.cellsOf e))=some v):Yields tb C (v,none) ((execOp a.eval o).run P C.w):=by
 have hr:=Bd I F hx
 obtain⟨k,_,ej⟩:=KI (Bd I F hi) hn
 rw[hv]at hr
 obtain⟨vs,ey,hs,hl⟩:=hr
 have hle':n.toNat*P.cellsOf e+P.cellsOf e≤cs.length:=by
  have:(n.toNat+1)*P.cellsOf e≤len*P.cellsOf e:=Nat.mul_le_mul_right _ (by omega)
  rw[Nat.succ_mul]at this
  omega
 obtain⟨z,hz',rz⟩:=tM hz hs hl hle' h
 have hinfo:(P.info? e).isSome=true:=by
  obtain⟨d,hd⟩:=Option.isSome_iff_exists.1 hz
  exact info_of_underlying hd
 refine A6 I (v:=z) ?_ rz
 simp only[execOp,ho,ey,ej,Instr.index,asIntOf,Sem.run_bind,AA hu,Result.andThen_ok,Sem.run_pure,if_pos h0,Cl hinfo,hz']
theorem yU(I:Inv tb C)(F:BK C f a nt){o:Oper}{t:TypeId}{x i:AO}{y j:Operand}(ho:o.op= .index t y j)(hu:P.underlying t=some .string)(hx:BA x y=true)(hi:BA i j=true)
  {n:Int} (hn:Io (eval tb f i)=some n) {l:List UInt8} (hv:eval tb f x= .s l) (h0:0≤n) {c:UInt8} (h:l[n.toNat]? =some c):Yields tb C (.i .u8 c.toNat,none) ((execOp a.eval o).run P C.w):=by
 have hr:=Bd I F hx
 obtain⟨k,_,ej⟩:=KI (Bd I F hi) hn
 rw[hv]at hr
 have ey:a.eval y= .string ⟨l.toArray⟩:=hr
 refine A6 I (v:= .int .u8 c.toNat) ?_ rfl
 have:(⟨l.toArray⟩:ByteArray)[n.toNat]? =some c:=by
  have hlt:=Bj h
  have:n.toNat<(⟨l.toArray⟩:ByteArray).size:=by rw[PQ];exact hlt
  rw[getElem?_pos (⟨l.toArray⟩:ByteArray) n.toNat this]
  congr 1
  exact(List.getElem?_eq_some_iff.1 h).2
 simp only[execOp,ho,ey,ej,Instr.index,asIntOf,Sem.run_bind,AA hu,Result.andThen_ok,Sem.run_pure,if_pos h0,this]
theorem PT{x:AV}{v:Value}{m n:Nat}(r:HA C x v)(h:Kh x m=some n)(code:BoundsCode)(w:World):(Instr.sliceBound v m code).run P w= .ok n w∧n≤m:=by
 simp only[Kh]at h
 cases hi:Io x with
 |none=>rw[hi]at h;simp at h
 |some q=>
  rw[hi]at h
  simp only[Option.bind_some]at h
  split at h
  ·rename_i hq
   obtain rfl:=Option.some.inj h
   obtain⟨k,_,e⟩:=KI r hi
   refine⟨?_,by omega⟩
   simp only[Instr.sliceBound,e,asIntOf,Sem.run_bind,Sem.run_pure,Result.andThen_ok,if_pos hq]
  ·simp at h
theorem Rf(I:Inv tb C)(F:BK C f a nt){lo hi:Option AO}{ylo yhi:Option Operand}(h1:YX lo ylo=true)(h2:YX hi yhi=true){len cap l m:Nat}(isS:Bool)(hlc:len≤cap)
  (h:HP (eval tb f) len lo hi=some (l,m)) (w:World):(Instr.sliceBounds isS len cap (ylo.map a.eval) (yhi.map a.eval) none).run P w= .ok (l,m,cap) w∧l≤m∧m≤len:=by
 simp only[HP]at h
 cases hi with
 |none=>
  cases yhi with
  |some _=>simp[YX]at h2
  |none=>
   simp only[Option.bind_some]at h
   cases lo with
   |none=>
    cases ylo with
    |some _=>simp[YX]at h1
    |none=>
     simp only[Option.bind_some,Option.some.injEq,Prod.mk.injEq]at h
     obtain⟨rfl,rfl⟩:=h
     exact⟨by simp[Instr.sliceBounds],by omega,by omega⟩
   |some x=>
    cases ylo with
    |none=>simp[YX]at h1
    |some y=>
     cases hb:Kh (eval tb f x) len with
     |none=>simp only[hb,Option.bind_none,reduceCtorEq]at h
     |some q=>
      simp only[hb,Option.bind_some,Option.some.injEq,Prod.mk.injEq]at h
      obtain⟨rfl,rfl⟩:=h
      have:=PT (P:=P) (Bd I F h1) hb .sliceB w
      exact⟨by simp[Instr.sliceBounds,this.1],this.2,by omega⟩
 |some z=>
  cases yhi with
  |none=>simp[YX]at h2
  |some u=>
   cases hz:Kh (eval tb f z) len with
   |none=>simp only[hz,Option.bind_none,reduceCtorEq]at h
   |some m'=>
    simp only[hz,Option.bind_some]at h
    obtain⟨k,hk⟩: ∃k,Io (eval tb f z)=some k:=by
     simp only[Kh]at hz
     cases hi:Io (eval tb f z)with
     |none=>rw[hi]at hz;simp at hz
     |some k=>exact⟨k,rfl⟩
    have hzc:Kh (eval tb f z) cap=some m':=by
     simp only[Kh,hk,Option.bind_some]at hz ⊢
     split at hz
     ·rename_i hq;rw[if_pos ⟨hq.1,by omega⟩];exact hz
     ·simp at hz
    have hm:m'≤len:=(PT (P:=P) (Bd I F h2) hz .sliceB w).2
    have r1:=fun code=>(PT (P:=P) (Bd I F h2) hzc code w).1
    cases lo with
    |none=>
     cases ylo with
     |some _=>simp[YX]at h1
     |none=>
      simp only[Option.bind_some,Option.some.injEq,Prod.mk.injEq]at h
      obtain⟨rfl,rfl⟩:=h
      exact⟨by simp[Instr.sliceBounds,r1],by omega,hm⟩
    |some x=>
     cases ylo with
     |none=>simp[YX]at h1
     |some y=>
      cases hb:Kh (eval tb f x) m' with
      |none=>simp only[hb,Option.bind_none,reduceCtorEq]at h
      |some q=>
       simp only[hb,Option.bind_some,Option.some.injEq,Prod.mk.injEq]at h
       obtain⟨rfl,rfl⟩:=h
       have:=PT (P:=P) (Bd I F h1) hb .sliceB w
       exact⟨by simp[Instr.sliceBounds,r1,this.1],this.2,hm⟩
theorem WZ(l:List UInt8)(i j:Nat):(⟨l.toArray⟩:ByteArray).extract i j=⟨((l.take j).drop i).toArray⟩:=by
 apply ByteArray.ext
 simp[List.drop_take]
theorem yN(I:Inv tb C)(F:BK C f a nt){o:Oper}{t:TypeId}{x:AO}{y:Operand}{lo hi:Option AO}{ylo yhi:Option Operand}(ho:o.op= .slice t y ylo yhi none)(hu:P.underlying t=some .string)(hx:BA x y=true)
  (h1:YX lo ylo=true) (h2:YX hi yhi=true) {s:List UInt8} (hv:eval tb f x= .s s) {l m:Nat} (h:HP (eval tb f) s.length lo hi=some (l,m)):
  Yields tb C (.s ((s.take m).drop l),none) ((execOp a.eval o).run P C.w):=by
 have hr:=Bd I F hx
 rw[hv]at hr
 have ey:a.eval y= .string ⟨s.toArray⟩:=hr
 obtain⟨hb,_,_⟩:=Rf (P:=P) I F h1 h2 (cap:=s.length) false (Nat.le_refl _) h C.w
 refine A6 I (v:= .string ⟨((s.take m).drop l).toArray⟩) ?_ rfl
 simp only[execOp,ho,ey,Instr.sliceAt,Option.map_none,Sem.run_bind,AA hu,Result.andThen_ok,Instr.slice,Option.isSome_none,Bool.false_eq_true,if_false,PQ,hb,WZ s l m,Sem.run_pure]
theorem Bi.sub{l:List (List AV)}{vss:List (List Value)}(r:Bi C l vss)(a b:Nat):Bi C ((l.take b).drop a) ((vss.take b).drop a):=r.take.drop
theorem FM{α:Type}{sz:Nat}: ∀(l:List (List α)) (n:Nat),(∀x∈l,x.length=sz)→(l.drop n).flatten=l.flatten.drop (n*sz)
 |_,0,_=>by simp
 |[],n+1,_=>by simp
 |x::l,n+1,h=>by
  have hx:=h x List.mem_cons_self
  rw[List.drop_succ_cons,FM l n fun y hy=>h y (List.mem_cons_of_mem _ hy),List.flatten_cons,List.drop_append,List.drop_of_length_le (l:=x) (by rw[hx,Nat.succ_mul];omega),List.nil_append]
  congr 1
  rw[hx,Nat.succ_mul];omega
theorem EW{α:Type}{sz:Nat}: ∀(l:List (List α)) (n:Nat),(∀x∈l,x.length=sz)→(l.take n).flatten=l.flatten.take (n*sz)
 |_,0,_=>by simp
 |[],n+1,_=>by simp
 |x::l,n+1,h=>by
  have hx:=h x List.mem_cons_self
  rw[List.take_succ_cons,List.flatten_cons,EW l n fun y hy=>h y (List.mem_cons_of_mem _ hy),List.flatten_cons,List.take_append,List.take_of_length_le (l:=x) (by rw[hx,Nat.succ_mul];omega)]
  congr 2
  rw[hx,Nat.succ_mul];omega
theorem bT(I:Inv tb C){x:AV}{v:Value}{sz:Nat}{els:List (List AV)}(hsz:0<sz)(r:HA C x v)(h:ER C.H sz x=some els):
  (els=[]∧v= .slice none 0 0)∨ ∃q cap vss,v= .slice (some q) els.length cap∧els.length≤cap∧(els≠[]→ ∃b base,q=⟨b,base,none⟩∧En C.w b base vss.flatten)∧(∀e∈els,e.length=sz∧e.all scal=true)∧Bi C els vss:=by
 cases x<;>simp only[ER,reduceCtorEq]at h
 case nils=>obtain rfl:=Option.some.inj h;exact .inl ⟨rfl,r⟩
 case sl sz' els'=>
  split at h
  ·rename_i e
   subst e
   obtain rfl:=Option.some.inj h
   rcases r with ⟨b,base,cap,vss,e,hl,_,_,hh,hs,hr⟩|⟨rfl,p,cap,e⟩
   ·exact .inr ⟨_,cap,vss,e,hl,fun _=>⟨b,base,rfl,hh⟩,hs,hr⟩
   ·exact .inr ⟨p,cap,[],e,Nat.zero_le _,fun h=>absurd rfl h,fun e he=>(by cases he),rfl⟩
  ·simp at h
 case orow id n lo len=>
  obtain⟨_,fz,sz',els',hg,hl,k⟩:=r
  simp only[hg,Option.bind_some]at h
  split at h
  ·rename_i hc
   obtain⟨hn,rfl,hle⟩:=hc
   obtain rfl:=Option.some.inj h
   obtain⟨_,off,cap,e,hlc,hoff,hsize⟩:=k hn
   obtain⟨tl,hg',hlab⟩:=Kp hg
   obtain⟨vss,arr,et,fr,⟨h1,hfr0,hlb⟩,h2,h3,h4,h5,h6,h7,h8,h9⟩:=I.obj id _ hg'
   have hlen:((els'.drop lo).take len).length=len:=by simp only[List.length_take,List.length_drop];omega
   refine .inr ⟨_,cap,(vss.drop lo).take len,by rw[hlen];exact e,by rw[hlen];exact hlc,?_,fun x hx=>h4 x (List.mem_of_mem_drop (List.mem_of_mem_take hx)),h5.drop.take⟩
   intro hne
   have hpos:0<len:=by
    rcases Nat.eq_zero_or_pos len with h0|h0
    ·rw[h0]at hne;simp at hne
    ·exact h0
   have hlens:=Bi.lens (fun x hx=>(h4 x hx).1) h5
   refine⟨_,_,rfl,?_⟩
   rw[EW (sz:=sz') _ _ fun x hx=>hlens x (List.mem_of_mem_drop hx),FM _ _ hlens,hoff hpos]
   exact h7.sub _ _
  ·simp at h
 case ocel sz' id off len=>
  obtain⟨⟨ob,hg,hf⟩,q,cap,e,hlc,hq,hz⟩:=r
  unfold Cu at h
  split at h
  ·rename_i t' cs hc
   simp only[Option.bind_some]at h
   split at h
   ·rename_i hcond
    obtain⟨rfl,hle⟩:=hcond
    obtain rfl:=Option.some.inj h
    obtain⟨vs,arr,et,fr,⟨h1,hlb⟩,h2,h3,h4,h5,h6⟩:=I.obj id _ hc
    have chunk: ∀(n:Nat) (cs:List AV) (vs:List Value) (base:Nat),cs.all scal=true→B0 C cs vs→En C.w (C.φ id).blk base vs→n*sz'≤cs.length→
      (BO sz' n cs).length=n∧(∀e∈BO sz' n cs,e.length=sz'∧e.all scal=true)∧ ∃vss,En C.w (C.φ id).blk base vss.flatten∧Bi C (BO sz' n cs) vss:=by
     intro n
     induction n with
     |zero=>intro cs vs base _ _ _ _;exact⟨rfl,fun e he=>(by cases he),[],fun j v hj=>(by simp at hj),rfl⟩
     |succ n ih=>
      intro cs vs base hs hr hh hn
      rw[Nat.succ_mul]at hn
      have hdrop:(cs.drop sz').all scal=true:=by
       simp only[List.all_eq_true]at hs ⊢
       exact fun x hx=>hs x (List.mem_of_mem_drop hx)
      obtain⟨h1,h2,vss,h3,h4⟩:=ih (cs.drop sz') (vs.drop sz') (base+sz') hdrop hr.drop (by
       have:=hh.sub sz' (vs.drop sz').length
       rwa [List.take_of_length_le (Nat.le_refl _)]at this) (by simp only[List.length_drop];omega)
      have htake:(vs.take sz').length=sz':=by rw[List.length_take,hr.length];omega
      refine⟨by simp[BO,h1],?_,vs.take sz'::vss,?_,⟨_,_,rfl,hr.take,h4⟩⟩
      ·intro x hx
       rcases List.mem_cons.1 hx with e|hx
       ·subst e
        refine⟨by simp only[List.length_take];omega,?_⟩
        simp only[List.all_eq_true]at hs ⊢
        exact fun y hy=>hs y (List.mem_of_mem_take hy)
       ·exact h2 x hx
      ·intro j v hj0
       have hj:(vs.take sz'++vss.flatten)[j]? =some v:=hj0
       rcases Nat.lt_or_ge j sz' with hlt|hge
       ·rw[List.getElem?_append_left (by omega)]at hj
        rw[List.getElem?_take,if_pos hlt]at hj
        exact hh j v hj
       ·rw[List.getElem?_append_right (by omega)]at hj
        have:=h3 _ v hj
        rw[htake]at this
        rwa [show base+sz'+(j-sz')=base+j by omega]at this
    obtain⟨c1,c2,vss,c3,c4⟩:=chunk len (cs.drop off) (vs.drop off) off (by
     simp only[List.all_eq_true]at h3 ⊢
     exact fun x hx=>h3 x (List.mem_of_mem_drop hx)) h4.drop (by
     have:=h5.sub off (vs.drop off).length
     rw[List.take_of_length_le (Nat.le_refl _)]at this
     simpa using this) (by simp only[List.length_drop];omega)
    refine .inr ⟨_,cap,vss,by rw[c1];exact e,by rw[c1];exact hlc,?_,c2,c4⟩
    intro hne
    have hpos:0<len:=by
     rcases Nat.eq_zero_or_pos len with h0|h0
     ·rw[h0]at hne;simp[BO]at hne
     ·exact h0
    rw[hq hpos]
    exact⟨_,_,rfl,c3⟩
   ·simp at h
  ·simp at h
theorem gE{α:Type}{sz:Nat}{l:List (List α)}{i:Nat}{x:List α}(h: ∀y∈l,y.length=sz)(hi:l[i]? =some x):(l.flatten.drop (i*sz)).take sz=x:=by
 rw[←FM l i h]
 have hlt:=Bj hi
 rw[List.drop_eq_getElem_cons hlt,List.flatten_cons]
 have e:l[i]=x:=(List.getElem?_eq_some_iff.1 hi).2
 rw[e,List.take_append_of_le_length (by rw[h x (List.mem_of_getElem? hi)];omega),List.take_of_length_le (by rw[h x (List.mem_of_getElem? hi)];omega)]
theorem yW(I:Inv tb C)(F:BK C f a nt){o:Oper}{t e:TypeId}{x i:AO}{y j:Operand}(ho:o.op= .indexAddr t y j)(hu:P.underlying t=some (.slice e))(hz:(P.info? e).isSome=true)
  (hx:BA x y=true) (hi:BA i j=true) {n:Int} (hn:Io (eval tb f i)=some n) (h0:0≤n) {r:AV×Option Ay} (h:val (QP C.H (P.cellsOf e) (eval tb f x) n.toNat)=some r):
  Yields tb C r ((execOp a.eval o).run P C.w):=by
 have hr:=Bd I F hx
 obtain⟨k,_,ej⟩:=KI (Bd I F hi) hn
 generalize eval tb f x=v at*
 simp only[QP]at h
 cases hels:ER C.H (P.cellsOf e) v with
 |none=>rw[hels]at h;simp[val]at h
 |some els=>
  rw[hels]at h
  simp only[Option.bind_some]at h
  split at h
  ·rename_i hlt
   have run: ∀(b off len cap:Nat),a.eval y= .slice (some ⟨b,off,none⟩) len cap→n.toNat<len→(execOp a.eval o).run P C.w= .ok (.value (.pointer (some ⟨b,off+n.toNat*P.cellsOf e,none⟩))) C.w:=by
    intro b off len cap hp hl
    have hc:0≤n∧n<(len:Int):=by omega
    simp only[execOp,ho,hp,ej,Instr.indexAt,asIntOf,Sem.run_bind,AA hu,Result.andThen_ok,Sem.run_pure,Cl hz,if_pos hc,Gx]
   have gen: ∀(w:AV),(els[n.toNat]?).map (fun cs=>AV.ip cs 0)=some w→(∃b base cap vss,a.eval y= .slice (some ⟨b,base,none⟩) els.length cap∧b<C.w.heap.size∧ ¬C.own b∧En C.w b base vss.flatten∧(∀e'∈els,e'.length=P.cellsOf e∧e'.all scal=true)∧Bi C els vss)→
     Yields tb C (w,none) ((execOp a.eval o).run P C.w):=by
    rintro w hw ⟨b,base,cap,vss,e',hb,hown,hh,hs,hrr⟩
    cases hi:els[n.toNat]? with
    |none=>rw[hi]at hw;simp at hw
    |some cs=>
     rw[hi]at hw
     obtain rfl:=Option.some.inj hw
     obtain⟨vs,hv,rv⟩:=Bi.get hrr hi
     have hlens:=Bi.lens (fun x hx=>(hs x hx).1) hrr
     have:=hh.sub (n.toNat*P.cellsOf e) (P.cellsOf e)
     rw[gE hlens hv]at this
     exact A6 I (run b base _ cap e' hlt) ⟨b,base+n.toNat*P.cellsOf e,vs,rfl,hb,hown,this,(hs cs (List.mem_of_getElem? hi)).2,rv⟩
   cases v
   case orow id k lo len=>
    simp only[val,Option.map_some,Option.some.injEq]at h
    subst h
    obtain⟨_,fz,sz,els',hg,hl,kk⟩:=hr
    simp only[ER,hg,Option.bind_some]at hels
    split at hels
    ·rename_i hc
     obtain⟨hk,hsz,hle⟩:=hc
     obtain rfl:=Option.some.inj hels
     obtain⟨_,off,cap,e',hlc,hoff,_⟩:=kk hk
     have hnl:n.toNat<len:=by simp only[List.length_take,List.length_drop]at hlt;omega
     refine A6 I (run _ _ _ _ e' hnl) ⟨⟨_,rfl⟩,fz,sz,els',hg,hl,fun _=> ?_⟩
     rw[hoff (by omega),←hsz,Nat.add_mul,Nat.add_assoc]
     rfl
    ·simp at hels
   case ocel sz id off len=>
    simp only[val,Option.map_some,Option.some.injEq]at h
    subst h
    obtain⟨hobj,q,cap,e',hlc,hq,_⟩:=hr
    simp only[ER]at hels
    cases hc:Cu C.H id with
    |none=>rw[hc]at hels;simp at hels
    |some cs=>
     rw[hc]at hels
     simp only[Option.bind_some]at hels
     split at hels
     ·rename_i hcond
      obtain⟨rfl,_⟩:=hcond
      obtain rfl:=Option.some.inj hels
      have hnl:n.toNat<len:=by
       have: ∀(m:Nat) (cs:List AV),(BO (P.cellsOf e) m cs).length=m:=by
        intro m;induction m with
        |zero=>intro cs;rfl
        |succ m ih=>intro cs;simp[BO,ih]
       rwa [this]at hlt
      refine A6 I (run _ _ _ _ e' hnl) ⟨hobj,?_⟩
      rw[hq (by omega)]
     ·simp at hels
   case nils=>
    simp only[ER,Option.some.injEq]at hels
    subst hels
    simp at hlt
   case sl sz els'=>
    simp only[ER]at hels
    split at hels
    ·rename_i e'
     subst e'
     obtain rfl:=Option.some.inj hels
     rcases hr with ⟨b,base,cap,vss,e',hl,hb,hown,hh,hs,hrr⟩|⟨rfl,_⟩
     case inr=>simp at hlt
     simp only[val,Option.map_map]at h
     cases hi:els'[n.toNat]? with
     |none=>rw[hi]at h;simp at h
     |some cs=>
      rw[hi]at h
      obtain rfl:=Option.some.inj h
      exact gen _ (by rw[hi];rfl) ⟨b,base,cap,vss,e',hb,hown,hh,hs,hrr⟩
    ·simp at hels
   all_goals simp[ER]at hels
  ·simp[val]at h
theorem yO(I:Inv tb C)(F:BK C f a nt){o:Oper}{t e:TypeId}{x:AO}{y:Operand}{lo hi:Option AO}{ylo yhi:Option Operand}(ho:o.op= .slice t y ylo yhi none)(hu:P.underlying t=some (.slice e))(hz:(P.info? e).isSome=true)
  (hx:BA x y=true) (h1:YX lo ylo=true) (h2:YX hi yhi=true) {len l m:Nat} (hl:Og (eval tb f x)=some len) (h:HP (eval tb f) len lo hi=some (l,m)) {r:AV×Option Ay}
  (hv:val (resl C.H (P.cellsOf e) (eval tb f x) l m)=some r):Yields tb C r ((execOp a.eval o).run P C.w):=by
 have hr:=Bd I F hx
 have run: ∀(p:Option Addr) (cap:Nat),len≤cap→a.eval y= .slice p len cap→(execOp a.eval o).run P C.w= .ok (.value (.slice (if cap=l then p else p.map (·.add (l*P.cellsOf e))) (m-l) (cap-l))) C.w∧l≤m∧m≤len:=by
  intro p cap hlc hp
  obtain⟨hb,q1,q2⟩:=Rf (P:=P) I F h1 h2 (cap:=cap) true hlc h C.w
  refine⟨?_,q1,q2⟩
  simp only[execOp,ho,hp,Instr.sliceAt,Option.map_none,Sem.run_bind,AA hu,Result.andThen_ok,Instr.slice,hb,Cl hz,Sem.run_pure]
 generalize eval tb f x=v at*
 cases v<;>simp only[resl,val,Option.map_none,reduceCtorEq]at hv
 case nils=>
  simp only[Option.map_some,Option.some.injEq]at hv
  subst hv
  simp only[Og,Option.some.injEq]at hl
  subst hl
  obtain⟨q,q1,q2⟩:=run none 0 (Nat.le_refl _) hr
  obtain rfl:m=0:=by omega
  obtain rfl:l=0:=by omega
  exact A6 I q rfl
 case sl sz els=>
  split at hv
  ·rename_i e'
   subst e'
   simp only[Option.map_some,Option.some.injEq]at hv
   subst hv
   simp only[Og,Option.some.injEq]at hl
   subst hl
   rcases hr with ⟨b,base,cap,vss,e',hlc,hb,hown,hh,hs,hrr⟩|⟨rfl,p,cap,e'⟩
   case inr=>
    obtain⟨q,q1,q2⟩:=run _ cap (Nat.zero_le _) e'
    simp only[List.length_nil]at q2
    obtain rfl:m=0:=by omega
    obtain rfl:l=0:=by omega
    by_cases hc:cap=0
    ·rw[if_pos hc]at q
     exact A6 I q (.inr ⟨by simp,_,_,rfl⟩)
    ·rw[if_neg hc]at q
     exact A6 I q (.inr ⟨by simp,_,_,rfl⟩)
   obtain⟨q,q1,q2⟩:=run _ _ hlc e'
   have hlens:=Bi.lens (fun x hx=>(hs x hx).1) hrr
   have hlen:((els.take m).drop l).length=m-l:=by simp only[List.length_drop,List.length_take];omega
   by_cases hc:cap=l
   ·have hm:m=l:=by omega
    rw[if_pos hc]at q
    refine A6 I q<| .inl ⟨b,base,cap-l,[],?_,by omega,hb,hown,fun j v hj=>(by simp at hj),?_,?_⟩
    ·rw[hlen]
    ·intro x hx
     rw[List.eq_nil_of_length_eq_zero (l:=(els.take m).drop l) (by rw[hlen];omega)]at hx
     cases hx
    ·rw[List.eq_nil_of_length_eq_zero (l:=(els.take m).drop l) (by rw[hlen];omega)]
     rfl
   ·rw[if_neg hc]at q
    simp only[Option.map_some,Gx]at q
    refine A6 I q<| .inl ⟨b,base+l*P.cellsOf e,cap-l,(vss.take m).drop l,by rw[hlen],by rw[hlen];omega,hb,hown,?_,?_,hrr.sub _ _⟩
    ·rw[FM (sz:=P.cellsOf e) _ _ fun x hx=>hlens x (List.mem_of_mem_take hx),EW _ _ hlens]
     have:=hh.sub (l*P.cellsOf e) (m*P.cellsOf e-l*P.cellsOf e)
     rwa [←List.drop_take]at this
    ·exact fun x hx=>hs x (List.mem_of_mem_take (List.mem_of_mem_drop hx))
  ·simp at hv
 case orow id n l' len'=>
  simp only[Og,Option.some.injEq]at hl
  subst hl
  obtain⟨_,fz,sz,els,hg,hle,k⟩:=hr
  simp only[hg,Option.bind_some]at hv
  split at hv
  ·rename_i hc
   obtain⟨hn,hsz,hle'⟩:=hc
   simp only[Option.map_some,Option.some.injEq]at hv
   subst hv
   obtain⟨_,off,cap,e',hlc,hoff,hsize,hbo⟩:=k hn
   obtain⟨q,q1,q2⟩:=run _ _ hlc e'
   by_cases hc:cap=l
   ·rw[if_pos hc]at q
    refine A6 I q ⟨⟨_,_,rfl⟩,fz,sz,els,hg,hle,fun _=>⟨by omega,off,_,rfl,by omega,fun hp=>by omega,?_,hbo⟩⟩
    have:(cap-l)*sz≤cap*sz:=Nat.mul_le_mul_right _ (by omega)
    omega
   ·rw[if_neg hc]at q
    simp only[Option.map_some,Gx]at q
    refine A6 I q ⟨⟨_,_,rfl⟩,fz,sz,els,hg,hle,fun _=>⟨by omega,off+l*P.cellsOf e,_,rfl,by omega,fun hp=> ?_,?_,by omega⟩⟩
    ·rw[hoff (by omega),hsz,Nat.add_mul];omega
    ·rw[hsz]at hsize ⊢
     rw[Nat.sub_mul]
     have:l*P.cellsOf e≤cap*P.cellsOf e:=Nat.mul_le_mul_right _ (by omega)
     omega
  ·simp at hv
 case ocel sz id off len'=>
  simp only[Og,Option.some.injEq]at hl
  subst hl
  split at hv
  ·rename_i hsz
   subst hsz
   simp only[Option.map_some,Option.some.injEq]at hv
   subst hv
   obtain⟨hobj,q0,cap,e',hlc,hoff,hz'⟩:=hr
   obtain⟨q,q1,q2⟩:=run _ _ hlc e'
   by_cases hc:cap=l
   ·rw[if_pos hc]at q
    exact A6 I q ⟨hobj,q0,_,rfl,by omega,fun hp=>by omega,hz'⟩
   ·rw[if_neg hc]at q
    simp only[Option.map_some,Gx]at q
    exact A6 I q ⟨hobj,_,_,rfl,by omega,fun hp=>by rw[hoff (by omega)],hz'⟩
  ·simp at hv
theorem Ux(sz:Nat): ∀(n:Nat) (cs:List AV) (vs:List Value) (w:World) (b base:Nat),cs.all scal=true→B0 C cs vs→En w b base vs→n*sz≤cs.length→
  (BO sz n cs).length=n∧(∀e∈BO sz n cs,e.length=sz∧e.all scal=true)∧ ∃vss,En w b base vss.flatten∧Bi C (BO sz n cs) vss:=by
 intro n
 induction n with
 |zero=>intro cs vs w b base _ _ _ _;exact⟨rfl,fun e he=>(by cases he),[],fun j v hj=>(by simp at hj),rfl⟩
 |succ n ih=>
  intro cs vs w b base hs hr hh hn
  rw[Nat.succ_mul]at hn
  have hdrop:(cs.drop sz).all scal=true:=by
   simp only[List.all_eq_true]at hs ⊢
   exact fun x hx=>hs x (List.mem_of_mem_drop hx)
  obtain⟨h1,h2,vss,h3,h4⟩:=ih (cs.drop sz) (vs.drop sz) w b (base+sz) hdrop hr.drop (by
   have:=hh.sub sz (vs.drop sz).length
   rwa [List.take_of_length_le (Nat.le_refl _)]at this) (by simp only[List.length_drop];omega)
  have htake:(vs.take sz).length=sz:=by rw[List.length_take,hr.length];omega
  refine⟨by simp[BO,h1],?_,vs.take sz::vss,?_,⟨_,_,rfl,hr.take,h4⟩⟩
  ·intro x hx
   rcases List.mem_cons.1 hx with e|hx
   ·subst e
    refine⟨by simp only[List.length_take];omega,?_⟩
    simp only[List.all_eq_true]at hs ⊢
    exact fun y hy=>hs y (List.mem_of_mem_take hy)
   ·exact h2 x hx
  ·intro j v hj0
   have hj:(vs.take sz++vss.flatten)[j]? =some v:=hj0
   rcases Nat.lt_or_ge j sz with hlt|hge
   ·rw[List.getElem?_append_left (by omega)]at hj
    rw[List.getElem?_take,if_pos hlt]at hj
    exact hh j v hj
   ·rw[List.getElem?_append_right (by omega)]at hj
    have:=h3 _ v hj
    rw[htake]at this
    rwa [show base+sz+(j-sz)=base+j by omega]at this
theorem yP(I:Inv tb C)(F:BK C f a nt){o:Oper}{t e:TypeId}{n:Nat}{x:AO}{y:Operand}{lo hi:Option AO}{ylo yhi:Option Operand}(ho:o.op= .slice t y ylo yhi none)(hz:(P.info? e).isSome=true)(hz0:0<P.cellsOf e)
  (hu:P.underlying t=some (.array n e)∨ ∃u,P.underlying t=some (.pointer u)∧P.underlying u=some (.array n e))
  (hx:BA x y=true) (h1:YX lo ylo=true) (h2:YX hi yhi=true) {l m:Nat} (h:HP (eval tb f) n lo hi=some (l,m)) {r:AV×Option Ay}
  (hv:val (pC C.H n (P.cellsOf e) (eval tb f x) l m)=some r):Yields tb C r ((execOp a.eval o).run P C.w):=by
 have hr:=Bd I F hx
 obtain⟨hb,q1,q2⟩:=Rf (P:=P) I F h1 h2 (cap:=n) false (Nat.le_refl _) h C.w
 have run: ∀(p:Addr),a.eval y= .pointer (some p)→(execOp a.eval o).run P C.w= .ok (.value (.slice (some (if n=l then p else p.add (l*P.cellsOf e))) (m-l) (n-l))) C.w:=by
  intro p hp
  rcases hu with hu|⟨u,hu,hu'⟩
  ·simp only[execOp,ho,hp,Instr.sliceAt,Option.map_none,Sem.run_bind,AA hu,Result.andThen_ok,Instr.sureAddr,hb,Cl hz,Sem.run_pure]
  ·simp only[execOp,ho,hp,Instr.sliceAt,Option.map_none,Sem.run_bind,AA hu,AA hu',Result.andThen_ok,Instr.slice,asAddr,hb,Cl hz,Sem.run_pure]
 generalize eval tb f x=v at*
 cases v<;>simp only[pC,val,Option.map_none,reduceCtorEq]at hv
 case ptr id off=>
  cases hc:Cu C.H id with
  |none=>rw[hc]at hv;simp at hv
  |some cs=>
   rw[hc]at hv
   simp only[Option.bind_some]at hv
   split at hv
   ·simp only[Option.map_some,Option.some.injEq]at hv
    subst hv
    obtain⟨hobj,e'⟩:=hr
    have q:=run _ e'
    by_cases hc:n=l
    ·rw[if_pos hc]at q
     exact A6 I q ⟨hobj,off,_,rfl,by omega,fun hp=>by omega,hz0⟩
    ·rw[if_neg hc,Gx]at q
     exact A6 I q ⟨hobj,_,_,rfl,by omega,fun hp=>rfl,hz0⟩
   ·simp at hv
 case ip cs off=>
  split at hv
  ·rename_i hle
   simp only[Option.map_some,Option.some.injEq]at hv
   subst hv
   obtain⟨b,base,vs,e',hlt,hown,hh,hs,hrr⟩:=hr
   have q:=run _ e'
   obtain⟨c1,c2,vss,c3,c4⟩:=Ux (C:=C) (P.cellsOf e) n (cs.drop off) (vs.drop off) C.w b (base+off) (by
    simp only[List.all_eq_true]at hs ⊢
    exact fun x hx=>hs x (List.mem_of_mem_drop hx)) hrr.drop (by
    have:=hh.sub off (vs.drop off).length
    rwa [List.take_of_length_le (Nat.le_refl _)]at this) (by simp only[List.length_drop];omega)
   have hlens:=Bi.lens (fun x hx=>(c2 x hx).1) c4
   have hlen:(((BO (P.cellsOf e) n (cs.drop off)).take m).drop l).length=m-l:=by simp only[List.length_drop,List.length_take,c1];omega
   by_cases hc:n=l
   ·rw[if_pos hc]at q
    refine A6 I q<| .inl ⟨b,base+off,n-l,[],by rw[hlen],by omega,hlt,hown,fun j v hj=>(by simp at hj),?_,?_⟩
    ·intro x hx
     rw[List.eq_nil_of_length_eq_zero (l:=((BO (P.cellsOf e) n (cs.drop off)).take m).drop l) (by rw[hlen];omega)]at hx
     cases hx
    ·rw[List.eq_nil_of_length_eq_zero (l:=((BO (P.cellsOf e) n (cs.drop off)).take m).drop l) (by rw[hlen];omega)]
     rfl
   ·rw[if_neg hc,Gx]at q
    refine A6 I q<| .inl ⟨b,base+off+l*P.cellsOf e,n-l,(vss.take m).drop l,by rw[hlen],by rw[hlen];omega,hlt,hown,?_,fun x hx=>c2 x (List.mem_of_mem_take (List.mem_of_mem_drop hx)),c4.sub _ _⟩
    rw[FM (sz:=P.cellsOf e) _ _ fun x hx=>hlens x (List.mem_of_mem_take hx),EW _ _ hlens]
    have:=c3.sub (l*P.cellsOf e) (m*P.cellsOf e-l*P.cellsOf e)
    rwa [←List.drop_take]at this
  ·simp at hv
theorem Sl{w:World}{b o:Nat}{v:Value}{arr:Array Value}{e:TypeId}{fr:Nat×Nat}(h:w.heap[b]? =some (.cells arr e fr)):
  (w.setCell ⟨b,o,none⟩ v).heap[b]? =some (.cells (arr.setIfInBounds o v) e fr):=by
 simp[World.setCell,Array.getElem?_modify,h]
theorem heap_setCell_other{w:World}{b o c:Nat}{v:Value}(h:c≠b):(w.setCell ⟨b,o,none⟩ v).heap[c]? =w.heap[c]? :=by
 simp[World.setCell,Array.getElem?_modify,Ne.symm h]
theorem Hg{b:Nat}: ∀(vs:List Value) (o:Nat) {w:World} {arr:Array Value} {e:TypeId} {fr:Nat×Nat},w.heap[b]? =some (.cells arr e fr)→
  ∃arr',(w.setCells b o vs).heap[b]? =some (.cells arr' e fr)∧arr'.size=arr.size
 |[],_,_,arr,_,_,h=>⟨arr,h,rfl⟩
 |v::r,o,w,arr,e,fr,h=>by
  obtain⟨arr',h1,h2⟩:=Hg r (o+1) (Sl (o:=o) (v:=v) h)
  exact⟨arr',h1,by rw[h2];simp⟩
theorem Eh{b c:Nat}(hc:c≠b): ∀(vs:List Value) (o:Nat) {w:World},(w.setCells b o vs).heap[c]? =w.heap[c]?
 |[],_,_=>rfl
 |_::r,o,w=>by rw[World.setCells,Eh hc r (o+1),heap_setCell_other hc]
theorem Hd{b:Nat}: ∀(vs:List Value) (o:Nat) {w:World},(w.setCells b o vs).heap.size=w.heap.size
 |[],_,_=>rfl
 |_::r,o,w=>by rw[World.setCells,Hd r (o+1)];simp
theorem He{b:Nat}: ∀(vs:List Value) (o:Nat) {w:World},Rest w (w.setCells b o vs)
 |[],_,_=>⟨rfl,rfl,rfl⟩
 |v::r,o,w=>He (b:=b) r (o+1) (w:=w.setCell ⟨b,o,none⟩ v)
theorem Vi{w:World}{b o:Nat}{arr:Array Value}{e:TypeId}{fr:Nat×Nat}(h:w.heap[b]? =some (.cells arr e fr)){vs:List Value}(hle:o+vs.length≤arr.size)
  (hf: ∀j,j<vs.length→w.frozen? ⟨b,o+j,none⟩=false) (h1: ∀v∈vs,v.oneCell'=true):(storeCells ⟨b,o,none⟩ vs).run P w= .ok () (w.setCells b o vs):=by
 have:=run_storeCells_cells (P:=P) b o vs 0 w (fun j hj=>by
  simp only[World.cell?,h,Nat.add_zero]
  simp[Array.getElem?_eq_getElem (show o+j<arr.size by omega)]) (fun j hj=>by simpa using hf j hj) h1
 simpa using this
theorem En.put{w:World}{b o base:Nat}{arr:Array Value}{e:TypeId}{fr:Nat×Nat}(h:w.heap[b]? =some (.cells arr e fr)){vs us:List Value}(hh:En w b base us)
  (hle:o+vs.length≤us.length) (hsz:base+us.length≤arr.size):En (w.setCells b (base+o) vs) b base (us.take o++vs++us.drop (o+vs.length)):=by
 intro j v hj
 rcases Nat.lt_or_ge j o with hlt|hge
 ·rw[World.cell?_setCells_out b vs (base+o) w _ (fun _ _=> .inl (by simp;omega))]
  rw[List.append_assoc,List.getElem?_append_left (by simp only[List.length_take];omega),List.getElem?_take,if_pos hlt]at hj
  exact hh j v hj
 ·rcases Nat.lt_or_ge j (o+vs.length)with hlt|hge'
  ·have hjv:vs[j-o]? =some v:=by
    rw[List.append_assoc,List.getElem?_append_right (by simp only[List.length_take];omega)]at hj
    simp only[List.length_take]at hj
    rw[show min o us.length=o by omega,List.getElem?_append_left (by omega)]at hj
    exact hj
   have hlt':j-o<vs.length:=by omega
   have:=World.cell?_setCells_in b vs (base+o) w (fun i hi=>by
    simp only[World.cell?,h]
    simp[Array.getElem?_eq_getElem (show base+o+i<arr.size by omega)]) (j-o) hlt'
   rw[show base+o+(j-o)=base+j by omega]at this
   rw[this,←hjv,List.getElem?_eq_getElem hlt']
  ·rw[World.cell?_setCells_out b vs (base+o) w _ (fun _ _=> .inr (by simp;omega))]
   rw[List.getElem?_append_right (by simp only[List.length_append,List.length_take];omega),List.getElem?_drop]at hj
   simp only[List.length_append,List.length_take]at hj
   rw[show o+vs.length+(j-(min o us.length+vs.length))=j by omega]at hj
   exact hh j v hj
theorem HJ{w:World}{b o c q:Nat}{vs:List Value}:(w.setCells b o vs).frozen? ⟨c,q,none⟩=w.frozen? ⟨c,q,none⟩:=World.frozen?_setCells b vs o w _
theorem NI{cs new:List AV}{vs us:List Value}{off:Nat}(r:B0 C cs vs)(q:B0 C new us):B0 C (B3 cs off new) (vs.take off++us++vs.drop (off+us.length)):=by
 rw[q.length]
 exact B0.app (B0.app r.take q) r.drop
theorem Mp{cs new:List AV}{off:Nat}(r:cs.all scal=true)(q:new.all scal=true):(B3 cs off new).all scal=true:=by
 simp only[B3,List.all_append,Bool.and_eq_true,List.all_eq_true]at*
 exact⟨⟨fun x hx=>r x (List.mem_of_mem_take hx),q⟩,fun x hx=>r x (List.mem_of_mem_drop hx)⟩
theorem Ir{cs new:List AV}{off:Nat}(h:off+new.length≤cs.length):(B3 cs off new).length=cs.length:=by
 simp only[B3,List.length_append,List.length_take,List.length_drop];omega
theorem RN{t:TypeId}{b o:Nat}{v:Value}{w:World}{arr:Array Value}{e:TypeId}{fr:Nat×Nat}(hz:(P.info? t).isSome=true)(hsz:v.cells.size=P.cellsOf t)(h:w.heap[b]? =some (.cells arr e fr))
  (hle:o+P.cellsOf t≤arr.size) (hf: ∀j,j<P.cellsOf t→w.frozen? ⟨b,o+j,none⟩=false) (h1: ∀x∈v.cells.toList,x.oneCell'=true):
  (storeVar t ⟨b,o,none⟩ v).run P w= .ok () (w.setCells b o v.cells.toList):=by
 have hne: ¬(v.cells.size≠P.cellsOf t):=by omega
 have hp:=Vi (P:=P) h (vs:=v.cells.toList) (by simpa [hsz]using hle) (fun j hj=>hf j (by simpa [hsz]using hj)) h1
 simp only[storeVar,Sem.run_bind,Cl hz,Result.andThen_ok,if_neg hne]
 simpa using hp
theorem sim_st(I:Inv tb C)(F:BK C f a nt){o:Oper}{t:TypeId}{x z:AO}{y u:Operand}(ho:o.op= .store t y u)(hx:BA x y=true)(hzu:BA z u=true)(hz:(P.info? t).isSome=true)(hz0:0<P.cellsOf t)
  {H':Ay} (h:store C.H (P.cellsOf t) (eval tb f x) (eval tb f z)=some H'):Yields tb C (.junk,some H') ((execOp a.eval o).run P C.w):=by
 have hr:=Bd I F hx
 have hv:=Bd I F hzu
 generalize eval tb f x=v at*
 generalize eval tb f z=q at*
 cases v<;>simp only[store,reduceCtorEq]at h
 case ptr id off=>
  cases hc:Cu C.H id with
  |none=>rw[hc]at h;simp at h
  |some cs=>
   rw[hc]at h
   simp only[Option.bind_some]at h
   split at h
   ·rename_i hcond
    obtain⟨hn,hle⟩:=hcond
    obtain rfl:=Option.some.inj h
    obtain⟨tl,hg,hlab⟩:=N9 hc
    obtain⟨_,e'⟩:=hr
    obtain⟨vs,arr,et,fr,⟨h1,hlb⟩,h2,h3,h4,h5,h6⟩:=I.obj id _ hg
    obtain⟨c1,c2⟩:=N8 hv (by omega)
    have hsz:(a.eval u).cells.size=P.cellsOf t:=by have:=c1.length;rw[hn]at this;simpa using this
    have run:=RN (P:=P) (t:=t) (o:=off) hz hsz h1 (by omega) (fun j hj=>h6 _ (by omega)) (Nt c2 c1)
    obtain⟨arr',g1,g2⟩:=Hg (a.eval u).cells.toList off h1
    have hvl:(a.eval u).cells.toList.length=P.cellsOf t:=by simpa using hsz
    obtain⟨X,hI⟩:=yJ (D:=⟨C.φ,C.H.set id (C6.cells (EP C.H id) (B3 cs off (cellsOf q))),C.w.setCells (C.φ id).blk off (a.eval u).cells.toList⟩) I (He _ _) hg rfl (fun _ _=>rfl) (by simp only[Hd];omega)
     (fun b hb hne=>Eh hne _ _) (.inl rfl) (fun _=>⟨rfl,rfl⟩) (fun _ _ _ _ e=>by cases e)
    refine⟨_,X,hI ?_,rfl, .inr ⟨?_,trivial⟩⟩
    ·refine⟨_,arr',et,fr,⟨g1,by rw[hlab];exact hlb⟩,by rw[g2,h2,Ir (by rw[hn];exact hle)],Mp h3 c2,NI (h4.ext X) (c1.ext X),?_,?_⟩
     ·have:=En.put (base:=0) (o:=off) h1 h5 (vs:=(a.eval u).cells.toList) (by rw[hvl,h4.length];exact hle) (by rw[h4.length];omega)
      simpa using this
     ·intro j hj
      rw[Ir (by rw[hn];exact hle)]at hj
      rw[HJ]
      exact h6 j hj
    ·simp only[execOp,ho,e',Instr.storeAt,Instr.sureAddr,Sem.run_bind,Sem.run_pure,Result.andThen_ok,run]
   ·simp at h
 case pe id n i off=>
  obtain⟨_,fz,sz,els,hg,hl,k⟩:=hr
  simp only[hg,Option.bind_some]at h
  split at h
  ·rename_i hcond
   obtain⟨hfz,hn,hcl⟩:=hcond
   cases hi:els[i]? with
   |none=>rw[hi]at h;simp at h
   |some cs=>
    rw[hi]at h
    simp only[Option.bind_some]at h
    split at h
    ·rename_i hle
     obtain rfl:=Option.some.inj h
     have e':=k hn
     obtain⟨tl,hg',hlab⟩:=Kp hg
     obtain⟨vss,arr,et,fr,⟨h1,hfr0,hlb⟩,h2,h3,h4,h5,h6,h7,h8,h9⟩:=I.obj id _ hg'
     obtain⟨c1,c2⟩:=N8 hv (by omega)
     have hsz:(a.eval u).cells.size=P.cellsOf t:=by have:=c1.length;rw[hcl]at this;simpa using this
     have hvl:(a.eval u).cells.toList.length=P.cellsOf t:=by simpa using hsz
     have hcs:=(h4 cs (List.mem_of_getElem? hi)).1
     have hilt:=Bj hi
     have hin:i*sz+sz≤els.length*sz:=by
      have:(i+1)*sz≤els.length*sz:=Nat.mul_le_mul_right _ (by omega)
      rwa [Nat.succ_mul]at this
     have hfr: ∀j,j<P.cellsOf t→C.w.frozen? ⟨(C.φ id).blk,(C.φ id).base+i*sz+off+j,none⟩=false:=fun j hj=>h8 hfz _ (by omega)
     have run:=RN (P:=P) (t:=t) (o:=(C.φ id).base+i*sz+off) hz hsz h1 (by omega) hfr (Nt c2 c1)
     obtain⟨arr',g1,g2⟩:=Hg (a.eval u).cells.toList ((C.φ id).base+i*sz+off) h1
     obtain⟨X,hI⟩:=yJ (D:=⟨C.φ,C.H.set id (C6.row (EP C.H id) false sz (els.set i (B3 cs off (cellsOf q)))),C.w.setCells (C.φ id).blk ((C.φ id).base+i*sz+off) (a.eval u).cells.toList⟩) I (He _ _) hg' rfl (fun _ _=>rfl) (by simp only[Hd];omega)
      (fun b hb hne=>Eh hne _ _) (.inl rfl) (fun e=>by cases e) (fun _ fz' sz' els' e=>by cases e;exact⟨_,_,_,rfl,by simp,fun _=>rfl⟩)
     refine⟨_,X,hI ?_,rfl, .inr ⟨?_,trivial⟩⟩
     ·obtain⟨vs,hv',rv⟩:=Bi.get h5 hi
      have hlens:=Bi.lens (fun x hx=>(h4 x hx).1) h5
      refine⟨vss.set i (vs.take off++(a.eval u).cells.toList++vs.drop (off+(a.eval u).cells.toList.length)),arr',et,fr,⟨g1,hfr0,by rw[hlab];exact hlb⟩,by rw[g2];exact h2,h3,?_,?_,by simpa using h6,?_,?_,?_⟩
      ·intro x hx
       rcases List.mem_or_eq_of_mem_set hx with hx|hx
       ·exact h4 x hx
       ·subst hx
        exact⟨by rw[Ir (by omega)];exact hcs,Mp (h4 cs (List.mem_of_getElem? hi)).2 c2⟩
      ·exact Bi.set (NI (rv.ext X) (c1.ext X)) (h5.ext X)
      ·have hfl:(vss.set i (vs.take off++(a.eval u).cells.toList++vs.drop (off+(a.eval u).cells.toList.length))).flatten=
         vss.flatten.take (i*sz+off)++(a.eval u).cells.toList++vss.flatten.drop (i*sz+off+(a.eval u).cells.toList.length):=by
        have hvs:vs.length=sz:=hlens vs (List.mem_of_getElem? hv')
        have: ∀(l:List (List Value)) (i:Nat),(∀y∈l,y.length=sz)→l[i]? =some vs→(l.set i (vs.take off++(a.eval u).cells.toList++vs.drop (off+(a.eval u).cells.toList.length))).flatten=
          l.flatten.take (i*sz+off)++(a.eval u).cells.toList++l.flatten.drop (i*sz+off+(a.eval u).cells.toList.length):=by
         intro l
         induction l with
         |nil=>intro i _ e;simp at e
         |cons y l ih=>
          intro i hy e
          cases i with
          |zero=>
           simp at e;subst e
           simp only[List.set_cons_zero,List.flatten_cons,Nat.zero_mul,Nat.zero_add]
           rw[List.take_append_of_le_length (by omega),List.drop_append_of_le_length (by omega)]
           simp
          |succ i=>
           have hyl:=hy y List.mem_cons_self
           simp only[List.set_cons_succ,List.flatten_cons]
           rw[ih i (fun z hz=>hy z (List.mem_cons_of_mem _ hz)) (by simpa using e)]
           rw[Nat.succ_mul,List.take_append,List.take_of_length_le (l:=y) (by omega),List.drop_append,List.drop_of_length_le (l:=y) (by omega),List.nil_append]
           rw[show i*sz+sz+off-y.length=i*sz+off by omega,show i*sz+sz+off+(a.eval u).cells.toList.length-y.length=i*sz+off+(a.eval u).cells.toList.length by omega]
           simp
        exact this vss i hlens hv'
       rw[hfl]
       have hfll:vss.flatten.length=els.length*sz:=by
        have:=(Bi.flat h5).length
        rw[this]
        clear this hfl
        have: ∀(l:List (List AV)),(∀x∈l,x.length=sz)→l.flatten.length=l.length*sz:=by
         intro l
         induction l with
         |nil=>intro _;simp
         |cons y l ih=>intro hy;rw[List.flatten_cons,List.length_append,ih fun z hz=>hy z (List.mem_cons_of_mem _ hz),hy y List.mem_cons_self,List.length_cons,Nat.succ_mul];omega
        exact this els fun x hx=>(h4 x hx).1
       have:=En.put (base:=(C.φ id).base) (o:=i*sz+off) h1 h7 (vs:=(a.eval u).cells.toList) (by omega) (by omega)
       rwa [←Nat.add_assoc]at this
      ·intro _ j hj
       rw[HJ]
       exact h8 hfz j hj
      ·intro _ j hj hj'
       rw[HJ]
       exact h9 hfz j (by simpa using hj) hj'
     ·simp only[execOp,ho,e',Instr.storeAt,Instr.sureAddr,Sem.run_bind,Sem.run_pure,Result.andThen_ok,run]
    ·simp at h
  ·simp at h
end
end Go.Proofs.YtobejhpigbllpaaGreatDoor.Am
namespace Go.Proofs.YtobejhpigbllpaaGreatDoor.Am
section
variable{cl:Nat→List AV→Ay→Lk}{P:Program}{tb:Dh}{C:DP}{f:Fr}{a:Act}{nt:Nat}
theorem FN{α:Type}{sz:Nat}: ∀(l:List (List α)),(∀x∈l,x.length=sz)→l.flatten.length=l.length*sz
 |[],_=>by simp
 |y::l,h=>by
  rw[List.flatten_cons,List.length_append,FN l fun z hz=>h z (List.mem_cons_of_mem _ hz),h y List.mem_cons_self,List.length_cons,Nat.succ_mul];omega
theorem N1: ∀{l:List (List AV)},(∀x∈l,x.all scal=true)→l.flatten.all scal=true
 |[],_=>rfl
 |y::l,h=>by
  rw[List.flatten_cons,List.all_append,h y List.mem_cons_self,N1 fun z hz=>h z (List.mem_cons_of_mem _ hz)]
  rfl
theorem sD(l:List UInt8):Bi C (BI l) (l.map fun c=>[Value.int .u8 c.toNat])∧(∀x∈BI l,x.length=1∧x.all scal=true):=by
 induction l with
 |nil=>exact⟨rfl,fun x hx=>by cases hx⟩
 |cons c l ih=>
  refine⟨⟨_,_,rfl,⟨_,_,rfl,rfl,rfl⟩,ih.1⟩,fun x hx=> ?_⟩
  rcases List.mem_cons.1 hx with e|hx
  ·subst e;exact⟨rfl,rfl⟩
  ·exact ih.2 x hx
theorem eI(I:Inv tb C){x:AV}{v:Value}{sz:Nat}{els:List (List AV)}(hsz:0<sz)(r:HA C x v)(h:eJ C.H sz x=some els):
  (Builtin.lenOf v).run P C.w= .ok els.length C.w∧ ∃vss,Bi C els vss∧(∀e∈els,e.length=sz∧e.all scal=true)∧
   ∀(m:Nat) (w:World),m≤els.length→w.heap=C.w.heap→(Builtin.firstCells sz m v).run P w= .ok (vss.take m).flatten.toArray w:=by
 have slc:ER C.H sz x=some els→(Builtin.lenOf v).run P C.w= .ok els.length C.w∧ ∃vss,Bi C els vss∧(∀e∈els,e.length=sz∧e.all scal=true)∧
   ∀(m:Nat) (w:World),m≤els.length→w.heap=C.w.heap→(Builtin.firstCells sz m v).run P w= .ok (vss.take m).flatten.toArray w:=by
  intro h
  rcases bT I hsz r h with ⟨rfl,e⟩|⟨q,cap,vss,e,hlc,hh,hs,hr⟩
  ·subst e
   refine⟨rfl,[],rfl,fun e he=>(by cases he),fun m w _ _=> ?_⟩
   simp[Builtin.firstCells]
  ·subst e
   refine⟨rfl,vss,hr,hs,fun m w hm hw=> ?_⟩
   have hlens:=Bi.lens (fun x hx=>(hs x hx).1) hr
   have hlen:(vss.take m).flatten.length=m*sz:=by
    rw[FN _ fun x hx=>hlens x (List.mem_of_mem_take hx),List.length_take,hr.length];congr 1;omega
   by_cases hne:els=[]
   ·subst hne
    have hv:vss=[]:=List.eq_nil_of_length_eq_zero (by rw[hr.length];rfl)
    subst hv
    have hm0:m=0:=by simpa using hm
    subst hm0
    simp only[Builtin.firstCells,Nat.zero_mul,List.take_nil,List.flatten_nil]
    rfl
   obtain⟨b,base,rfl,hh2⟩:=hh hne
   have hh':En w b base (vss.take m).flatten:=by
    intro j u hj
    rw[EW _ _ hlens,List.getElem?_take]at hj
    split at hj
    ·have:=hh2 j u hj
     rwa [Oq (w:=C.w) (w':=w) (by rw[hw])]
    ·cases hj
   have:=HD (P:=P) hh'
   rw[hlen]at this
   simpa [Builtin.firstCells]using this
 cases x<;>simp only[eJ]at h<;>try exact slc h
 case s l=>
  split at h
  ·rename_i e
   subst e
   obtain rfl:=Option.some.inj h
   have ev:v= .string ⟨l.toArray⟩:=r
   subst ev
   obtain⟨h1,h2⟩:=sD (C:=C) l
   refine⟨by simp[Builtin.lenOf,PQ,BI],_,h1,h2,fun m w hm hw=> ?_⟩
   simp only[Builtin.firstCells,Sem.run_pure]
   congr 1
   rw[WZ]
   have: ∀(l:List UInt8) (m:Nat),List.take m (List.map (fun b:UInt8=>Value.int .u8 b.toNat) l)=(List.take m (List.map (fun c:UInt8=>[Value.int .u8 c.toNat]) l)).flatten:=by
    intro l
    induction l with
    |nil=>intro m;simp
    |cons c l ih=>
     intro m
     cases m with
     |zero=>simp
     |succ m=>simp[ih]
   simp[List.map_take,this]
  ·simp at h
theorem NN{t u ty e:TypeId}(ht:P.underlying t=some (.slice e))(hu: ∃d,P.underlying u=some d∧ ∀k,d≠ .int k)(hz:(P.info? e).isSome=true){p:Option Addr}{n cap m:Nat}{x:Value}{w:World}{us:List Value}
  (hl:(Builtin.lenOf x).run P w= .ok m w) (hc:(Builtin.firstCells (P.cellsOf e) m x).run P w= .ok us.toArray w) (hroom:n+m≤cap):
  (Builtin.append_ #[t,u] ty #[.slice p n cap,x]).run P w=(match p with
   |some q=>(storeCells (q.add (n*P.cellsOf e)) us).run P w
   |none=> .ok () w).andThen fun _ w'=> .ok (.slice p (n+m) cap) w':=by
 obtain⟨d,hu,hk⟩:=hu
 have hd:(match d with| .int _=>true|_=>false)=false:=by cases d<;>first|rfl|exact absurd rfl (hk _)
 simp only[Builtin.append_,List.getElem?_toArray,List.getElem?_cons_zero,List.getElem?_cons_succ,Sem.run_bind,AA ht,AA hu,Result.andThen_ok,Cl hz,Sem.run_pure]
 cases p with
 |none=>cases d<;>first|exact absurd rfl (hk _)|simp[hl,hc,hroom]
 |some q=>cases d<;>first|exact absurd rfl (hk _)|simp[hl,hc,hroom]
theorem RO{t u ty e:TypeId}(ht:P.underlying t=some (.slice e))(hu: ∃d,P.underlying u=some d∧ ∀k,d≠ .int k){i:TypeInfo}(hi:P.info? e=some i){z:Value}(hzz:i.zero=some z){p:Option Addr}{n cap m:Nat}{x:Value}{w:World}
  {us olds:List Value} (hl:(Builtin.lenOf x).run P w= .ok m w) (hc: ∀w',w'.heap=w.heap→(Builtin.firstCells (P.cellsOf e) m x).run P w'= .ok us.toArray w')
  (ho: ∀w',w'.heap=w.heap→(Builtin.firstCells (P.cellsOf e) n (.slice p n cap)).run P w'= .ok olds.toArray w') (hroom:cap<n+m) (hb:(n+m)*i.bytes≤140737488355328) (hbz:0<i.bytes):
  ∃K,n+m≤K∧(Builtin.append_ #[t,u] ty #[.slice p n cap,x]).run P w=
   .ok (.slice (some ⟨w.heap.size,0,none⟩) (n+m) K) ({w with drawn:=w.drawn+1}.alloc (.cells (olds.toArray++us.toArray++Builtin.zeroCells z.cells (K-(n+m))) e)):=by
 obtain⟨d,hu,hk⟩:=hu
 have hz:(P.info? e).isSome=true:=by rw[hi];rfl
 have hcells:P.cellsOf e=i.size:=by simp[Program.cellsOf,hi]
 have hch:(choose (.appendCap (n+m) cap e)).run P w= .ok (grownCap w (n+m) cap e) {w with drawn:=w.drawn+1}:=by
  simp[Question.forced,grownCap]
 have hnr: ¬(n+m≤cap):=by omega
 have hfit:=growslice_fits (bytes:=i.bytes) hroom hb
 have hfit': ¬(Builtin.nextslicecap (n+m) cap*i.bytes>2^48):=by omega
 refine⟨grownCap w (n+m) cap e,grownCap_ge w (n+m) cap e,?_⟩
 have h1:=hc {w with drawn:=w.drawn+1} rfl
 have h2:=ho {w with drawn:=w.drawn+1} rfl
 have hbz':i.bytes≠0:=by omega
 simp only[Builtin.append_,List.getElem?_toArray,List.getElem?_cons_zero,List.getElem?_cons_succ,Sem.run_bind,AA ht,AA hu,Result.andThen_ok,Cl hz,Sem.run_pure]
 cases d<;>first
  |exact absurd rfl (hk _)
  |(simp only[Bool.false_eq_true,if_false,hl,Result.andThen_ok,Sem.run_bind,Sem.run_pure,if_neg hnr,Sem.run_ite,Ko hi,hbz',or_self,and_false,hfit',hch,run_askRoom,h1,h2,zeroValue,hzz,newRow,run_newObj,gt_iff_lt]
    rfl)
theorem nT{fz:Bool}{sz:Nat}{els:List (List AV)}{vss:List (List Value)}{arr:Array Value}{e:TypeId}{w:World}(hw:w.heap=C.w.heap)(hsz:0<sz)(hs: ∀x∈els,x.length=sz∧x.all scal=true)(hr:Bi C els vss)
  (harr: ∀(j:Nat) (v:Value),vss.flatten[j]? =some v→arr[j]? =some v) (hle:els.length*sz≤arr.size):let p:Place:=⟨C.w.heap.size,0,arr.size⟩
  let w':=w.alloc (.cells arr e)
  C.w.heap.size<w'.heap.size∧(∀b,b<C.w.heap.size→w'.heap[b]? =C.w.heap[b]?)∧ ∀D:DP,KU C D→D.w=w'→Obj D p (C6.row (some e) fz sz els):=by
 have hsize:w.heap.size=C.w.heap.size:=by rw[hw]
 have hn:(w.alloc (.cells arr e)).heap[C.w.heap.size]? =some (.cells arr e):=by rw[←hsize];exact Jc _ _
 refine⟨by rw[HR,hsize];omega,fun b hb=>by rw[alloc_old _ _ (by omega),hw],?_⟩
 intro D X hD
 refine⟨vss,arr,e,(0,0),⟨by rw[hD];exact hn,Nat.le_refl _,fun k hk=>by cases hk;rfl⟩,rfl,hsz,hs,Bi.ext X hr,by simpa using hle,?_,?_,?_⟩
 ·intro j v hj
  rw[hD]
  simp only[World.cell?,hn,Nat.zero_add]
  simpa using harr j v hj
 ·intro _ o _
  rw[hD]
  simp only[World.frozen?,hn]
  simp
 ·intro _ o _ _
  rw[hD]
  simp only[World.frozen?,hn]
  simp
theorem Vv(I:Inv tb C){fz:Bool}{sz:Nat}{els:List (List AV)}{vss:List (List Value)}{arr:Array Value}{e:TypeId}{w:World}(hrest:Rest C.w w)(hw:w.heap=C.w.heap)(hsz:0<sz)(hs: ∀x∈els,x.length=sz∧x.all scal=true)(hr:Bi C els vss)
  (harr: ∀(j:Nat) (v:Value),vss.flatten[j]? =some v→arr[j]? =some v) {K:Nat} (hK:els.length≤K) (hle:K*sz≤arr.size) {x:Result Next}
  (h:x= .ok (.value (.slice (some ⟨C.w.heap.size,0,none⟩) els.length K)) (w.alloc (.cells arr e))):
  Yields tb C (.orow C.H.length els.length 0 els.length,some (C.H++[C6.row (some e) fz sz els])) x:=by
 have hle':els.length*sz≤arr.size:=Nat.le_trans (Nat.mul_le_mul_right _ hK) hle
 obtain⟨h1,h2,h3⟩:=nT (fz:=fz) (e:=e) hw hsz hs hr harr hle'
 refine QW (w:=w.alloc (.cells arr e)) I (p:=⟨C.w.heap.size,0,arr.size⟩) hrest h h1 rfl h2 (h3 _ (more (w:=w.alloc (.cells arr e)) I hrest h1 rfl h2).1 rfl) ?_
 intro hφ
 refine⟨⟨_,_,rfl⟩,fz,sz,els,by simp[DP.more,rowAt],Nat.le_refl _,fun _=>⟨by omega,0,K,by rw[hφ],hK,fun _=>by rw[hφ];simp,by rw[hφ];simpa using hle,by rw[hφ];exact Nat.zero_le _⟩⟩
theorem Ru{vss:List (List Value)}{us:List Value}{rest:Array Value}(j:Nat)(v:Value)(h:vss.flatten[j]? =some v)(e:us=vss.flatten):(#[]++us.toArray++rest)[j]? =some v:=by
 subst e
 have:=Bj h
 rw[Array.getElem?_append_left (by simpa using this)]
 simpa using h
theorem zO(I:Inv tb C)(F:BK C f a nt){o:Oper}{c:Call}{t u e:TypeId}{s x:AO}{y1 y2:Operand}(ho:o.op= .call c)(hc:c.callee= .builtin .append)(hargs:c.args= #[y1,y2])(htys:c.argTypes= #[t,u])
  (ht:P.underlying t=some (.slice e)) (hu: ∃d,P.underlying u=some d∧ ∀k,d≠ .int k) {i:TypeInfo} (hi:P.info? e=some i) {z:Value} (hzz:i.zero=some z) (hzs:z.cells.size=P.cellsOf e) (hz0:0<P.cellsOf e) (hbz:0<i.bytes)
  (h1:BA s y1=true) (h2:BA x y2=true) {new:List (List AV)} (hn:eJ C.H (P.cellsOf e) (eval tb f x)=some new) {r:AV×Option Ay} (h:TI C.H e (P.cellsOf e) i.bytes (eval tb f s) new=some r):
  Yields tb C r ((execOp a.eval o).run P C.w):=by
 have hz:(P.info? e).isSome=true:=by rw[hi];rfl
 have r1:=Bd I F h1
 obtain⟨hl,vss,hrr,hs,hfc⟩:=eI (P:=P) I hz0 (Bd I F h2) hn
 have hlens:=Bi.lens (fun x hx=>(hs x hx).1) hrr
 have hfc': ∀w',w'.heap=C.w.heap→(Builtin.firstCells (P.cellsOf e) new.length (a.eval y2)).run P w'= .ok vss.flatten.toArray w':=by
  intro w' hw
  have:=hfc new.length w' (Nat.le_refl _) hw
  rwa [List.take_of_length_le (by rw[hrr.length];omega)]at this
 have hul:vss.flatten.length=new.length*P.cellsOf e:=by rw[FN _ hlens,hrr.length]
 have run: ∀{v w'},(Builtin.append_ #[t,u] o.type #[a.eval y1,a.eval y2]).run P C.w= .ok v w'→(execOp a.eval o).run P C.w= .ok (.value v) w':=by
  intro v w' hv
  refine FH ho hc fun q=> ?_
  simp only[hargs,htys,List.map_toArray,List.map_cons,List.map_nil,builtin,Sem.run_bind,hv,Result.andThen_ok,Sem.run_pure]
 generalize eval tb f s=v at*
 cases v<;>simp only[TI,reduceCtorEq]at h
 case nils=>
  have e1:a.eval y1= .slice none 0 0:=r1
  split at h
  ·rename_i h0
   obtain rfl:=Option.some.inj h
   have:=NN (P:=P) (ty:=o.type) ht hu hz (p:=none) (n:=0) (cap:=0) hl (hfc' C.w rfl) (by omega)
   refine A6 I (v:= .slice none 0 0) (run ?_) rfl
   rw[e1,this]
   simp[h0]
  ·rename_i h0
   split at h
   ·rename_i hb
    obtain rfl:=Option.some.inj h
    obtain⟨K,hK,hrun⟩:=RO (P:=P) (ty:=o.type) (p:=none) (n:=0) (cap:=0) (olds:=[]) ht hu hi hzz hl hfc' (fun w' _=>by simp[Builtin.firstCells]) (by omega) (by rw[Nat.zero_add];unfold Di at hb;omega) hbz
    rw[←e1]at hrun
    simp only[Nat.zero_add]at hrun hK
    refine Vv (w:={C.w with drawn:=C.w.drawn+1}) I ⟨rfl,rfl,rfl⟩ rfl hz0 hs hrr (fun j v hj=>Ru j v hj rfl) hK ?_ (run hrun)
    simp only[Array.size_append,List.size_toArray,size_zeroCells,hzs,hul,List.length_nil,Nat.zero_add]
    rw[←Nat.add_mul,show new.length+(K-new.length)=K by omega]
    exact Nat.le_refl _
   ·simp at h
 case orow id n lo len=>
  obtain⟨_,fz,sz,els,hg,hle,k⟩:=r1
  simp only[hg,Option.bind_some]at h
  split at h
  ·rename_i hcond
   obtain⟨rfl,hn',rfl,hsz,hb,hfz⟩:=hcond
   obtain⟨_,off,cap,e1,hlc,hoff,hsize,hbo⟩:=k hn'
   subst hsz
   subst hn'
   obtain⟨tl,hg',hlab⟩:=Kp hg
   obtain⟨ws,arr,et,fr,⟨g1,hfr0,hlb⟩,g2,g3,g4,g5,g6,g7,g8,g9⟩:=I.obj id _ hg'
   have hwl:=Bi.lens (fun x hx=>(g4 x hx).1) g5
   have hwfl:ws.flatten.length=els.length*P.cellsOf e:=by rw[FN _ hwl,g5.length]
   split at h
   ·rename_i h0
    obtain rfl:=Option.some.inj h
    have:=NN (P:=P) (ty:=o.type) ht hu hz (p:=some ⟨(C.φ id).blk,off,none⟩) (n:=els.length) (cap:=cap) hl (hfc' C.w rfl) (by omega)
    have hv0:vss.flatten=[]:=List.eq_nil_of_length_eq_zero (by rw[hul,h0];simp)
    rw[hv0]at this
    refine A6 I (v:= .slice (some ⟨(C.φ id).blk,off,none⟩) els.length cap) (run ?_) ⟨⟨_,_,rfl⟩,fz,_,els,hg,Nat.le_refl _,fun _=>⟨by omega,off,cap,rfl,hlc,hoff,hsize,hbo⟩⟩
    rw[e1,this]
    simp[h0,storeCells]
   ·rename_i h0
    obtain rfl:=Option.some.inj h
    have hpos:0<new.length:=by omega
    by_cases hroom:els.length+new.length≤cap
    ·
     have hcap:(els.length+new.length)*P.cellsOf e≤cap*P.cellsOf e:=Nat.mul_le_mul_right _ hroom
     rw[Nat.add_mul]at hcap
     have hoffs:off=(C.φ id).base∨els.length=0:=by
      rcases Nat.eq_zero_or_pos els.length with h|h
      ·exact .inr h
      ·exact .inl (by rw[hoff h];simp)
     have hst:=Vi (P:=P) (o:=off+els.length*P.cellsOf e) (vs:=vss.flatten) g1 (by rw[hul];omega) (fun j hj=>g9 hfz _ (by
       rcases hoffs with h|h
       ·omega
       ·rw[h];omega) (by rw[hul]at hj;omega)) (Nt (N1 fun x hx=>(hs x hx).2) hrr.flat)
     have:=NN (P:=P) (ty:=o.type) ht hu hz (p:=some ⟨(C.φ id).blk,off,none⟩) (n:=els.length) (cap:=cap) hl (hfc' C.w rfl) hroom
     simp only[Gx,hst,Result.andThen_ok]at this
     obtain⟨arr',q1,q2⟩:=Hg vss.flatten (off+els.length*P.cellsOf e) g1
     obtain⟨X,hI⟩:=yJ (D:=⟨fun j=>if j=id then⟨(C.φ id).blk,off,(C.φ id).size⟩else C.φ j,C.H.set id (C6.row (TZ (EP C.H id) e) fz (P.cellsOf e) (els++new)),C.w.setCells (C.φ id).blk (off+els.length*P.cellsOf e) vss.flatten⟩) I (He _ _) hg' rfl
      (fun j hj=>if_neg hj) (by simp only[Hd];omega) (fun b hb hne=>Eh hne _ _) (.inl (by simp)) (fun e=>by cases e)
      (fun _ fz' sz' els' e=>by cases e;exact⟨_,_,_,rfl,by simp,fun e=>absurd e (by rw[List.length_append];omega)⟩)
     refine⟨_,X,hI ?_,rfl, .inl ⟨.slice (some ⟨(C.φ id).blk,off,none⟩) (els.length+new.length) cap,run (by rw[e1,this]),?_⟩⟩
     ·simp only[if_true]
      refine⟨ws++vss,arr',et,fr,⟨q1,hfr0,fun k hk=>by
       unfold TZ at hk
       split at hk
       ·rename_i hl';rw[hlab]at hl';cases hk;exact hlb _ hl'
       ·cases hk⟩,by rw[q2];exact g2,g3,?_,Bi.app (Bi.ext X g5) (Bi.ext X hrr),?_,?_,?_,?_⟩
      ·intro y hy
       rcases List.mem_append.1 hy with hy|hy
       ·exact g4 y hy
       ·exact hs y hy
      ·simp only[List.length_append];rw[Nat.add_mul];omega
      ·intro j v hj
       rw[List.flatten_append]at hj
       rcases Nat.lt_or_ge j ws.flatten.length with hlt|hge
       ·rw[List.getElem?_append_left hlt]at hj
        rw[World.cell?_setCells_out _ _ _ _ _ fun _ _=> .inl (by simp;omega)]
        have hoff':off=(C.φ id).base:=hoffs.resolve_right fun h0=>by rw[h0]at hwfl;omega
        rw[hoff']
        exact g7 j v hj
       ·rw[List.getElem?_append_right hge]at hj
        have hlt':=Bj hj
        have:=World.cell?_setCells_in (C.φ id).blk vss.flatten (off+els.length*P.cellsOf e) C.w (fun q hq=>by
         simp only[World.cell?,g1]
         simp[Array.getElem?_eq_getElem (show off+els.length*P.cellsOf e+q<arr.size by omega)]) (j-ws.flatten.length) hlt'
        rw[show off+els.length*P.cellsOf e+(j-ws.flatten.length)=off+j by omega]at this
        rw[this,←hj,List.getElem?_eq_getElem hlt']
      ·intro hf j hj
       rw[HJ]
       exact g8 hf j hj
      ·intro _ j hj hj'
       simp only[List.length_append]at hj
       rw[Nat.add_mul]at hj
       rw[HJ]
       refine g9 hfz j ?_ hj'
       rcases hoffs with h|h
       ·omega
       ·rw[h];omega
     ·exact⟨⟨_,_,rfl⟩,fz,P.cellsOf e,els++new,jW (List.getElem?_set_self (Bj hg')),by simp,fun _=>⟨by simp,off,cap,by simp,by omega,fun _=>by simp,by simpa using hsize,by simp⟩⟩
    ·
     have hold: ∀w',w'.heap=C.w.heap→(Builtin.firstCells (P.cellsOf e) els.length (.slice (some ⟨(C.φ id).blk,off,none⟩) els.length cap)).run P w'= .ok ws.flatten.toArray w':=by
      intro w' hw
      have hh:En w' (C.φ id).blk off ws.flatten:=by
       intro j v hj
       have hlt:=Bj hj
       have hoff':off=(C.φ id).base:=by
        rcases Nat.eq_zero_or_pos els.length with h|h
        ·rw[h]at hwfl;omega
        ·rw[hoff h];simp
       rw[Oq (w:=C.w) (w':=w') (by rw[hw]),hoff']
       exact g7 j v hj
      have:=HD (P:=P) hh
      rw[hwfl]at this
      simpa [Builtin.firstCells]using this
     obtain⟨K,hK,hrun⟩:=RO (P:=P) (ty:=o.type) (p:=some ⟨(C.φ id).blk,off,none⟩) (n:=els.length) (cap:=cap) (olds:=ws.flatten) ht hu hi hzz hl hfc' hold (by omega) (by unfold Di at hb;omega) hbz
     rw[←e1]at hrun
     have hall: ∀x∈els++new,x.length=P.cellsOf e∧x.all scal=true:=by
      intro y hy
      rcases List.mem_append.1 hy with hy|hy
      ·exact g4 y hy
      ·exact hs y hy
     have hsize':(ws.flatten.toArray++vss.flatten.toArray++Builtin.zeroCells z.cells (K-(els.length+new.length))).size=K*P.cellsOf e:=by
      simp only[Array.size_append,List.size_toArray,size_zeroCells,hzs,hul,hwfl]
      rw[←Nat.add_mul,←Nat.add_mul]
      congr 1
      omega
     obtain⟨w1,w2,w3⟩:=nT (fz:=fz) (e:=e) (w:={C.w with drawn:=C.w.drawn+1}) (vss:=ws++vss) (arr:=ws.flatten.toArray++vss.flatten.toArray++Builtin.zeroCells z.cells (K-(els.length+new.length))) rfl hz0 hall (Bi.app g5 hrr)
      (fun j v hj=>by
       rw[List.flatten_append]at hj
       have:=Bj hj
       rw[Array.getElem?_append_left (by simpa using this)]
       simpa using hj) (by rw[hsize',List.length_append];exact Nat.mul_le_mul_right _ hK)
     obtain⟨X,hI⟩:=yJ (D:=⟨fun j=>if j=id then⟨C.w.heap.size,0,(ws.flatten.toArray++vss.flatten.toArray++Builtin.zeroCells z.cells (K-(els.length+new.length))).size⟩else C.φ j,C.H.set id (C6.row (TZ (EP C.H id) e) fz (P.cellsOf e) (els++new)),{C.w with drawn:=C.w.drawn+1}.alloc (.cells (ws.flatten.toArray++vss.flatten.toArray++Builtin.zeroCells z.cells (K-(els.length+new.length))) e)⟩) I ⟨rfl,rfl,rfl⟩ hg' rfl
      (fun j hj=>if_neg hj) (Nat.le_of_lt w1) (fun b hb _=>w2 b hb) (.inr ⟨by simp,by simp⟩) (fun e=>by cases e)
      (fun _ fz' sz' els' e=>by cases e;exact⟨_,_,_,rfl,by simp,fun e=>absurd e (by rw[List.length_append];omega)⟩)
     refine⟨_,X,hI ?_,rfl, .inl ⟨_,run hrun,?_⟩⟩
     ·simp only[if_true]
      obtain⟨vss',arr'',e'',fr'',⟨y1,y2,y3⟩,yy⟩:=w3 _ X rfl
      exact⟨vss',arr'',e'',fr'',⟨y1,y2,fun k hk=>by
       unfold TZ at hk
       split at hk
       ·cases hk;exact y3 _ rfl
       ·cases hk⟩,yy⟩
     ·exact⟨⟨_,_,rfl⟩,fz,P.cellsOf e,els++new,jW (List.getElem?_set_self (Bj hg')),by simp,fun _=>⟨by simp,0,K,by simp,hK,fun _=>by simp,by simp only[if_true,hsize'];omega,by simp⟩⟩
  ·simp at h
theorem Yo{sz m:Nat}{l:List (List AV)}(h: ∀x∈l,x.length=sz)(hm:m≤l.length):(l.take m).flatten.length=m*sz:=by
 rw[FN _ fun x hx=>h x (List.mem_of_mem_take hx),List.length_take,Nat.min_eq_left hm]
theorem zH(I:Inv tb C)(F:BK C f a nt){o:Oper}{c:Call}{t e:TypeId}{ts:Array TypeId}{d x:AO}{y1 y2:Operand}(ho:o.op= .call c)(hc:c.callee= .builtin .copy)(hargs:c.args= #[y1,y2])(htys:c.argTypes=ts)(ht0:ts[0]? =some t)
  (ht:P.underlying t=some (.slice e)) (hz:(P.info? e).isSome=true) (hz0:0<P.cellsOf e) (h1:BA d y1=true) (h2:BA x y2=true) {src:List (List AV)} (hn:eJ C.H (P.cellsOf e) (eval tb f x)=some src) {r:AV×Option Ay}
  (h:bW C.H (P.cellsOf e) (eval tb f d) src=some r):Yields tb C r ((execOp a.eval o).run P C.w):=by
 have r1:=Bd I F h1
 obtain⟨hl,vss,hrr,hs,hfc⟩:=eI (P:=P) I hz0 (Bd I F h2) hn
 have hlens:=Bi.lens (fun x hx=>(hs x hx).1) hrr
 have run: ∀{v w'},(Builtin.copy_ ts o.type #[a.eval y1,a.eval y2]).run P C.w= .ok v w'→(execOp a.eval o).run P C.w= .ok (.value v) w':=by
  intro v w' hv
  refine FH ho hc fun q=> ?_
  simp only[hargs,htys,List.map_toArray,List.map_cons,List.map_nil,builtin,Sem.run_bind,hv,Result.andThen_ok,Sem.run_pure]
 have body: ∀{p:Option Addr} {len cap:Nat},a.eval y1= .slice p len cap→(Builtin.copy_ ts o.type #[a.eval y1,a.eval y2]).run P C.w=
   (match p with
    |some q=>(storeCells q (vss.take (min src.length len)).flatten).run P C.w
    |none=> .ok () C.w).andThen fun _ w'=> .ok (goInt ((min src.length len:Nat):Int)) w':=by
  intro p len cap he
  have hm:min src.length len≤src.length:=Nat.min_le_left _ _
  have hf:=hfc (min src.length len) C.w hm rfl
  have hmin:Nat.min src.length len=min src.length len:=rfl
  simp only[Builtin.copy_,ht0,List.getElem?_toArray,List.getElem?_cons_zero,List.getElem?_cons_succ,Sem.run_bind,AA ht,Result.andThen_ok,he,hl,Cl hz,hmin,hf]
  cases p<;>simp
 have hvt: ∀m,m≤src.length→B0 C (src.take m).flatten (vss.take m).flatten∧(src.take m).flatten.all scal=true∧(src.take m).flatten.length=m*P.cellsOf e∧(vss.take m).flatten.length=m*P.cellsOf e:=by
  intro m hm
  have hr:=Bi.flat (Bi.take (n:=m) hrr)
  have hlen:=Yo (m:=m) (fun x hx=>(hs x hx).1) hm
  exact⟨hr,N1 fun x hx=>(hs x (List.mem_of_mem_take hx)).2,hlen,by rw[hr.length,hlen]⟩
 generalize eval tb f d=v at*
 cases v<;>simp only[bW,reduceCtorEq]at h
 case nils=>
  obtain rfl:=Option.some.inj h
  have e1:a.eval y1= .slice none 0 0:=r1
  refine A6 I (v:=goInt 0) (run ?_) rfl
  rw[body e1]
  simp
 case ocel sz id off len=>
  obtain⟨_,o',cap,e1,hlc,hoff,_⟩:=r1
  cases hcs:Cu C.H id with
  |none=>rw[hcs]at h;simp at h
  |some cs=>
   rw[hcs]at h
   simp only[Option.bind_some]at h
   split at h
   ·rename_i hcond
    obtain⟨hsz,hle⟩:=hcond
    obtain rfl:=Option.some.inj h
    obtain⟨tl,hg,hlab⟩:=N9 hcs
    obtain⟨vs,arr,et,fr,⟨g1,hlb⟩,g2,g3,g4,g5,g6⟩:=I.obj id _ hg
    generalize hm:min src.length len=m at*
    have hms:m≤src.length:=by omega
    have hml:m*P.cellsOf e≤len*P.cellsOf e:=Nat.mul_le_mul_right _ (by omega)
    obtain⟨q1,q2,q3,q4⟩:=hvt m hms
    have hsp:cs.take off++(src.take m).flatten++cs.drop (off+m*P.cellsOf e)=B3 cs off (src.take m).flatten:=by simp only[B3,q3]
    have hst:(storeCells ⟨(C.φ id).blk,o',none⟩ (vss.take m).flatten).run P C.w= .ok () (C.w.setCells (C.φ id).blk off (vss.take m).flatten):=by
     by_cases h0:0<len
     ·rw[hoff h0]
      exact Vi g1 (by rw[q4,g2];omega) (fun j hj=>g6 _ (by rw[q4]at hj;omega)) (Nt q2 q1)
     ·have:m=0:=by omega
      subst this
      simp[storeCells,World.setCells]
    obtain⟨arr',k1,k2⟩:=Hg (vss.take m).flatten off g1
    obtain⟨X,hI⟩:=yJ (D:=⟨C.φ,C.H.set id (C6.cells (EP C.H id) (B3 cs off (src.take m).flatten)),C.w.setCells (C.φ id).blk off (vss.take m).flatten⟩) I (He _ _) hg rfl (fun _ _=>rfl) (by simp only[Hd];omega)
     (fun b hb hne=>Eh hne _ _) (.inl rfl) (fun _=>⟨rfl,rfl⟩) (fun _ _ _ _ e=>by cases e)
    refine⟨_,X,hI ?_,by simp only[Option.getD_some,hsp], .inl ⟨goInt m,run ?_,rfl⟩⟩
    ·refine⟨_,arr',et,fr,⟨k1,by rw[hlab];exact hlb⟩,by rw[k2,g2,Ir (by rw[q3];omega)],Mp g3 q2,NI (g4.ext X) (q1.ext X),?_,?_⟩
     ·have:=En.put (base:=0) (o:=off) g1 g5 (vs:=(vss.take m).flatten) (by rw[q4,g4.length];omega) (by rw[g4.length];omega)
      simpa using this
     ·intro j hj
      rw[Ir (by rw[q3];omega)]at hj
      rw[HJ]
      exact g6 j hj
    ·rw[body e1]
     simp only[hm,hst,Result.andThen_ok]
   ·simp at h
 case orow id n lo len=>
  obtain⟨_,fz,sz,els,hg,hle,k⟩:=r1
  simp only[hg,Option.bind_some]at h
  split at h
  ·rename_i hcond
   obtain⟨hfz,hn',hsz,hlo⟩:=hcond
   obtain rfl:=Option.some.inj h
   subst hsz
   obtain⟨_,off,cap,e1,hlc,hoff,hsize,hbo⟩:=k hn'
   obtain⟨tl,hg',hlab⟩:=Kp hg
   obtain⟨ws,arr,et,fr,⟨g1,hfr0,hlb⟩,g2,g3,g4,g5,g6,g7,g8,g9⟩:=I.obj id _ hg'
   generalize hm:min src.length len=m at*
   have hms:m≤src.length:=by omega
   obtain⟨q1,q2,q3,q4⟩:=hvt m hms
   have hwl:=Bi.lens (fun x hx=>(g4 x hx).1) g5
   have hwfl:ws.flatten.length=els.length*P.cellsOf e:=by rw[FN _ hwl,g5.length]
   have hb1:lo*P.cellsOf e+m*P.cellsOf e≤els.length*P.cellsOf e:=by
    rw[←Nat.add_mul];exact Nat.mul_le_mul_right _ (by omega)
   have hst:(storeCells ⟨(C.φ id).blk,off,none⟩ (vss.take m).flatten).run P C.w= .ok () (C.w.setCells (C.φ id).blk ((C.φ id).base+lo*P.cellsOf e) (vss.take m).flatten):=by
    by_cases h0:0<len
    ·rw[hoff h0]
     exact Vi g1 (by rw[q4,g2];omega) (fun j hj=>g8 hfz _ (by rw[q4]at hj;omega)) (Nt q2 q1)
    ·have:m=0:=by omega
     subst this
     simp[storeCells,World.setCells]
   obtain⟨arr',k1,k2⟩:=Hg (vss.take m).flatten ((C.φ id).base+lo*P.cellsOf e) g1
   obtain⟨X,hI⟩:=yJ (D:=⟨C.φ,C.H.set id (C6.row (EP C.H id) false (P.cellsOf e) (els.take lo++src.take m++els.drop (lo+m))),C.w.setCells (C.φ id).blk ((C.φ id).base+lo*P.cellsOf e) (vss.take m).flatten⟩) I (He _ _) hg' rfl (fun _ _=>rfl) (by simp only[Hd];omega)
    (fun b hb hne=>Eh hne _ _) (.inl rfl) (fun e=>by cases e) (fun _ fz' sz' els' e=>by cases e;exact⟨_,_,_,rfl,by simp only[List.length_append,List.length_take,List.length_drop];omega,fun _=>rfl⟩)
   have hnl:(els.take lo++src.take m++els.drop (lo+m)).length=els.length:=by simp only[List.length_append,List.length_take,List.length_drop];omega
   refine⟨_,X,hI ?_,rfl, .inl ⟨goInt m,run ?_,rfl⟩⟩
   ·refine⟨ws.take lo++vss.take m++ws.drop (lo+m),arr',et,fr,⟨k1,hfr0,by rw[hlab];exact hlb⟩,by rw[k2];exact g2,g3,?_,?_,by rw[hnl];exact g6,?_,?_,?_⟩
    ·intro y hy
     simp only[List.mem_append]at hy
     rcases hy with (hy|hy)|hy
     ·exact g4 y (List.mem_of_mem_take hy)
     ·exact hs y (List.mem_of_mem_take hy)
     ·exact g4 y (List.mem_of_mem_drop hy)
    ·exact Bi.app (Bi.app (Bi.take (g5.ext X)) (Bi.take (hrr.ext X))) (Bi.drop (g5.ext X))
    ·have hfl:(ws.take lo++vss.take m++ws.drop (lo+m)).flatten=ws.flatten.take (lo*P.cellsOf e)++(vss.take m).flatten++ws.flatten.drop (lo*P.cellsOf e+(vss.take m).flatten.length):=by
      rw[List.flatten_append,List.flatten_append,EW _ _ hwl,FM _ _ hwl,q4,←Nat.add_mul]
     rw[hfl]
     exact En.put (base:=(C.φ id).base) (o:=lo*P.cellsOf e) g1 g7 (vs:=(vss.take m).flatten) (by omega) (by omega)
    ·intro _ j hj
     rw[HJ]
     exact g8 hfz j hj
    ·intro _ j hj hj'
     rw[HJ]
     exact g9 hfz j (by rwa [hnl]at hj) hj'
   ·rw[body e1]
    simp only[hm,hst,Result.andThen_ok]
  ·simp at h
end
end Go.Proofs.YtobejhpigbllpaaGreatDoor.Am
namespace Go.Proofs.YtobejhpigbllpaaGreatDoor.Am
def tJ(P:Program)(sh:TypeId→Option (List CK)):Nat→List Field→Option (List CK)
 |_,[]=>some []
 |pos,f::fs=>(sh f.type).bind fun l=>if f.offset=pos∧f.name≠ "_" ∧l.length=P.cellsOf f.type then(tJ P sh (pos+l.length) fs).map (l++ ·)else none
def cT(P:Program):Nat→TypeId→Option (List CK)
 |0,_=>none
 |d+1,t=>
  match P.underlying t with
  |some .bool=>some [.b]
  |some (.int k)=>some [.i k]
  |some .string=>some [.s]
  |some (.struct fs)=>if P.stoodInHeld t then none else tJ P (cT P d) 0 fs.toList
  |some (.array n e)=>(cT P d e).bind fun l=>if l.length=P.cellsOf e then some (List.replicate n l).flatten else none
  |_=>none
theorem Ke: ∀{l:List CK} {x y:List AV} {b:Bool},PC l x y=some b→x.length=l.length∧y.length=l.length
 |[],[],[],_,_=>⟨rfl,rfl⟩
 |[],[],_::_,_,h=>by simp[PC]at h
 |[],_::_,_,_,h=>by simp[PC]at h
 |_::_,[],_,_,h=>by simp[PC]at h
 |_::_,_::_,[],_,h=>by simp[PC]at h
 |c::l,v::x,u::y,b,h=>by
  simp only[PC]at h
  obtain⟨a,_,h⟩:=Option.bind_eq_some_iff.1 h
  obtain⟨d,h,_⟩:=Option.map_eq_some_iff.1 h
  obtain⟨h1,h2⟩:=Ke h
  simp[h1,h2]
theorem Rx: ∀{l m:List CK} {x y:List AV} {b:Bool},PC (l++m) x y=some b→ ∃a c,PC l (x.take l.length) (y.take l.length)=some a∧PC m (x.drop l.length) (y.drop l.length)=some c∧b=(a&&c)
 |[],m,x,y,b,h=>⟨true,b,by simp[PC],by simpa using h,by simp⟩
 |c::l,m,[],_,_,h=>by simp[PC]at h
 |c::l,m,_::_,[],_,h=>by simp[PC]at h
 |c::l,m,v::x,u::y,b,h=>by
  simp only[List.cons_append,PC]at h
  obtain⟨a,ha,h⟩:=Option.bind_eq_some_iff.1 h
  obtain⟨d,h',hd⟩:=Option.map_eq_some_iff.1 h
  subst hd
  obtain⟨p,q,h1,h2,hpq⟩:=Rx h'
  subst hpq
  refine⟨a&&p,q,?_,by simpa using h2,by simp[Bool.and_assoc]⟩
  simp only[List.length_cons,List.take_succ_cons,PC,ha,Option.bind_some,h1,Option.map_some]
section
variable{cl:Nat→List AV→Ay→Lk}{P:Program}{tb:Dh}{C:DP}{f:Fr}{a:Act}{nt:Nat}
def jJ(P:Program)(t:TypeId)(cs:List Value)(v:Value):Prop:=if GQ P t=true then v= .agg cs.toArray else cs=[v]
theorem PS{d:Nat}{t:TypeId}{l:List CK}(h:cT P d t=some l)(ha:GQ P t=false):l.length=1:=by
 cases d with
 |zero=>simp[cT]at h
 |succ d=>
  simp only[cT]at h
  simp only[GQ]at ha
  split at h<;>simp_all
  all_goals (subst h;rfl)
theorem Pk{d:Nat}{t:TypeId}{l:List CK}(h:cT P d t=some l):(P.underlying t).isSome=true:=by
 cases d with
 |zero=>simp[cT]at h
 |succ d=>
  simp only[cT]at h
  cases hu:P.underlying t with
  |none=>rw[hu]at h;simp at h
  |some _=>rfl
theorem Pm{d:Nat}{t:TypeId}{l:List CK}(h:cT P d t=some l)(hc:l.length=P.cellsOf t){cs:List Value}{off:Nat}(hle:off+l.length≤cs.length)(w:World):
  ∃v,(part t cs.toArray off).run P w= .ok v w∧jJ P t ((cs.drop off).take l.length) v:=by
 have hu:=Pk h
 have hi:(P.info? t).isSome=true:=by
  obtain⟨d,hd⟩:=Option.isSome_iff_exists.1 hu
  exact info_of_underlying hd
 cases ha:GQ P t with
 |true=>
  refine⟨.agg (cs.toArray.extract off (off+P.cellsOf t)),?_,?_⟩
  ·simp only[part,Sem.run_bind,Fo t w hu,ha,Result.andThen_ok,if_true,Cl hi,Sem.run_pure]
  ·simp only[jJ,ha,if_true]
   congr 1
   rw[←Array.toList_inj,Array.toList_extract,hc]
   simp[List.extract]
 |false=>
  have h1:=PS h ha
  have hlt:off<cs.length:=by omega
  refine⟨cs[off],?_,?_⟩
  ·simp only[part,Sem.run_bind,Fo t w hu,ha,Result.andThen_ok,Bool.false_eq_true,if_false]
   simp[hlt]
  ·simp only[jJ,ha,Bool.false_eq_true,if_false,h1]
   rw[List.drop_eq_getElem_cons hlt]
   rfl
def ckT:CK→TypeDesc
 | .b=> .bool
 | .i k=> .int k
 | .s=> .string
theorem nR{c:CK}{x y:AV}{v u:Value}{b:Bool}(h:wW c x y=some b)(rx:HA C x v)(ry:HA C y u):
  (∃p q,c= .b∧v= .bool p∧u= .bool q∧b=(p==q))∨(∃k p q,c= .i k∧v= .int k p∧u= .int k q∧b=(p==q))∨ ∃p q:List UInt8,c= .s∧v= .string ⟨p.toArray⟩∧u= .string ⟨q.toArray⟩∧b=(p==q):=by
 unfold wW at h
 split at h
 ·rename_i p q
  simp only[Option.some.injEq]at h
  exact .inl ⟨p,q,rfl,rx,ry,h.symm⟩
 ·rename_i k k1 p k2 q
  split at h
  ·rename_i hk
   obtain⟨rfl,rfl⟩:=hk
   simp only[Option.some.injEq]at h
   exact .inr (.inl ⟨_,p,q,rfl,rx,ry,h.symm⟩)
  ·cases h
 ·rename_i p q
  simp only[Option.some.injEq]at h
  exact .inr (.inr ⟨p,q,rfl,rx,ry,h.symm⟩)
 ·cases h
theorem jV(d:Nat){c:CK}{t:TypeId}{x y:AV}{v u:Value}{b:Bool}(h:wW c x y=some b)(rx:HA C x v)(ry:HA C y u)(w:World)
  (ht:P.underlying t=some (ckT c)):(Op.equalIn (d+1) t v u).run P w= .ok b w:=by
 rcases nR h rx ry with ⟨p,q,rfl,rfl,rfl,rfl⟩|⟨k,p,q,rfl,rfl,rfl,rfl⟩|⟨p,q,rfl,rfl,rfl,rfl⟩
 ·exact run_equalIn_bool' w d t p q ht
 ·exact run_equalIn_int w d t k k p q ht
 ·rw[run_equalIn_string w d t _ _ ht,O3,O3]
theorem one_of{x y:List AV}{cx cy:List Value}{c:CK}{b:Bool}(h:PC [c] x y=some b)(rx:B0 C x cx)(ry:B0 C y cy): ∃a e v u,x=[a]∧y=[e]∧cx=[v]∧cy=[u]∧HA C a v∧HA C e u∧wW c a e=some b:=by
 obtain⟨h1,h2⟩:=Ke h
 match x,y,h1,h2 with
 |[p],[q],_,_=>
  obtain⟨v,r,e1,rv,e2⟩:=rx
  obtain⟨u,r',e3,ru,e4⟩:=ry
  simp only[PC]at h
  obtain⟨b',hb,h⟩:=Option.bind_eq_some_iff.1 h
  simp only[Option.map_some,Option.some.injEq,Bool.and_true]at h
  subst h
  exact⟨p,q,v,u,rfl,rfl,by rw[e1,show r=[]from e2],by rw[e3,show r'=[]from e4],rv,ru,hb⟩
def yE(P:Program)(C:DP)(dd:Nat)(t:TypeId)(l:List CK):Prop:=
 ∀(ax ay:List AV) (cx cy:List Value) (b:Bool) (x y:Value) (w:World),B0 C ax cx→B0 C ay cy→PC l ax ay=some b→jJ P t cx x→jJ P t cy y→(Op.equalIn dd t x y).run P w= .ok b w
theorem Re(dd d:Nat)(IH: ∀t l,cT P d t=some l→yE P C dd t l): ∀(fs:List Field) (pos:Nat) (l:List CK),tJ P (cT P d) pos fs=some l→ ∀(ax ay:List AV) (cx cy:List Value) (b:Bool) (w:World),
  B0 C ax (cx.drop pos)→B0 C ay (cy.drop pos)→PC l ax ay=some b→(Op.eqFields dd cx.toArray cy.toArray fs).run P w= .ok b w
 |[],pos,l,h,ax,ay,cx,cy,b,w,rx,ry,e=>by
  simp only[tJ,Option.some.injEq]at h
  subst h
  obtain⟨h1,h2⟩:=Ke e
  match ax,ay,h1,h2 with
  |[],[],_,_=>
   simp only[PC,Option.some.injEq]at e
   subst e
   simp[Op.eqFields]
 |f::fs,pos,l,h,ax,ay,cx,cy,b,w,rx,ry,e=>by
  simp only[tJ]at h
  obtain⟨m,hm,h⟩:=Option.bind_eq_some_iff.1 h
  split at h
  ·rename_i hc
   obtain⟨hoff,hname,hcells⟩:=hc
   obtain⟨r,hr,rfl⟩:=Option.map_eq_some_iff.1 h
   obtain⟨p,q,e1,e2,rfl⟩:=Rx e
   obtain⟨n1,n2⟩:=Ke e
   rw[List.length_append]at n1 n2
   have lx:=rx.length
   have ly:=ry.length
   rw[List.length_drop]at lx ly
   by_cases h0:m.length=0
   ·
    obtain⟨v,hv,iv⟩: ∃v,(part f.type cx.toArray f.offset).run P w= .ok v w∧jJ P f.type ((cx.drop f.offset).take m.length) v:=by
     cases ha:GQ P f.type with
     |false=>have:=PS hm ha;omega
     |true=>
      have hu:=Pk hm
      have hi:(P.info? f.type).isSome=true:=by
       obtain⟨d,hd⟩:=Option.isSome_iff_exists.1 hu
       exact info_of_underlying hd
      refine⟨.agg (cx.toArray.extract f.offset (f.offset+P.cellsOf f.type)),?_,?_⟩
      ·simp only[part,Sem.run_bind,Fo f.type w hu,ha,Result.andThen_ok,if_true,Cl hi,Sem.run_pure]
      ·simp only[jJ,ha,if_true]
       congr 1
       rw[←Array.toList_inj,Array.toList_extract,hcells]
       simp[List.extract]
    obtain⟨u,hu',iu⟩: ∃v,(part f.type cy.toArray f.offset).run P w= .ok v w∧jJ P f.type ((cy.drop f.offset).take m.length) v:=by
     cases ha:GQ P f.type with
     |false=>have:=PS hm ha;omega
     |true=>
      have hu:=Pk hm
      have hi:(P.info? f.type).isSome=true:=by
       obtain⟨d,hd⟩:=Option.isSome_iff_exists.1 hu
       exact info_of_underlying hd
      refine⟨.agg (cy.toArray.extract f.offset (f.offset+P.cellsOf f.type)),?_,?_⟩
      ·simp only[part,Sem.run_bind,Fo f.type w hu,ha,Result.andThen_ok,if_true,Cl hi,Sem.run_pure]
      ·simp only[jJ,ha,if_true]
       congr 1
       rw[←Array.toList_inj,Array.toList_extract,hcells]
       simp[List.extract]
    have hq:=IH f.type m hm _ _ _ _ _ v u w (by rw[hoff];exact rx.take) (by rw[hoff];exact ry.take) e1 iv iu
    simp only[Op.eqFields,hname,ne_eq,not_false_eq_true,if_true,Sem.run_bind,hv,hu',hq,Result.andThen_ok]
    cases p
    ·simp
    ·simp only[Bool.not_true,Bool.false_eq_true,if_false,Bool.true_and]
     exact Re dd d IH fs _ r hr _ _ cx cy q w (by rw[←List.drop_drop];exact rx.drop) (by rw[←List.drop_drop];exact ry.drop) e2
   ·obtain⟨v,hv,iv⟩:=Pm (P:=P) hm hcells (cs:=cx) (off:=f.offset) (by omega) w
    obtain⟨u,hu,iu⟩:=Pm (P:=P) hm hcells (cs:=cy) (off:=f.offset) (by omega) w
    have hq:=IH f.type m hm _ _ _ _ _ v u w (by rw[hoff];exact rx.take) (by rw[hoff];exact ry.take) e1 iv iu
    simp only[Op.eqFields,hname,ne_eq,not_false_eq_true,if_true,Sem.run_bind,hv,hu,hq,Result.andThen_ok]
    cases p
    ·simp
    ·simp only[Bool.not_true,Bool.false_eq_true,if_false,Bool.true_and]
     exact Re dd d IH fs _ r hr _ _ cx cy q w (by rw[←List.drop_drop];exact rx.drop) (by rw[←List.drop_drop];exact ry.drop) e2
  ·cases h
theorem YJ(dd:Nat){e:TypeId}{d:Nat}{m:List CK}(hm:cT P d e=some m)(hc:m.length=P.cellsOf e)(hz:GQ P e=true∨0<m.length)(IH:yE P C dd e m): ∀(n pos:Nat) (ax ay:List AV) (cx cy:List Value) (b:Bool) (w:World),
  B0 C ax (cx.drop (pos*m.length))→B0 C ay (cy.drop (pos*m.length))→PC (List.replicate n m).flatten ax ay=some b→(Op.eqItems dd e (P.cellsOf e) cx.toArray cy.toArray (List.range' pos n)).run P w= .ok b w
 |0,pos,ax,ay,cx,cy,b,w,rx,ry,h=>by
  simp only[List.replicate_zero,List.flatten_nil]at h
  obtain⟨h1,h2⟩:=Ke h
  match ax,ay,h1,h2 with
  |[],[],_,_=>
   simp only[PC,Option.some.injEq]at h
   subst h
   simp[Op.eqItems]
 |n+1,pos,ax,ay,cx,cy,b,w,rx,ry,h=>by
  rw[List.replicate_succ,List.flatten_cons]at h
  obtain⟨p,q,e1,e2,rfl⟩:=Rx h
  obtain⟨n1,n2⟩:=Ke h
  rw[List.length_append]at n1 n2
  have lx:=rx.length
  have ly:=ry.length
  rw[List.length_drop]at lx ly
  have prt: ∀cs:List Value,pos*m.length+m.length≤cs.length∨(m.length=0∧GQ P e=true)→ ∃v,(part e cs.toArray (pos*P.cellsOf e)).run P w= .ok v w∧jJ P e ((cs.drop (pos*m.length)).take m.length) v:=by
   intro cs hcs
   rw[←hc]
   rcases hcs with hcs|⟨h0,ha⟩
   ·exact Pm (P:=P) hm hc hcs w
   ·have hu:=Pk hm
    have hi:(P.info? e).isSome=true:=by
     obtain⟨d,hd⟩:=Option.isSome_iff_exists.1 hu
     exact info_of_underlying hd
    refine⟨.agg (cs.toArray.extract (pos*m.length) (pos*m.length+P.cellsOf e)),?_,?_⟩
    ·simp only[part,Sem.run_bind,Fo e w hu,ha,Result.andThen_ok,if_true,Cl hi,Sem.run_pure]
    ·simp only[jJ,ha,if_true]
     congr 1
     rw[←Array.toList_inj,Array.toList_extract,←hc]
     simp[List.extract]
  obtain⟨v,hv,iv⟩:=prt cx (by
   rcases Nat.eq_zero_or_pos m.length with h0|h0
   ·exact .inr ⟨h0,hz.resolve_right (by omega)⟩
   ·left;omega)
  obtain⟨u,hu,iu⟩:=prt cy (by
   rcases Nat.eq_zero_or_pos m.length with h0|h0
   ·exact .inr ⟨h0,hz.resolve_right (by omega)⟩
   ·left;omega)
  have hq:=IH _ _ _ _ _ v u w rx.take ry.take e1 iv iu
  simp only[List.range'_succ,Op.eqItems,Sem.run_bind,hv,hu,hq,Result.andThen_ok]
  cases p
  ·simp
  ·simp only[Bool.not_true,Bool.false_eq_true,if_false,Bool.true_and]
   refine YJ dd hm hc hz IH n (pos+1) _ _ cx cy q w ?_ ?_ e2
   ·rw[Nat.succ_mul,←List.drop_drop];exact rx.drop
   ·rw[Nat.succ_mul,←List.drop_drop];exact ry.drop
theorem Xb(k:Nat): ∀(d:Nat) (t:TypeId) (l:List CK),cT P d t=some l→yE P C (k+d) t l
 |0,_,_,h=>by simp[cT]at h
 |d+1,t,l,h=>by
  intro ax ay cx cy b x y w rx ry e ix iy
  simp only[cT]at h
  have plain: ∀c:CK,l=[c]→P.underlying t=some (ckT c)→(Op.equalIn (k+(d+1)) t x y).run P w= .ok b w:=by
   intro c hl hu
   subst hl
   obtain⟨p,q,v,u,rfl,rfl,rfl,rfl,rv,ru,h1⟩:=one_of e rx ry
   have hag:GQ P t=false:=by
    simp only[GQ,hu]
    cases c<;>rfl
   simp only[jJ,hag,Bool.false_eq_true,if_false,List.cons.injEq,and_true]at ix iy
   subst ix;subst iy
   exact jV (k+d) h1 rv ru w hu
  split at h
  ·rename_i hu;exact plain .b (by simpa using h.symm) hu
  ·rename_i q hu;exact plain (.i q) (by simpa using h.symm) hu
  ·rename_i hu;exact plain .s (by simpa using h.symm) hu
  ·rename_i fs hu
   split at h
   ·cases h
   ·rename_i hst
    have hag:GQ P t=true:=by simp only[GQ,hu]
    simp only[jJ,hag,if_true]at ix iy
    subst ix;subst iy
    have hf:P.fieldsOf t=fs:=by simp only[Program.fieldsOf,hu]
    rw[show k+(d+1)=(k+d)+1 from rfl,run_equalIn_struct w (k+d) t _ _ (by rw[hf];exact hu) (by simpa using hst),hf]
    exact Re (k+d) d (fun t l=>Xb k d t l) fs.toList 0 l h _ _ cx cy b w (by simpa using rx) (by simpa using ry) e
  ·rename_i n el hu
   obtain⟨m,hm,h⟩:=Option.bind_eq_some_iff.1 h
   split at h
   ·rename_i hc
    obtain rfl:=Option.some.inj h
    have hag:GQ P t=true:=by simp only[GQ,hu]
    simp only[jJ,hag,if_true]at ix iy
    subst ix;subst iy
    obtain⟨i,hi⟩: ∃i,P.info? el=some i:=by
     obtain⟨dd,hd⟩:=Option.isSome_iff_exists.1 (Pk hm)
     exact Option.isSome_iff_exists.1 (info_of_underlying hd)
    rw[show k+(d+1)=(k+d)+1 from rfl,run_equalIn_array w (k+d) _ _ hu hi,List.range_eq_range']
    refine YJ (k+d) hm hc ?_ (Xb k d el m hm) n 0 _ _ cx cy b w (by simpa using rx) (by simpa using ry) e
    cases ha:GQ P el with
    |true=>exact .inl rfl
    |false=>right;have:=PS hm ha;omega
   ·cases h
  ·cases h
end
end Go.Proofs.YtobejhpigbllpaaGreatDoor.Am
namespace Go.Proofs.YtobejhpigbllpaaGreatDoor.Am
section
variable{cl:Nat→List AV→Ay→Lk}{P:Program}{tb:Dh}{C:DP}{f:Fr}{a:Act}{nt:Nat}
def Aa1(P:Program)(ek:EK)(t:TypeId):Bool:=
 match ek,P.underlying t with
 | .one .b,some .bool=>true
 | .agg l,some (.struct _)=>decide (cT P 50 t=some l)&& !P.eqGuardType P.depth t
 | .agg l,some (.array _ _)=>decide (cT P 50 t=some l)&& !P.eqGuardType P.depth t
 | .p,some (.pointer _)=>true
 | .m,some (.map _ _)=>true
 | .f,some (.func _ _ _)=>true
 | .n,some (.interface _)=>true
 | .sl,some (.slice _)=>true
 |_,_=>false
theorem FG{op:BinOp}{t:TypeId}{x y:Value}{b:Bool}{w:World}(h:(Op.equalIn 10000 t x y).run P w= .ok b w)(hb:(∃p q,x= .bool p∧y= .bool q)∨(∃p q,x= .agg p∧y= .agg q)∨(∃p q,x= .pointer p∧y= .pointer q)∨
  (∃p q,x= .map p∧y= .map q)∨(x= .nilFunc∨y= .nilFunc)∧(∀k n,x≠ .int k n∧y≠ .int k n)∨(x= .nilIface∨y= .nilIface)∧(∀k n,x≠ .int k n∧y≠ .int k n)∨(∃p l c q l' c',x= .slice p l c∧y= .slice q l' c')):
  (op= .eql→(Go.binOp op t x y).run P w= .ok (.bool b) w)∧(op= .neq→(Go.binOp op t x y).run P w= .ok (.bool (!b)) w):=by
 have h':(Op.equal t x y).run P w= .ok b w:=h
 constructor<;>rintro rfl
 ·rcases hb with ⟨p,q,rfl,rfl⟩|⟨p,q,rfl,rfl⟩|⟨p,q,rfl,rfl⟩|⟨p,q,rfl,rfl⟩|⟨rfl|rfl,_⟩|⟨rfl|rfl,_⟩|⟨p,l,c,q,l',c',rfl,rfl⟩<;>
   first
   |(simp only[Go.binOp,Sem.run_bind,h',Result.andThen_ok,Sem.run_pure];done)
   |(cases x<;>simp only[Go.binOp,Sem.run_bind,h',Result.andThen_ok,Sem.run_pure])
   |(cases y<;>simp only[Go.binOp,Sem.run_bind,h',Result.andThen_ok,Sem.run_pure])
 ·rcases hb with ⟨p,q,rfl,rfl⟩|⟨p,q,rfl,rfl⟩|⟨p,q,rfl,rfl⟩|⟨p,q,rfl,rfl⟩|⟨rfl|rfl,_⟩|⟨rfl|rfl,_⟩|⟨p,l,c,q,l',c',rfl,rfl⟩<;>
   first
   |(simp only[Go.binOp,Sem.run_bind,h',Result.andThen_ok,Sem.run_pure];done)
   |(cases x<;>simp only[Go.binOp,Sem.run_bind,h',Result.andThen_ok,Sem.run_pure])
   |(cases y<;>simp only[Go.binOp,Sem.run_bind,h',Result.andThen_ok,Sem.run_pure])
theorem Z0{t:TypeId}{l:List CK}{x y:List AV}{v u:Value}{b:Bool}(hu:GQ P t=true)(hk:cT P 50 t=some l)(hg:P.eqGuardType P.depth t=false)(h:PC l x y=some b)(rx:HA C (.agg x) v)(ry:HA C (.agg y) u)(p q:Operand)(w:World):
  (∀op,(eqGuard op t p q v u).run P w= .ok () w)∧ ∀op,(op= .eql→(Go.binOp op t v u).run P w= .ok (.bool b) w)∧(op= .neq→(Go.binOp op t v u).run P w= .ok (.bool (!b)) w):=by
 obtain⟨cx,rfl,_,r1⟩:=rx
 obtain⟨cy,rfl,_,r2⟩:=ry
 refine⟨fun op=>run_eqGuard_agg w op t p q _ _ hg,fun op=>FG (Xb (C:=C) 9950 50 t l hk _ _ cx cy b _ _ w r1 r2 h ?_ ?_) (.inr (.inl ⟨_,_,rfl,rfl⟩))⟩
 ·simp only[jJ,hu,if_true]
 ·simp only[jJ,hu,if_true]
theorem Nz{t:TypeId}{v u:Value}(p q:Operand)(w:World)(h1: ∀l,v≠ .agg l)(h2:v≠ .nilIface∨u≠ .nilIface): ∀op,(eqGuard op t p q v u).run P w= .ok () w:=by
 intro op
 cases v<;>first
  |exact absurd rfl (h1 _)
  |(simp only[eqGuard];split<;>rfl)
  |(cases u<;>first
    |exact absurd rfl (h2.resolve_left fun h=>h rfl)
    |(simp only[eqGuard];split<;>rfl))
theorem wR(d:Nat){t e:TypeId}(hu:P.underlying t=some (.pointer e)){o1 o2:Option Addr}{b:Bool}(h:(o1=none∧b=o2.isNone)∨(o2=none∧o1.isSome=true∧b=false))(w:World):
  (Op.equalIn (d+1) t (.pointer o1) (.pointer o2)).run P w= .ok b w:=by
 rcases h with ⟨rfl,rfl⟩|⟨rfl,h1,rfl⟩
 ·simp only[Op.equalIn,Sem.run_bind,AA hu,Result.andThen_ok,Sem.run_pure]
 ·cases o1 with
  |none=>cases h1
  |some a=>simp only[Op.equalIn,Sem.run_bind,AA hu,Result.andThen_ok,Sem.run_pure]
theorem wS(d:Nat){t k e:TypeId}(hu:P.underlying t=some (.map k e)){o1 o2:Option Nat}{b:Bool}(h:(o1=none∧b=o2.isNone)∨(o2=none∧o1.isSome=true∧b=false))(w:World):
  (Op.equalIn (d+1) t (.map o1) (.map o2)).run P w= .ok b w:=by
 rcases h with ⟨rfl,rfl⟩|⟨rfl,h1,rfl⟩
 ·simp only[Op.equalIn,Sem.run_bind,AA hu,Result.andThen_ok,Sem.run_pure]
 ·cases o1 with
  |none=>cases h1
  |some a=>simp only[Op.equalIn,Sem.run_bind,AA hu,Result.andThen_ok,Sem.run_pure]
theorem wT(d:Nat){t:TypeId}{x1 x2 x3}(hu:P.underlying t=some (.func x1 x2 x3))(w:World):(Op.equalIn (d+1) t .nilFunc .nilFunc).run P w= .ok true w:=by
 simp only[Op.equalIn,Sem.run_bind,AA hu,Result.andThen_ok,Sem.run_pure]
theorem wU(d:Nat){t:TypeId}{x1 x2 x3}(hu:P.underlying t=some (.func x1 x2 x3)){p q r}(w:World):(Op.equalIn (d+1) t .nilFunc (.func p q r)).run P w= .ok false w:=by
 simp only[Op.equalIn,Sem.run_bind,AA hu,Result.andThen_ok,Sem.run_pure]
theorem wV(d:Nat){t:TypeId}{x1 x2 x3}(hu:P.underlying t=some (.func x1 x2 x3)){p q r}(w:World):(Op.equalIn (d+1) t (.func p q r) .nilFunc).run P w= .ok false w:=by
 simp only[Op.equalIn,Sem.run_bind,AA hu,Result.andThen_ok,Sem.run_pure]
theorem AaL(d:Nat){t:TypeId}{x1}(hu:P.underlying t=some (.interface x1)){p q}(w:World):(Op.equalIn (d+1) t .nilIface (.iface p q)).run P w= .ok false w:=by
 simp only[Op.equalIn,Sem.run_bind,AA hu,Result.andThen_ok,Sem.run_pure]
theorem oL(d:Nat){t:TypeId}{x1}(hu:P.underlying t=some (.interface x1)){p q}(w:World):(Op.equalIn (d+1) t (.iface p q) .nilIface).run P w= .ok false w:=by
 simp only[Op.equalIn,Sem.run_bind,AA hu,Result.andThen_ok,Sem.run_pure]
theorem AaJ(d:Nat){t e:TypeId}(hu:P.underlying t=some (.slice e)){o1 o2:Option Addr}{l c l' c':Nat}{b:Bool}(h:(o1=none∧b=o2.isNone)∨(o2=none∧o1.isSome=true∧b=false))(w:World):
  (Op.equalIn (d+1) t (.slice o1 l c) (.slice o2 l' c')).run P w= .ok b w:=by
 rcases h with ⟨rfl,rfl⟩|⟨rfl,h1,rfl⟩
 ·simp only[Op.equalIn,Sem.run_bind,AA hu,Result.andThen_ok,Sem.run_pure]
 ·cases o1 with
  |none=>cases h1
  |some a=>simp only[Op.equalIn,Sem.run_bind,AA hu,Result.andThen_ok,Sem.run_pure]
theorem rX{ek:EK}{t:TypeId}{x y:AV}{v u:Value}{b:Bool}(hk:Aa1 P ek t=true)(h:jH ek x y=some b)(rx:HA C x v)(ry:HA C y u)(p q:Operand)(w:World):
  (∀op,(eqGuard op t p q v u).run P w= .ok () w)∧ ∀op,(op= .eql→(Go.binOp op t v u).run P w= .ok (.bool b) w)∧(op= .neq→(Go.binOp op t v u).run P w= .ok (.bool (!b)) w):=by
 unfold Aa1 at hk
 split at hk
 ·rename_i hu
  simp only[jH]at h
  rcases nR h rx ry with ⟨p,q,_,rfl,rfl,rfl⟩|⟨k,p,q,e,_⟩|⟨p,q,e,_⟩
  ·exact⟨fun op=>by cases op<;>rfl,fun op=>FG (run_equalIn_bool' w 9999 t p q hu) (.inl ⟨_,_,rfl,rfl⟩)⟩
  ·cases e
  ·cases e
 ·rename_i l fs hu
  simp only[Bool.and_eq_true,decide_eq_true_eq,Bool.not_eq_true']at hk
  unfold jH at h
  split at h<;>first|contradiction|skip
  rename_i l' cx cy e
  cases e
  exact Z0 (by simp only[GQ,hu]) hk.1 hk.2 h rx ry p q w
 ·rename_i l n e hu
  simp only[Bool.and_eq_true,decide_eq_true_eq,Bool.not_eq_true']at hk
  unfold jH at h
  split at h<;>first|contradiction|skip
  rename_i l' cx cy e
  cases e
  exact Z0 (by simp only[GQ,hu]) hk.1 hk.2 h rx ry p q w
 ·rename_i e hu
  have fin: ∀(o1 o2:Option Addr),v= .pointer o1→u= .pointer o2→((o1=none∧b=o2.isNone)∨(o2=none∧o1.isSome=true∧b=false))→
    (∀op,(eqGuard op t p q v u).run P w= .ok () w)∧ ∀op,(op= .eql→(Go.binOp op t v u).run P w= .ok (.bool b) w)∧(op= .neq→(Go.binOp op t v u).run P w= .ok (.bool (!b)) w):=by
   rintro o1 o2 rfl rfl hh
   refine⟨Nz p q w (fun l e=>by cases e) (.inl fun e=>by cases e),fun op=>FG ?_ (.inr (.inr (.inl ⟨_,_,rfl,rfl⟩)))⟩
   exact wR 9999 hu hh w
  unfold jH at h
  split at h<;>first|contradiction|(simp only[Option.some.injEq]at h;subst h)
  ·exact fin none none rx ry (.inl ⟨rfl,rfl⟩)
  ·exact fin none _ rx ry.2 (.inl ⟨rfl,rfl⟩)
  ·obtain⟨⟨a,e⟩,_⟩:=ry;exact fin none _ rx e (.inl ⟨rfl,rfl⟩)
  ·obtain⟨_,_,_,e,_⟩:=ry;exact fin none _ rx e (.inl ⟨rfl,rfl⟩)
  ·exact fin _ none rx.2 ry (.inr ⟨rfl,rfl,rfl⟩)
  ·obtain⟨⟨a,e⟩,_⟩:=rx;exact fin _ none e ry (.inr ⟨rfl,rfl,rfl⟩)
  ·obtain⟨_,_,_,e,_⟩:=rx;exact fin _ none e ry (.inr ⟨rfl,rfl,rfl⟩)
 ·rename_i k e hu
  have fin: ∀(o1 o2:Option Nat),v= .map o1→u= .map o2→((o1=none∧b=o2.isNone)∨(o2=none∧o1.isSome=true∧b=false))→
    (∀op,(eqGuard op t p q v u).run P w= .ok () w)∧ ∀op,(op= .eql→(Go.binOp op t v u).run P w= .ok (.bool b) w)∧(op= .neq→(Go.binOp op t v u).run P w= .ok (.bool (!b)) w):=by
   rintro o1 o2 rfl rfl hh
   refine⟨Nz p q w (fun l e=>by cases e) (.inl fun e=>by cases e),fun op=>FG ?_ (.inr (.inr (.inr (.inl ⟨_,_,rfl,rfl⟩))))⟩
   exact wS 9999 hu hh w
  unfold jH at h
  split at h<;>first|contradiction|(simp only[Option.some.injEq]at h;subst h)
  ·exact fin none none rx ry (.inl ⟨rfl,rfl⟩)
  ·exact fin none _ rx ry.2 (.inl ⟨rfl,rfl⟩)
  ·exact fin _ none rx.2 ry (.inr ⟨rfl,rfl,rfl⟩)
 ·rename_i x1 x2 x3 hu
  have fin:(Op.equalIn 10000 t v u).run P w= .ok b w→(v= .nilFunc∨u= .nilFunc)∧(∀k n,v≠ .int k n∧u≠ .int k n)→(∀l,v≠ .agg l)→v≠ .nilIface→
    (∀op,(eqGuard op t p q v u).run P w= .ok () w)∧ ∀op,(op= .eql→(Go.binOp op t v u).run P w= .ok (.bool b) w)∧(op= .neq→(Go.binOp op t v u).run P w= .ok (.bool (!b)) w):=
   fun h1 h2 h3 h4=>⟨Nz p q w h3 (.inl h4),fun op=>FG h1 (.inr (.inr (.inr (.inr (.inl h2)))))⟩
  unfold jH at h
  split at h<;>first|contradiction|(simp only[Option.some.injEq]at h;subst h)
  ·obtain rfl:=show v= .nilFunc from rx
   obtain rfl:=show u= .nilFunc from ry
   exact fin (wT 9999 hu w) ⟨.inl rfl,fun _ _=>⟨fun e=>(by cases e),fun e=>(by cases e)⟩⟩ (fun _ e=>by cases e) (fun e=>by cases e)
  ·obtain rfl:=show v= .nilFunc from rx
   obtain⟨_,_,rfl,_⟩:=ry
   exact fin (wU 9999 hu w) ⟨.inl rfl,fun _ _=>⟨fun e=>(by cases e),fun e=>(by cases e)⟩⟩ (fun _ e=>by cases e) (fun e=>by cases e)
  ·obtain rfl:=show u= .nilFunc from ry
   obtain⟨_,_,rfl,_⟩:=rx
   exact fin (wV 9999 hu w) ⟨.inr rfl,fun _ _=>⟨fun e=>(by cases e),fun e=>(by cases e)⟩⟩ (fun _ e=>by cases e) (fun e=>by cases e)
 ·rename_i x1 hu
  have fin:(Op.equalIn 10000 t v u).run P w= .ok b w→(v= .nilIface∨u= .nilIface)∧(∀k n,v≠ .int k n∧u≠ .int k n)→(∀l,v≠ .agg l)→(v≠ .nilIface∨u≠ .nilIface)→
    (∀op,(eqGuard op t p q v u).run P w= .ok () w)∧ ∀op,(op= .eql→(Go.binOp op t v u).run P w= .ok (.bool b) w)∧(op= .neq→(Go.binOp op t v u).run P w= .ok (.bool (!b)) w):=
   fun h1 h2 h3 h4=>⟨Nz p q w h3 h4,fun op=>FG h1 (.inr (.inr (.inr (.inr (.inr (.inl h2))))))⟩
  unfold jH at h
  split at h<;>first|contradiction|(simp only[Option.some.injEq]at h;subst h)
  ·obtain rfl:=show v= .nilIface from rx
   obtain⟨_,_,rfl,_⟩:=ry
   exact fin (AaL 9999 hu w) ⟨.inl rfl,fun _ _=>⟨fun e=>(by cases e),fun e=>(by cases e)⟩⟩ (fun _ e=>by cases e) (.inr fun e=>by cases e)
  ·obtain rfl:=show u= .nilIface from ry
   obtain⟨_,_,rfl,_⟩:=rx
   exact fin (oL 9999 hu w) ⟨.inr rfl,fun _ _=>⟨fun e=>(by cases e),fun e=>(by cases e)⟩⟩ (fun _ e=>by cases e) (.inl fun e=>by cases e)
 ·rename_i x1 hu
  have fin: ∀(o1 o2:Option Addr) (l c l' c':Nat),v= .slice o1 l c→u= .slice o2 l' c'→((o1=none∧b=o2.isNone)∨(o2=none∧o1.isSome=true∧b=false))→
    (∀op,(eqGuard op t p q v u).run P w= .ok () w)∧ ∀op,(op= .eql→(Go.binOp op t v u).run P w= .ok (.bool b) w)∧(op= .neq→(Go.binOp op t v u).run P w= .ok (.bool (!b)) w):=by
   rintro o1 o2 l c l' c' rfl rfl hh
   refine⟨Nz p q w (fun l e=>by cases e) (.inl fun e=>by cases e),fun op=>FG ?_ (.inr (.inr (.inr (.inr (.inr (.inr ⟨_,_,_,_,_,_,rfl,rfl⟩))))))⟩
   exact AaJ 9999 hu hh w
  have some_sl: ∀{sz els y},HA C (.sl sz els) y→ ∃o l c,y= .slice (some o) l c:=by
   intro sz els y r
   rcases r with ⟨_,_,_,_,e,_⟩|⟨_,_,_,e⟩<;>exact⟨_,_,_,e⟩
  have some_or: ∀{id n lo len y},HA C (.orow id n lo len) y→ ∃o l c,y= .slice (some o) l c:=by
   intro id n lo len y r
   obtain⟨⟨_,_,e⟩,_⟩:=r
   exact⟨_,_,_,e⟩
  have some_oc: ∀{id n lo len y},HA C (.ocel id n lo len) y→ ∃o l c,y= .slice (some o) l c:=by
   intro id n lo len y r
   obtain⟨_,_,_,e,_⟩:=r
   exact⟨_,_,_,e⟩
  unfold jH at h
  split at h<;>first|contradiction|(simp only[Option.some.injEq]at h;subst h)
  ·exact fin none none _ _ _ _ rx ry (.inl ⟨rfl,rfl⟩)
  ·obtain⟨o,l,c,e⟩:=some_sl rx;exact fin _ none _ _ _ _ e ry (.inr ⟨rfl,rfl,rfl⟩)
  ·obtain⟨o,l,c,e⟩:=some_or rx;exact fin _ none _ _ _ _ e ry (.inr ⟨rfl,rfl,rfl⟩)
  ·obtain⟨o,l,c,e⟩:=some_oc rx;exact fin _ none _ _ _ _ e ry (.inr ⟨rfl,rfl,rfl⟩)
  ·obtain⟨o,l,c,e⟩:=some_sl ry;exact fin none _ _ _ _ _ rx e (.inl ⟨rfl,rfl⟩)
  ·obtain⟨o,l,c,e⟩:=some_or ry;exact fin none _ _ _ _ _ rx e (.inl ⟨rfl,rfl⟩)
  ·obtain⟨o,l,c,e⟩:=some_oc ry;exact fin none _ _ _ _ _ rx e (.inl ⟨rfl,rfl⟩)
 ·cases hk
theorem sim_eq(I:Inv tb C)(F:BK C f a nt){o:Oper}{op:BinOp}{t u:TypeId}{ek:EK}{neg:Bool}{x1 x2:AO}{y1 y2:Operand}(ho:o.op= .binOp op t y1 y2 u)(hop:op=if neg then .neq else .eql)(hk:Aa1 P ek t=true)
  (h1:BA x1 y1=true) (h2:BA x2 y2=true) {b:Bool} (h:jH ek (eval tb f x1) (eval tb f x2)=some b):Yields tb C (.b (if neg then !b else b),none) ((execOp a.eval o).run P C.w):=by
 obtain⟨q1,q2⟩:=rX hk h (Bd I F h1) (Bd I F h2) y1 y2 C.w
 cases neg with
 |true=>
  simp only[if_true]at hop
  refine A6 I (v:= .bool (!b)) ?_ rfl
  simp only[execOp,ho,Sem.run_bind,q1 op,Result.andThen_ok,(q2 op).2 hop,Sem.run_pure]
 |false=>
  simp only[Bool.false_eq_true,if_false]at hop
  refine A6 I (v:= .bool b) ?_ rfl
  simp only[execOp,ho,Sem.run_bind,q1 op,Result.andThen_ok,(q2 op).1 hop,Sem.run_pure]
end
end Go.Proofs.YtobejhpigbllpaaGreatDoor.Am
namespace Go.Proofs.YtobejhpigbllpaaGreatDoor.Am
section
variable{cl:Nat→List AV→Ay→Lk}{P:Program}{tb:Dh}{C:DP}{f:Fr}{a:Act}{nt:Nat}
theorem Sn: ∀(l:List Value) (off k:Nat) (cs:Array Value),off+k+l.length≤cs.size→
  ((l.zipIdx k).foldl (fun cs (p:Value×Nat)=>cs.setIfInBounds (off+p.2) p.1) cs).toList=cs.toList.take (off+k)++l++cs.toList.drop (off+k+l.length)
 |[],off,k,cs,_=>by simp
 |v::l,off,k,cs,h=>by
  simp only[List.length_cons]at h
  rw[List.zipIdx_cons,List.foldl_cons]
  rw[Sn l off (k+1) _ (by simp only[Array.size_setIfInBounds];omega)]
  simp only[Array.toList_setIfInBounds]
  have hlt:off+k<cs.toList.length:=by simp only[Array.length_toList];omega
  rw[←Nat.add_assoc,List.take_set,List.drop_set_of_lt (by omega)]
  have ht:(cs.toList.take (off+k+1)).set (off+k) v=cs.toList.take (off+k)++[v]:=by
   rw[List.take_succ_eq_append_getElem hlt,List.set_append_right _ _ (by simp only[List.length_take];omega)]
   simp only[List.length_take]
   rw[show off+k-min (off+k) cs.toList.length=0 by omega]
   rfl
  rw[ht]
  simp only[List.length_cons]
  rw[show off+k+1+l.length=off+k+(l.length+1) by omega]
  simp
def Lq(place:Nat→Option (Nat×Nat)):List (Nat×Nat×AO)→List (Nat×Operand)→Bool
 |[],[]=>true
 |(off,n,x)::r,(i,y)::q=>(match place i with
  |some (off',n')=>Nat.beq off off'&&Nat.beq n n'
  |none=>false)&&Nat.blt 0 n&&BA x y&&Lq place r q
 |_,_=>false
theorem aG{place:Nat→Option (Nat×Nat)}{off n i:Nat}{x:AO}{y:Operand}{r:List (Nat×Nat×AO)}{q:List (Nat×Operand)}(h:Lq place ((off,n,x)::r) ((i,y)::q)=true):
  place i=some (off,n)∧0<n∧BA x y=true∧Lq place r q=true:=by
 simp only[Lq,Bool.and_eq_true]at h
 obtain⟨⟨⟨h1,h2⟩,h3⟩,h4⟩:=h
 refine⟨?_,by simpa using h2,h3,h4⟩
 split at h1
 ·rename_i o' n' hp
  simp only[Bool.and_eq_true,Nat.beq_eq]at h1
  rw[hp,h1.1,h1.2]
 ·cases h1
theorem Zj{place:Nat→Option (Nat×Nat)}{cells:Array Value}{i off n:Nat}{v:Value}{rest:List (Nat×Value)}(hp:place i=some (off,n))(hn:v.cells.size=n)(hle:off+n≤cells.size):
  ∃cells':Array Value,Instr.fill place cells ((i,v)::rest)=Instr.fill place cells' rest∧cells'.toList=cells.toList.take off++v.cells.toList++cells.toList.drop (off+v.cells.toList.length):=by
 refine⟨v.cells.zipIdx.foldl (fun cs (c,j)=>cs.setIfInBounds (off+j) c) cells,?_,?_⟩
 ·simp only[Instr.fill,hp]
  rw[if_neg]
  simp
  omega
 ·rw[←Array.foldl_toList,Array.toList_zipIdx]
  have:=Sn v.cells.toList off 0 cells (by simp;omega)
  simpa using this
theorem gI(I:Inv tb C)(F:BK C f a nt){place:Nat→Option (Nat×Nat)}: ∀(ps:List (Nat×Nat×AO)) (ys:List (Nat×Operand)),Lq place ps ys=true→ ∀{cs cs':List AV} {cells:Array Value},B0 C cs cells.toList→cs.all scal=true→
  Ma cs (eval tb f) ps=some cs'→ ∃cells',Instr.fill place cells (ys.map fun(i,y)=>(i,a.eval y))=some cells'∧B0 C cs' cells'.toList∧cs'.all scal=true
 |[],[],_,cs,cs',cells,hr,hs,h=>by
  simp only[Ma,Option.some.injEq]at h
  subst h
  exact⟨cells,rfl,hr,hs⟩
 |[],_::_,h,_,_,_,_,_,_=>by simp[Lq]at h
 |(_,_,_)::_,[],h,_,_,_,_,_,_=>by simp[Lq]at h
 |(off,n,x)::ps,(i,y)::ys,hok,cs,cs',cells,hr,hs,h=>by
  obtain⟨h1,h2,h3,h4⟩:=aG hok
  simp only[Ma]at h
  split at h
  ·rename_i hc
   obtain⟨hn,hle⟩:=hc
   obtain⟨c1,c2⟩:=N8 (Bd I F h3) (by omega)
   have hsz:(a.eval y).cells.size=n:=by have:=c1.length;rw[hn]at this;simpa using this
   have hcl:cells.size=cs.length:=by have:=hr.length;simpa using this
   obtain⟨cells1,e1,e2⟩:=Zj (rest:=ys.map fun(i,y)=>(i,a.eval y)) h1 hsz (by omega:off+n≤cells.size)
   obtain⟨cells2,e3,e4,e5⟩:=gI I F ps ys h4 (cells:=cells1) (by rw[e2];exact NI hr c1) (Mp hs c2) h
   exact⟨cells2,by rw[List.map_cons,e1,e3],e4,e5⟩
  ·cases h
def zS(P:Program)(t:TypeId):Option (Nat→Option (Nat×Nat)):=
 match P.underlying t with
 |some (.array _ e)=>if(P.info? e).isSome then some fun i=>some (i*P.cellsOf e,P.cellsOf e)else none
 |some (.struct fields)=>if fields.toList.all fun f=>(P.info? f.type).isSome then some fun i=>match fields[i]? with
  |some f=>some (f.offset,P.cellsOf f.type)
  |none=>none
  else none
 |_=>none
theorem YR: ∀(fs:List Field),fs.all (fun f=>(P.info? f.type).isSome)=true→fs.mapM (fun f=>(P.info? f.type).map fun i=>(f.offset,i.size))=some (fs.map fun f=>(f.offset,P.cellsOf f.type))
 |[],_=>by simp
 |f::fs,h=>by
  simp only[List.all_cons,Bool.and_eq_true]at h
  obtain⟨i,hi⟩:=Option.isSome_iff_exists.1 h.1
  rw[List.mapM_cons,YR fs h.2]
  simp[hi,Program.cellsOf]
theorem xK{t:TypeId}{place:Nat→Option (Nat×Nat)}{it:TypeInfo}{z:Value}(h:zS P t=some place)(hi:P.info? t=some it)(hz:it.zero=some z)(parts:List (Nat×Value)):P.built t parts=Instr.fill place z.cells parts:=by
 unfold zS at h
 unfold Program.built
 split at h
 ·rename_i n e hu
  split at h
  ·rename_i hs
   obtain⟨ie,he⟩:=Option.isSome_iff_exists.1 hs
   obtain rfl:=Option.some.inj h
   simp only[hi,hu,hz,he,Program.cellsOf]
   simp
  ·cases h
 ·rename_i fs hu
  split at h
  ·rename_i hs
   obtain rfl:=Option.some.inj h
   simp only[hi,hu,hz,YR fs.toList hs]
   congr 1
   funext i
   simp only[List.getElem?_toArray,List.getElem?_map,Array.getElem?_toList]
   cases fs[i]? <;>rfl
  ·cases h
 ·cases h
theorem zM(I:Inv tb C)(F:BK C f a nt){o:Oper}{t:TypeId}{zero:List AV}{ps:List (Nat×Nat×AO)}{ys:Array (Nat×Operand)}(ho:o.op= .build t ys){place:Nat→Option (Nat×Nat)}{it:TypeInfo}{z:Value}(h:zS P t=some place)
  (hi:P.info? t=some it) (hz:it.zero=some z) (hzs:Rm zero z.cells.toList=true) (hp:Lq place ps ys.toList=true) {cs:List AV} (hv:Ma zero (eval tb f) ps=some cs):Yields tb C (.agg cs,none) ((execOp a.eval o).run P C.w):=by
 obtain⟨r1,r2⟩:=P2 (C:=C) hzs
 obtain⟨cells,e1,e2,e3⟩:=gI I F ps ys.toList hp r1 r2 hv
 refine A6 I (v:= .agg cells) ?_ ⟨cells.toList,by simp,e3,e2⟩
 have hb:P.built t (ys.map fun(i,x)=>(i,a.eval x)).toList=some cells:=by
  rw[xK h hi hz,Array.toList_map]
  exact e1
 simp only[execOp,ho,Sem.run_bind,run_build C.w t _ cells hb,Result.andThen_ok,Sem.run_pure]
theorem Ud{α:Type}{sz:Nat}(new:List α)(hn:new.length=sz): ∀(l:List (List α)) (i:Nat),(∀y∈l,y.length=sz)→i<l.length→
  (l.set i new).flatten=l.flatten.take (i*sz)++new++l.flatten.drop (i*sz+new.length)
 |[],_,_,h=>by simp at h
 |y::l,0,hy,_=>by
  have hyl:=hy y List.mem_cons_self
  simp only[List.set_cons_zero,List.flatten_cons,Nat.zero_mul,Nat.zero_add,List.take_zero,List.nil_append]
  rw[List.drop_append,List.drop_of_length_le (by omega),show new.length-y.length=0 by omega]
  simp
 |y::l,i+1,hy,h=>by
  have hyl:=hy y List.mem_cons_self
  simp only[List.set_cons_succ,List.flatten_cons]
  rw[Ud new hn l i (fun z hz=>hy z (List.mem_cons_of_mem _ hz)) (by simpa using h)]
  rw[Nat.succ_mul,List.take_append,List.take_of_length_le (l:=y) (by omega),List.drop_append,List.drop_of_length_le (l:=y) (by omega),List.nil_append]
  rw[show i*sz+sz-y.length=i*sz by omega,show i*sz+sz+new.length-y.length=i*sz+new.length by omega]
  simp
def Lr(sz:Nat):List (Nat×AO)→List (Nat×Operand)→Bool
 |[],[]=>true
 |(i,x)::r,(j,y)::q=>i==j&&BA x y&&Lr sz r q
 |_,_=>false
theorem Zk(I:Inv tb C)(F:BK C f a nt){sz:Nat}(hsz:0<sz): ∀(ps:List (Nat×AO)) (ys:List (Nat×Operand)),Lr sz ps ys=true→ ∀{els els':List (List AV)} {vss:List (List Value)} {cells:Array Value},Bi C els vss→
  (∀e∈els,e.length=sz∧e.all scal=true)→cells.toList=vss.flatten→KN els sz (eval tb f) ps=some els'→
  ∃cells' vss',Instr.fill (fun i=>some (i*sz,sz)) cells (ys.map fun(i,y)=>(i,a.eval y))=some cells'∧Bi C els' vss'∧(∀e∈els',e.length=sz∧e.all scal=true)∧cells'.toList=vss'.flatten∧els'.length=els.length
 |[],[],_,els,els',vss,cells,hr,hs,hc,h=>by
  simp only[KN,Option.some.injEq]at h
  subst h
  exact⟨cells,vss,rfl,hr,hs,hc,rfl⟩
 |[],_::_,h,_,_,_,_,_,_,_,_=>by simp[Lr]at h
 |(_,_)::_,[],h,_,_,_,_,_,_,_,_=>by simp[Lr]at h
 |(i,x)::ps,(j,y)::ys,hok,els,els',vss,cells,hr,hs,hc,h=>by
  simp only[Lr,Bool.and_eq_true,beq_iff_eq]at hok
  obtain⟨⟨rfl,h3⟩,h4⟩:=hok
  simp only[KN]at h
  split at h
  ·rename_i hcc
   obtain⟨hn,hi⟩:=hcc
   obtain⟨c1,c2⟩:=N8 (Bd I F h3) (by omega)
   have hvl:(a.eval y).cells.toList.length=sz:=by rw[c1.length,hn]
   have hlens:=Bi.lens (fun x hx=>(hs x hx).1) hr
   have hcl:cells.size=els.length*sz:=by
    rw[←Array.length_toList,hc,FN _ hlens,hr.length]
   have hle:i*sz+sz≤cells.size:=by
    rw[hcl,←Nat.succ_mul]
    exact Nat.mul_le_mul_right _ hi
   obtain⟨cells1,e1,e2⟩:=Zj (place:=fun i=>some (i*sz,sz)) (rest:=ys.map fun(i,y)=>(i,a.eval y)) rfl (by simpa using hvl) hle
   obtain⟨cells2,vss2,e3,e4,e5,e6,e7⟩:=Zk I F hsz ps ys h4 (cells:=cells1) (Bi.set (i:=i) c1 hr) (fun e he=>by
    rcases List.mem_or_eq_of_mem_set he with he|he
    ·exact hs e he
    ·subst he;exact⟨hn,c2⟩) (by rw[e2,hc,Ud _ hvl _ _ hlens (by rw[hr.length];exact hi)]) h
   exact⟨cells2,vss2,by rw[List.map_cons,e1,e3],e4,e5,e6,by rw[e7];simp⟩
  ·cases h
theorem jK(z:Array Value)(n:Nat):((Array.range (n*z.size)).map (z[· %z.size]!)).toList=(List.replicate n z.toList).flatten:=by
 apply List.ext_getElem
 ·simp[List.length_flatten]
 ·intro i h1 h2
  have hi:i<n*z.size:=by simpa using h1
  have hpos:0<z.size:=by
   rcases Nat.eq_zero_or_pos z.size with h|h
   ·rw[h]at hi;simp at hi
   ·exact h
  have hmod:i%z.size<z.size:=Nat.mod_lt _ hpos
  have key: ∀(n i:Nat),i<n*z.size→(List.replicate n z.toList).flatten[i]? =z.toList[i%z.size]? :=by
   intro n
   induction n with
   |zero=>intro i h;simp at h
   |succ n ih=>
    intro i h
    rw[List.replicate_succ,List.flatten_cons]
    rcases Nat.lt_or_ge i z.size with hlt|hge
    ·rw[List.getElem?_append_left (by simpa using hlt),Nat.mod_eq_of_lt hlt]
    ·rw[List.getElem?_append_right (by simpa using hge)]
     simp only[Array.length_toList]
     rw[ih (i-z.size) (by rw[Nat.succ_mul]at h;omega),←Nat.mod_eq_sub_mod hge]
  have:=key n i hi
  rw[List.getElem?_eq_getElem h2]at this
  simp only[Array.toList_map,Array.toList_range,List.getElem_map,List.getElem_range]
  rw[getElem!_pos z (i%z.size) hmod]
  have h3:z.toList[i%z.size]? =some z[i%z.size]:=by simp[hmod]
  rw[h3]at this
  exact(Option.some.inj this).symm
theorem oZ(I:Inv tb C)(F:BK C f a nt){o:Oper}{t e:TypeId}{len:Nat}{zero:List (List AV)}{ps:List (Nat×AO)}{ys:Array (Nat×Operand)}(ho:o.op= .buildSlice t len ys)(hu:P.underlying t=some (.slice e)){i:TypeInfo}{z:Value}
  (hi:P.info? e=some i) (hz:i.zero=some z) (hzz:z.cells.size=P.cellsOf e) (hz0:0<P.cellsOf e) (hb:len*P.cellsOf e≤2^24) (hl:zero.length=len) (hzs:zero.all (Rm · z.cells.toList)=true) (hp:Lr (P.cellsOf e) ps ys.toList=true)
  {els:List (List AV)} (hv:KN zero (P.cellsOf e) (eval tb f) ps=some els): ∃(cells:Array Value) (vss:List (List Value)),Bi C els vss∧(∀x∈els,x.length=P.cellsOf e∧x.all scal=true)∧
   cells.toList=vss.flatten∧els.length*P.cellsOf e≤cells.size∧(execOp a.eval o).run P C.w= .ok (.value (.slice (some ⟨C.w.heap.size,0,none⟩) els.length els.length)) (C.w.alloc (.cells cells e)):=by
 have hinfo:(P.info? e).isSome=true:=by rw[hi];rfl
 have hcells:P.cellsOf e=i.size:=by simp[Program.cellsOf,hi]
 have hz1: ∀l:List (List AV),l.all (Rm · z.cells.toList)=true→Bi C l (List.replicate l.length z.cells.toList)∧ ∀e'∈l,e'.length=P.cellsOf e∧e'.all scal=true:=by
  intro l
  induction l with
  |nil=>intro _;exact⟨rfl,fun e he=>by cases he⟩
  |cons x l ih=>
   intro h
   simp only[List.all_cons,Bool.and_eq_true]at h
   obtain⟨r1,r2⟩:=P2 (C:=C) h.1
   obtain⟨q1,q2⟩:=ih h.2
   refine⟨⟨_,_,by rw[List.length_cons,List.replicate_succ],r1,q1⟩,fun e' he=> ?_⟩
   rcases List.mem_cons.1 he with rfl|he
   ·exact⟨by rw[←r1.length];simpa using hzz,r2⟩
   ·exact q2 e' he
 obtain⟨q1,q2⟩:=hz1 zero hzs
 have hc:((Array.range (len*P.cellsOf e)).map (fun j=>(if len*P.cellsOf e=0 then(#[]:Array Value)else z.cells)[j%(if len*P.cellsOf e=0 then(#[]:Array Value)else z.cells).size]!)).toList=(List.replicate zero.length z.cells.toList).flatten:=by
  by_cases h0:len*P.cellsOf e=0
  ·have hl0:len=0:=by
    rcases Nat.mul_eq_zero.1 h0 with h|h
    ·exact h
    ·omega
   rw[hl,hl0]
   simp
  ·simp only[if_neg h0]
   rw[hl,←hzz]
   exact jK z.cells len
 obtain⟨cells,vss,e1,e2,e3,e4,e5⟩:=Zk I F hz0 ps ys.toList hp q1 q2 hc hv
 have hel:els.length=len:=by rw[e5,hl]
 have hsize:cells.size=els.length*P.cellsOf e:=by
  rw[←Array.length_toList,e4,FN _ (Bi.lens (fun x hx=>(e3 x hx).1) e2),e2.length]
 refine⟨cells,vss,e2,e3,e4,by omega,?_⟩
 ·have hnb: ¬(len*P.cellsOf e>2^24):=by omega
  have e1':Instr.fill (fun i=>some (i*P.cellsOf e,P.cellsOf e)) ((Array.range (len*P.cellsOf e)).map (fun j=>(if len*P.cellsOf e=0 then(#[]:Array Value)else z.cells)[j%(if len*P.cellsOf e=0 then(#[]:Array Value)else z.cells).size]!))
    (ys.map fun x=>(x.fst,a.eval x.snd)).toList=some cells:=by
   rw[Array.toList_map];exact e1
  by_cases h0:len*P.cellsOf e=0
  ·simp only[if_pos h0]at e1'
   simp only[execOp,ho,Instr.buildSlice,Sem.run_bind,AA hu,Result.andThen_ok,Cl hinfo,if_neg hnb,Sem.run_pure,if_pos h0,e1',newRow,run_newObj,hel]
   rfl
  ·simp only[if_neg h0]at e1'
   simp only[execOp,ho,Instr.buildSlice,Sem.run_bind,AA hu,Result.andThen_ok,Cl hinfo,if_neg hnb,Sem.run_pure,if_neg h0,zeroValue,Ko hi,hz,e1',newRow,run_newObj,hel]
   rfl
theorem zJ(I:Inv tb C)(F:BK C f a nt){o:Oper}{t e:TypeId}{len:Nat}{zero:List (List AV)}{ps:List (Nat×AO)}{ys:Array (Nat×Operand)}(ho:o.op= .buildSlice t len ys)(hu:P.underlying t=some (.slice e)){i:TypeInfo}{z:Value}
  (hi:P.info? e=some i) (hz:i.zero=some z) (hzz:z.cells.size=P.cellsOf e) (hz0:0<P.cellsOf e) (hb:len*P.cellsOf e≤2^24) (hl:zero.length=len) (hzs:zero.all (Rm · z.cells.toList)=true) (hp:Lr (P.cellsOf e) ps ys.toList=true)
  {els:List (List AV)} (hv:KN zero (P.cellsOf e) (eval tb f) ps=some els):Yields tb C (.orow C.H.length els.length 0 els.length,some (C.H++[C6.row (some e) false (P.cellsOf e) els])) ((execOp a.eval o).run P C.w):=by
 obtain⟨cells,vss,e2,e3,e4,e5,e6⟩:=oZ I F ho hu hi hz hzz hz0 hb hl hzs hp hv
 refine Vv (e:=e) (w:=C.w) (arr:=cells) (K:=els.length) I ⟨rfl,rfl,rfl⟩ rfl hz0 e3 e2 (fun j v hj=> ?_) (Nat.le_refl _) e5 e6
 rw[←e4]at hj;simpa using hj
theorem zL(I:Inv tb C)(F:BK C f a nt){o:Oper}{t e:TypeId}{len:Nat}{zero:List (List AV)}{ps:List (Nat×AO)}{ys:Array (Nat×Operand)}(ho:o.op= .buildSlice t len ys)(hu:P.underlying t=some (.slice e)){i:TypeInfo}{z:Value}
  (hi:P.info? e=some i) (hz:i.zero=some z) (hzz:z.cells.size=P.cellsOf e) (hz0:0<P.cellsOf e) (hb:len*P.cellsOf e≤2^24) (hl:zero.length=len) (hzs:zero.all (Rm · z.cells.toList)=true) (hp:Lr (P.cellsOf e) ps ys.toList=true)
  {els:List (List AV)} (hv:KN zero (P.cellsOf e) (eval tb f) ps=some els):Yields tb C (.sl (P.cellsOf e) els,none) ((execOp a.eval o).run P C.w):=by
 obtain⟨cells,vss,e2,e3,e4,e5,e6⟩:=oZ I F ho hu hi hz hzz hz0 hb hl hzs hp hv
 obtain⟨X,ID⟩:=grown (w:=C.w.alloc (.cells cells e)) I ⟨rfl,rfl,rfl⟩ (by rw[HR];omega) fun b hb=>alloc_old _ _ hb
 refine⟨_,X,ID,rfl, .inl ⟨_,e6, .inl ⟨C.w.heap.size,0,els.length,vss,rfl,Nat.le_refl _,by rw[HR];omega,?_,fun j v hj=> ?_,e3,Bi.ext X e2⟩⟩⟩
 ·rintro⟨id,hid,e'⟩
  have:=I.lt id hid
  simp only at e'
  omega
 ·have hn:(C.w.alloc (.cells cells e)).heap[C.w.heap.size]? =some (.cells cells e):=Jc _ _
  simp only[World.cell?,hn,Nat.zero_add]
  rw[←e4]at hj
  simpa using hj
theorem yQ(I:Inv tb C)(F:BK C f a nt){o:Oper}{t e:TypeId}{n:Nat}{x:AO}{y:Operand}(ho:o.op= .sliceToArrayPointer t y)(hu:P.underlying t=some (.array n e))(hn:0<n)(hx:BA x y=true){r:AV×Option Ay}
  (h:val (U0 n (P.cellsOf e) (eval tb f x))=some r):Yields tb C r ((execOp a.eval o).run P C.w):=by
 have hr:=Bd I F hx
 have run: ∀{p:Option Addr} {len cap:Nat},a.eval y= .slice p len cap→n≤len→(execOp a.eval o).run P C.w= .ok (.value (.pointer p)) C.w:=by
  intro p len cap he hle
  simp only[execOp,ho,he,Instr.arrayAt,Sem.run_bind,AA hu,Result.andThen_ok,if_neg (show¬len<n by omega),Sem.run_pure]
 generalize eval tb f x=v at*
 cases v<;>simp only[U0,val,Option.map_none,reduceCtorEq]at h
 case ocel sz id off len=>
  split at h
  ·rename_i hc
   simp only[Option.map_some,Option.some.injEq]at h
   subst h
   obtain⟨hobj,o',cap,e',hlc,hoff,hsz⟩:=hr
   refine A6 I (run e' hc.2) ⟨hobj,?_⟩
   rw[hoff (by omega)]
  ·simp at h
 case orow id k lo len=>
  split at h
  ·rename_i hc
   simp only[Option.map_some,Option.some.injEq]at h
   subst h
   obtain⟨⟨p,c,e'⟩,fz,sz,els,hg,hl,hk⟩:=hr
   by_cases hkn:k=els.length
   ·obtain⟨hle,off,cap,e'',hlc,hoff,_⟩:=hk hkn
    refine A6 I (run e'' hc.1) ⟨⟨_,rfl⟩,fz,sz,els,hg,hl,fun _=> ?_⟩
    rw[hoff (by omega)]
    rfl
   ·exact A6 I (run e' hc.1) ⟨⟨_,rfl⟩,fz,sz,els,hg,hl,fun q=>absurd q hkn⟩
  ·simp at h
 case sl sz els=>
  split at h
  ·rename_i hc
   simp only[Option.map_some,Option.some.injEq]at h
   subst h
   rcases hr with ⟨b,base,cap,vss,e',hlc,hlt,hown,hh,hs,hrr⟩|⟨rfl,_⟩
   case inr=>have:=hc.2;simp at this;omega
   refine A6 I (run e' hc.2) ⟨b,base,(vss.take n).flatten,by simp,hlt,hown,?_,N1 fun x hx=>(hs x (List.mem_of_mem_take hx)).2,Bi.flat hrr.take⟩
   have hlens:=Bi.lens (fun x hx=>(hs x hx).1) hrr
   rw[EW _ _ hlens]
   have:=hh.sub 0 (n*sz)
   simpa using this
  ·simp at h
theorem nP(I:Inv tb C)(F:BK C f a nt){o:Oper}{c:Call}{mx:Bool}{x1 x2:AO}{y1 y2:Operand}(ho:o.op= .call c)(hc:c.callee= .builtin (if mx then .max else .min))(ha:c.args= #[y1,y2])(h1:BA x1 y1=true)(h2:BA x2 y2=true)
  {k:IntKind} {p q:Int} (e1:eval tb f x1= .i k p) (e2:eval tb f x2= .i k q):Yields tb C (.i k (if mx then(if q>p then q else p)else(if q<p then q else p)),none) ((execOp a.eval o).run P C.w):=by
 have r1:=Bd I F h1
 have r2:=Bd I F h2
 rw[e1]at r1
 rw[e2]at r2
 have r1':a.eval y1= .int k p:=r1
 have r2':a.eval y2= .int k q:=r2
 refine A6 I (v:= .int k (if mx then(if q>p then q else p)else(if q<p then q else p))) (FH ho hc fun qs=> ?_) rfl
 cases mx
 ·simp only[ha,List.map_toArray,List.map_cons,List.map_nil,Bool.false_eq_true,if_false,builtin,Sem.run_bind,Builtin.min_,List.foldlM_cons,List.foldlM_nil,r1',r2',Builtin.min2]
  split<;>simp_all
 ·simp only[ha,List.map_toArray,List.map_cons,List.map_nil,if_true,builtin,Sem.run_bind,Builtin.max_,List.foldlM_cons,List.foldlM_nil,r1',r2',Builtin.max2]
  split<;>simp_all
end
end Go.Proofs.YtobejhpigbllpaaGreatDoor.Am
namespace Go.Proofs.YtobejhpigbllpaaGreatDoor.Am
section
variable{cl:Nat→List AV→Ay→Lk}{P:Program}{tb:Dh}{C:DP}{f:Fr}{a:Act}{nt:Nat}
end
end Go.Proofs.YtobejhpigbllpaaGreatDoor.Am
namespace Go.Proofs.YtobejhpigbllpaaGreatDoor.Am
section
variable{cl:Nat→List AV→Ay→Lk}{P:Program}{tb:Dh}{C:DP}{f:Fr}{a:Act}{nt:Nat}
theorem Uz: ∀{els:List (List AV)} {vss:List (List Value)} {l:List UInt8},Bi C els vss→EX els=some l→ ∃ns:List Int,vss.flatten=ns.map (Value.int .u8)∧l=ns.map fun n=>UInt8.ofNat n.toNat
 |[],_,_,r,h=>by
  rw[show _=[]from r]
  simp only[EX,Option.some.injEq]at h
  subst h
  exact⟨[],rfl,rfl⟩
 |e::els,_,l,⟨v,q,e1,r1,r2⟩,h=>by
  unfold EX at h
  split at h
  ·rename_i he;cases he
  ·rename_i n r' he
   cases he
   obtain⟨l',hl,rfl⟩:=Option.map_eq_some_iff.1 h
   obtain⟨ns,h1,h2⟩:=Uz r2 hl
   obtain⟨u,us,e2,ru,e3⟩:=r1
   have e3':us=[]:=e3
   have ru':u= .int .u8 n:=ru
   subst e3';subst e2;subst ru'
   exact⟨n::ns,by rw[e1];simp[h1],by simp[h2]⟩
  ·cases h
theorem WL: ∀(ns:List Int) (b:ByteArray),ns.foldl (fun r n=>r.push (UInt8.ofNat n.toNat)) b=⟨b.data++(ns.map fun n=>UInt8.ofNat n.toNat).toArray⟩
 |[],b=>by apply ByteArray.ext;simp
 |n::ns,b=>by
  rw[List.foldl_cons,WL ns]
  apply ByteArray.ext
  simp[ByteArray.push]
theorem zC(I:Inv tb C)(F:BK C f a nt){o:Oper}{s d e:TypeId}{x:AO}{y:Operand}(ho:o.op= .convert s d y)(hs:P.underlying s=some (.slice e))(he:P.underlying e=some (.int .u8))(hd:P.underlying d=some .string)(hx:BA x y=true)
  {els:List (List AV)} {l:List UInt8} (h:ER C.H 1 (eval tb f x)=some els) (hl:EX els=some l):Yields tb C (.s l,none) ((execOp a.eval o).run P C.w):=by
 have r:=Bd I F hx
 refine A6 I (v:= .string ⟨l.toArray⟩) ?_ rfl
 rcases bT I (by omega) r h with ⟨rfl,ev⟩|⟨q,cap,vss,ev,hlc,hh,hsz,hr⟩
 ·simp only[EX,Option.some.injEq]at hl
  subst hl
  simp only[execOp,ho,ev,Sem.run_bind,run_convert_bytes_string C.w s d e _ _ _ hs he hd]
  rfl
 ·obtain⟨ns,h1,h2⟩:=Uz hr hl
  have hlen:ns.length=els.length:=by
   have:=congrArg List.length h1
   rw[FN _ (Bi.lens (fun x hx=>(hsz x hx).1) hr),hr.length]at this
   simpa using this.symm
  have hload:(loadCells q els.length).run P C.w= .ok (ns.map (Value.int .u8)).toArray C.w:=by
   by_cases hne:els=[]
   ·subst hne
    have:ns=[]:=List.eq_nil_of_length_eq_zero (by simpa using hlen)
    subst this
    rfl
   ·obtain⟨b,base,rfl,hh2⟩:=hh hne
    have:=HD (P:=P) hh2
    rw[h1]at this
    simpa [hlen]using this
  have:=run_bytesToString (P:=P) C.w q els.length cap ns hload
  simp only[execOp,ho,ev,Sem.run_bind,run_convert_bytes_string C.w s d e _ _ _ hs he hd,this,Result.andThen_ok,Sem.run_pure]
  rw[WL,h2]
  rw[show ByteArray.empty.data= #[]from rfl];simp
theorem yR(I:Inv tb C)(F:BK C f a nt){o:Oper}{t:TypeId}{x:AO}{y:Operand}(ho:o.op= .range t y)(ht:P.underlying t=some .string)(hx:BA x y=true){l:List UInt8}(h:eval tb f x= .s l):
  Yields tb C (.ptr C.H.length 0,some (C.H++[C6.iter l 0])) ((execOp a.eval o).run P C.w):=by
 have r:=Bd I F hx
 rw[h]at r
 have e1:a.eval y= .string ⟨l.toArray⟩:=r
 have hlt:C.w.heap.size<(C.w.alloc (.stringIter ⟨l.toArray⟩ 0)).heap.size:=by rw[HR];omega
 refine QW (w:=C.w.alloc (.stringIter ⟨l.toArray⟩ 0)) (v:= .pointer (some ⟨C.w.heap.size,0,none⟩)) I (p:=⟨C.w.heap.size,0,0⟩) ⟨rfl,rfl,rfl⟩ ?_ hlt rfl (fun b hb=>alloc_old _ _ hb) ?_ ?_
 ·simp only[execOp,ho,e1,Instr.range,Sem.run_bind,AA ht,Result.andThen_ok,Sem.run_pure,run_newObj]
  rfl
 ·exact Jc _ _
 ·intro hφ
  exact⟨⟨C6.iter l 0,by simp[DP.more],rfl⟩,by rw[hφ]⟩
theorem yS(I:Inv tb C)(F:BK C f a nt){o:Oper}{x:AO}{y:Operand}(ho:o.op= .next y true)(hx:BA x y=true){id:Nat}{l:List UInt8}{pos:Nat}(h:eval tb f x= .ptr id 0)(hi:WB C.H id=some (l,pos)){r:AV×Option Ay}
  (hr:(if pos<l.length then some (AV.tup [.b true, .i .i64 pos, .i .i32 (Utf8.decode ⟨l.toArray⟩ pos).1],some (C.H.set id (C6.iter l (pos+(Utf8.decode ⟨l.toArray⟩ pos).2))))else some (AV.tup [.b false],none))=some r):
  Yields tb C r ((execOp a.eval o).run P C.w):=by
 have rv:=Bd I F hx
 rw[h]at rv
 obtain⟨_,e1⟩:=rv
 have hH:C.H[id]? =some (.iter l pos):=by
  simp only[WB]at hi
  split at hi
  ·rename_i l' p' hg;cases hi;exact hg
  ·cases hi
 have hobj:C.w.heap[(C.φ id).blk]? =some (.stringIter ⟨l.toArray⟩ pos):=I.obj id _ hH
 have hsize:(⟨l.toArray⟩:ByteArray).size=l.length:=by simp[ByteArray.size]
 have hget:(getObj (C.φ id).blk).run P C.w= .ok (.stringIter ⟨l.toArray⟩ pos) C.w:=by
  simp[getObj,Sem.run,hobj]
 by_cases hp:pos<l.length
 ·rw[if_pos hp]at hr
  cases hr
  have hlt:=I.lt id (Bj hH)
  have hset:(setObj (C.φ id).blk (.stringIter ⟨l.toArray⟩ (pos+(Utf8.decode ⟨l.toArray⟩ pos).2))).run P C.w= .ok () {C.w with heap:=C.w.heap.setIfInBounds (C.φ id).blk (.stringIter ⟨l.toArray⟩ (pos+(Utf8.decode ⟨l.toArray⟩ pos).2))}:=by
   simp[setObj,Sem.run,hobj]
  let D:DP:=⟨C.φ,C.H.set id (.iter l (pos+(Utf8.decode ⟨l.toArray⟩ pos).2)),{C.w with heap:=C.w.heap.setIfInBounds (C.φ id).blk (.stringIter ⟨l.toArray⟩ (pos+(Utf8.decode ⟨l.toArray⟩ pos).2))}⟩
  obtain⟨X,hI⟩:=yJ (D:=D) I ⟨rfl,rfl,rfl⟩ hH rfl (fun _ _=>rfl) (by simp[D]) (fun b hb hne=>by simp only[D];rw[Array.getElem?_setIfInBounds_ne (Ne.symm hne)]) (.inl rfl) (fun _=>⟨rfl,rfl⟩) (fun _ fz sz els h=>by cases h)
  refine⟨D,X,hI (by simp[Obj,D,hlt]),rfl, .inl ⟨.tuple #[.bool true, .int .i64 pos, .int .i32 (Utf8.decode ⟨l.toArray⟩ pos).1],?_,⟨[.bool true, .int .i64 pos, .int .i32 (Utf8.decode ⟨l.toArray⟩ pos).1],rfl,_,_,rfl,rfl,_,_,rfl,rfl,_,_,rfl,rfl,rfl⟩⟩⟩
  simp only[execOp,ho,e1,Instr.next,Sem.run_bind,hget,Result.andThen_ok,hsize,if_pos hp,hset,Sem.run_pure]
  rfl
 ·rw[if_neg hp]at hr
  cases hr
  refine A6 I (v:= .tuple #[.bool false]) ?_ ⟨[.bool false],rfl,_,_,rfl,rfl,rfl⟩
  simp only[execOp,ho,e1,Instr.next,Sem.run_bind,hget,Result.andThen_ok,hsize,if_neg hp,Sem.run_pure]
end
end Go.Proofs.YtobejhpigbllpaaGreatDoor.Am
namespace Go.Proofs.YtobejhpigbllpaaGreatDoor.Am
section
variable{cl:Nat→List AV→Ay→Lk}{P:Program}{tb:Dh}{C:DP}{f:Fr}{a:Act}{nt:Nat}
theorem zD(I:Inv tb C)(F:BK C f a nt){o:Oper}{s d t:TypeId}{j:TypeInfo}{x:AO}{y:Operand}(ho:o.op= .convert s d y)(hs:P.underlying s=some (.pointer t))(hd:P.underlying d=some .unsafePointer)(ht:P.info? t=some j)(hj:j.size≠0)
  (hx:BA x y=true) {r:AV×Option Ay} (h:B6 tb cl (eval tb f) C.H (.cvp x)=some r):Yields tb C r ((execOp a.eval o).run P C.w):=by
 have r1:=Bd I F hx
 simp only[B6]at h
 split at h
 ·rename_i hv
  cases h
  rw[hv]at r1
  have e1:a.eval y= .pointer none:=r1
  have hrun:(convert s d (.pointer none)).run P C.w= .ok (.pointer none) C.w:=by
   simp[convert,AA hs,AA hd,Conv.unsafePointer]
  exact A6 I (v:= .pointer none) (by simp only[execOp,ho,e1,Sem.run_bind,hrun,Result.andThen_ok,Sem.run_pure]) rfl
 ·rename_i id off hv
  obtain⟨cs,hcs,h⟩:=Option.bind_eq_some_iff.1 h
  split at h
  ·rename_i hlt
   cases h
   rw[hv]at r1
   have r0:=r1
   obtain⟨_,e1⟩:=r1
   obtain⟨tl,hg,_⟩:=N9 hcs
   obtain⟨vs,arr,e,fr,⟨h1,_⟩,h2,_⟩:=I.obj id _ hg
   have hsh:C.w.shape? (C.φ id).blk=some (e,arr.size):=by simp only[World.shape?,h1]
   have hrun:=Lib.run_to_unsafe (P:=P) C.w ⟨(C.φ id).blk,off,none⟩ hs hd ht hj hsh (by rw[h2];exact hlt)
   exact A6 I (v:= .pointer (some ⟨(C.φ id).blk,off,none⟩)) (by simp only[execOp,ho,e1,Sem.run_bind,hrun,Result.andThen_ok,Sem.run_pure]) (e1▸r0)
  ·cases h
 ·cases h
theorem zB(I:Inv tb C)(F:BK C f a nt){o:Oper}{s d u t n:Nat}{j:TypeInfo}{x:AO}{y:Operand}(ho:o.op= .convert s d y)(hs:P.underlying s=some .unsafePointer)(hd:P.underlying d=some (.pointer u))(hu:P.info? u=some j)
  (hl:liesAt P P.depth t (n/P.cellsOf t) 0 u 1=true) (hx:BA x y=true) {r:AV×Option Ay} (h:B6 tb cl (eval tb f) C.H (.cvu t n x)=some r):Yields tb C r ((execOp a.eval o).run P C.w):=by
 have r1:=Bd I F hx
 simp only[B6]at h
 split at h
 ·rename_i hv
  cases h
  rw[hv]at r1
  have e1:a.eval y= .pointer none:=r1
  have hrun:(convert s d (.pointer none)).run P C.w= .ok (.pointer none) C.w:=by
   simp[convert,AA hs,AA hd,Conv.unsafePointer]
  exact A6 I (v:= .pointer none) (by simp only[execOp,ho,e1,Sem.run_bind,hrun,Result.andThen_ok,Sem.run_pure]) rfl
 ·rename_i id off hv
  obtain⟨cs,hcs,h⟩:=Option.bind_eq_some_iff.1 h
  split at h
  ·rename_i hlt
   cases h
   obtain⟨rfl,hn,hlab⟩:=hlt
   rw[hv]at r1
   have r0:=r1
   obtain⟨_,e1⟩:=r1
   obtain⟨tl,hg,hlab'⟩:=N9 hcs
   obtain⟨vs,arr,e,fr,⟨h1,hb⟩,h2,_⟩:=I.obj id _ hg
   have het:e=t:=hb t (by rw[←hlab',hlab])
   subst het
   have hsh:C.w.shape? (C.φ id).blk=some (e,arr.size):=by simp only[World.shape?,h1]
   have hrun:=Lib.run_from_unsafe (P:=P) C.w ⟨(C.φ id).blk,0,none⟩ hs hd hu hsh (by rw[h2,hn];exact hl)
   exact A6 I (v:= .pointer (some ⟨(C.φ id).blk,0,none⟩)) (by simp only[execOp,ho,e1,Sem.run_bind,hrun,Result.andThen_ok,Sem.run_pure]) (e1▸r0)
  ·cases h
 ·cases h
theorem tI(I:Inv tb C)(F:BK C f a nt){o:Oper}{c:Call}{t e:TypeId}{x:AO}{y:Operand}(ho:o.op= .call c)(hc:c.callee= .builtin .cap)(ht:c.argTypes[0]? =some t)(ha:c.args= #[y])
  (hx:BA x y=true) (h:eval tb f x= .nils) (hu:P.underlying t=some (.slice e)):Yields tb C (.i .i64 0,none) ((execOp a.eval o).run P C.w):=by
 have r:=Bd I F hx
 rw[h]at r
 have r':a.eval y= .slice none 0 0:=r
 refine A6 I (v:= .int .i64 0) (FH ho hc fun q=> ?_) rfl
 simp only[ha,List.map_toArray,List.map_cons,List.map_nil,builtin,Sem.run_bind,Builtin.cap_,ht]
 simp[r',AA hu,goInt]
theorem AaK(d:Nat){t:TypeId}{x1}(hu:P.underlying t=some (.interface x1))(w:World):(Op.equalIn (d+1) t .nilIface .nilIface).run P w= .ok true w:=by
 simp only[Op.equalIn,Sem.run_bind,AA hu,Result.andThen_ok,Sem.run_pure]
theorem tH(I:Inv tb C)(F:BK C f a nt){o:Oper}{op:BinOp}{t t':TypeId}{ms:Array (String×TypeId)}{neg:Bool}{x:AO}{p:Operand}(ho:o.op= .binOp op t p (.const .nilIface) t')(h0:op=if neg then .neq else .eql)(ht:P.underlying t=some (.interface ms))
  (hx:BA x p=true) {r:AV×Option Ay} (h:B6 tb cl (eval tb f) C.H (.isni neg x)=some r):Yields tb C r ((execOp a.eval o).run P C.w):=by
 have r1:=Bd I F hx
 simp only[B6]at h
 have fin: ∀(v:Value) (b:Bool),a.eval p=v→r=(.b (if neg then !b else b),none)→(Op.equalIn 10000 t v .nilIface).run P C.w= .ok b C.w→(∀l,v≠ .agg l)→(∀k n,v≠ .int k n)→Yields tb C r ((execOp a.eval o).run P C.w):=by
  rintro v b e rfl hq h3 h4
  have hg:(eqGuard op t p (.const .nilIface) v .nilIface).run P C.w= .ok () C.w:=by
   cases v<;>first
    |exact absurd rfl (h3 _)
    |(simp only[eqGuard];split<;>rfl)
    |(simp only[eqGuard];cases p<;>(split<;>rfl))
  have q2: ∀op,(op= .eql→(Go.binOp op t v .nilIface).run P C.w= .ok (.bool b) C.w)∧(op= .neq→(Go.binOp op t v .nilIface).run P C.w= .ok (.bool (!b)) C.w):=
   fun op=>FG hq (.inr (.inr (.inr (.inr (.inr (.inl ⟨.inr rfl,fun k n=>⟨h4 k n,fun e=>(by cases e)⟩⟩))))))
  have ec:a.eval (.const .nilIface)= .nilIface:=rfl
  cases neg with
  |true=>
   simp only[if_true]at h0
   refine A6 I (v:= .bool (!b)) ?_ rfl
   simp only[execOp,ho,e,ec,Sem.run_bind,hg,Result.andThen_ok,(q2 op).2 h0,Sem.run_pure]
  |false=>
   simp only[Bool.false_eq_true,if_false]at h0
   refine A6 I (v:= .bool b) ?_ rfl
   simp only[execOp,ho,e,ec,Sem.run_bind,hg,Result.andThen_ok,(q2 op).1 h0,Sem.run_pure]
 split at h
 ·rename_i hv
  rw[hv]at r1
  cases h
  refine fin .nilIface true r1 (by cases neg<;>rfl) ?_ (fun l e=>by cases e) (fun k n e=>by cases e)
  exact AaK 9999 ht C.w
 ·rename_i hv
  rw[hv]at r1
  cases h
  obtain⟨u,z,e,_⟩:=r1
  exact fin (.iface u z) false e (by cases neg<;>rfl) (oL 9999 ht C.w) (fun l e=>by cases e) (fun k n e=>by cases e)
 ·cases h
theorem yZ(I:Inv tb C)(F:BK C f a nt){o:Oper}{op:BinOp}{t u t':TypeId}{j:TypeInfo}{neg:Bool}{x y:AO}{p q:Operand}(ho:o.op= .binOp op t p q t')(h0:op=if neg then .neq else .eql)(ht:P.underlying t=some (.pointer u))(hu:P.info? u=some j)
  (hx:BA x p=true) (hy:BA y q=true) {r:AV×Option Ay} (h:B6 tb cl (eval tb f) C.H (.eqp neg x y)=some r):Yields tb C r ((execOp a.eval o).run P C.w):=by
 have r1:=Bd I F hx
 have r2:=Bd I F hy
 simp only[B6]at h
 split at h
 ·rename_i i1 o1 i2 o2 hv1 hv2
  split at h
  ·rename_i hc
   obtain⟨rfl,rfl⟩:=hc
   cases h
   rw[hv1]at r1
   rw[hv2]at r2
   obtain⟨_,e1⟩:=r1
   obtain⟨_,e2⟩:=r2
   have hg:(eqGuard op t p q (.pointer (some ⟨(C.φ i1).blk,o1,none⟩)) (.pointer (some ⟨(C.φ i1).blk,o1,none⟩))).run P C.w= .ok () C.w:=Nz p q C.w (fun l e=>by cases e) (.inl fun e=>by cases e) op
   refine A6 I (v:= .bool (!neg)) ?_ rfl
   cases neg
   ·simp only[Bool.false_eq_true,if_false]at h0
    subst h0
    have:=run_eql_ptr_same (P:=P) C.w ⟨(C.φ i1).blk,o1,none⟩ ht hu
    simp only[execOp,ho,e1,e2,Sem.run_bind,hg,this,Result.andThen_ok,Sem.run_pure]
    rfl
   ·simp only[if_true]at h0
    subst h0
    have:=Lib.run_neq_ptr_same (P:=P) C.w ⟨(C.φ i1).blk,o1,none⟩ ht hu
    simp only[execOp,ho,e1,e2,Sem.run_bind,hg,this,Result.andThen_ok,Sem.run_pure]
    rfl
  ·cases h
 ·cases h
theorem yM(I:Inv tb C)(F:BK C f a nt){o:Oper}{c:Call}{x:AO}{y:Operand}(ho:o.op= .call c)(hc:c.callee= .builtin .unsafeSliceData)(ha:c.args= #[y])(hx:BA x y=true){r:AV×Option Ay}(h:B6 tb cl (eval tb f) C.H (.usd x)=some r):
  Yields tb C r ((execOp a.eval o).run P C.w):=by
 have r1:=Bd I F hx
 have run: ∀{v},(Builtin.unsafeSliceData_ c.argTypes o.type #[a.eval y]).run P C.w= .ok v C.w→(execOp a.eval o).run P C.w= .ok (.value v) C.w:=by
  intro v hv
  refine FH ho hc fun q=> ?_
  simp only[ha,List.map_toArray,List.map_cons,List.map_nil,builtin,Sem.run_bind,hv,Result.andThen_ok,Sem.run_pure]
 simp only[B6]at h
 split at h
 ·rename_i hv
  cases h
  rw[hv]at r1
  have e1:a.eval y= .slice none 0 0:=r1
  exact A6 I (v:= .pointer none) (run (by rw[e1];rfl)) rfl
 ·rename_i id n lo len hv
  obtain⟨q,hq,h⟩:=Option.bind_eq_some_iff.1 h
  split at h
  ·rename_i hcond
   obtain⟨hn,hle,hpos⟩:=hcond
   cases h
   rw[hv]at r1
   obtain⟨_,fz,sz,els,hg,hl,k⟩:=r1
   have hq':q=(fz,sz,els):=by rw[hg]at hq;exact(Option.some.inj hq).symm
   subst hq'
   obtain⟨_,off,cap,e1,hlc,hoff,hsize,hbo⟩:=k hn
   have hrun:=Lib.run_unsafeSliceData_row (P:=P) C.w c.argTypes o.type ⟨(C.φ id).blk,off,none⟩ len cap (by omega)
   refine A6 I (v:= .pointer (some ⟨(C.φ id).blk,off,none⟩)) (run (by rw[e1];exact hrun)) ?_
   exact⟨⟨_,rfl⟩,fz,sz,els,hg,hl,fun _=>by rw[hoff hpos,Nat.add_zero]⟩
  ·cases h
 ·cases h
theorem eU{e:TypeId}(hc:P.cellsOf e=1)(count off n:Nat)(hn:off+n≤count):liesAt P P.depth e count off e n=true:=by
 have hd:P.depth=(2*(P.types.size+Made.depth)+1)+1:=rfl
 rw[hd]
 simp only[liesAt,Bool.or_eq_true]
 left
 rw[hd]
 simp[Go.rowAt,hc,hn,sameLayout,Nat.mod_one]
theorem QG(w:World)(b:Nat): ∀(els:List (List AV)) (vss:List (List Value)) (l:List UInt8) (o:Nat) (acc:ByteArray),Bi C els vss→EX els=some l→En w b o vss.flatten→
  (loadBytes ⟨b,o,none⟩ acc els.length).run P w= .ok ⟨acc.data++l.toArray⟩ w
 |[],_,l,o,acc,_,h,_=>by
  simp only[EX,Option.some.injEq]at h
  subst h
  simp[loadBytes]
 |e::els,vss,l,o,acc,r,h,hh=>by
  obtain⟨v,q,e1,r1,r2⟩:=r
  subst e1
  unfold EX at h
  split at h
  ·rename_i he;cases he
  ·rename_i n r' he
   cases he
   obtain⟨l',hl,rfl⟩:=Option.map_eq_some_iff.1 h
   obtain⟨u,us,e2,ru,e3⟩:=r1
   have e3':us=[]:=e3
   have ru':u= .int .u8 n:=ru
   subst e3';subst e2;subst ru'
   have h0:w.cell? ⟨b,o,none⟩=some (.int .u8 n):=by
    have:=hh 0 (.int .u8 n) rfl
    simpa using this
   have hh':En w b (o+1) q.flatten:=fun j v hj=>by
    have:=hh (j+1) v (by simpa using hj)
    rwa [show o+(j+1)=o+1+j by omega]at this
   have ih:=QG w b els q l' (o+1) (acc.push n.toNat.toUInt8) r2 hl hh'
   simp only[List.length_cons,loadBytes,Sem.run_bind,run_load,h0,Result.andThen]
   have e4:(⟨b,o,none⟩:Addr).add 1=⟨b,o+1,none⟩:=rfl
   rw[e4,ih]
   congr 1
   apply ByteArray.ext
   simp[ByteArray.push]
  ·cases h
theorem yL(I:Inv tb C)(F:BK C f a nt){o:Oper}{c:Call}{pt it t:TypeId}{x n:AO}{y1 y2:Operand}(ho:o.op= .call c)(hc:c.callee= .builtin .unsafeString)(ha:c.args= #[y1,y2])(hty:c.argTypes= #[pt,it])(hp:P.underlying pt=some (.pointer t))(ht:P.cellsOf t=1)
  (hx:BA x y1=true) (hn:BA n y2=true) {r:AV×Option Ay} (h:B6 tb cl (eval tb f) C.H (.ust t x n)=some r):Yields tb C r ((execOp a.eval o).run P C.w):=by
 have r1:=Bd I F hx
 simp only[B6]at h
 obtain⟨k,hk,h⟩:=Option.bind_eq_some_iff.1 h
 obtain⟨k1,_,e2⟩:=KI (Bd I F hn) hk
 have run: ∀{v w},(Builtin.unsafeString_ #[pt,it] o.type #[a.eval y1, .int k1 k]).run P C.w= .ok v w→(execOp a.eval o).run P C.w= .ok (.value v) w:=by
  intro v w hv
  refine FH ho hc fun q=> ?_
  simp only[ha,hty,List.map_toArray,List.map_cons,List.map_nil,builtin,Sem.run_bind,e2,hv,Result.andThen_ok,Sem.run_pure]
 have hmax:IntKind.i64.max=9223372036854775807:=rfl
 have hdef: ∀q:Option Addr,Builtin.unsafeString_ #[pt,it] o.type #[.pointer q, .int k1 k]=
   (do
    let n←asInt (.int k1 k)
    if n<0 then runtimePanic (.error "unsafe.String: len out of range")
    if n>IntKind.i64.max then unsupported (.unsafePointer "String: a length above the largest int")
    match q with
    |none=>
     if n=0 then pure (.string .empty)
     else runtimePanic (.error "unsafe.String: ptr is nil and len is not zero")
    |some a=>
     if n=0 then pure (.string .empty)
     else if←variablesAt a (←elemOf pt) n.toNat then do
      let s←loadBytes a .empty n.toNat
      freeze a n.toNat
      pure (.string s)
     else unsupported (.unsafePointer "String: not so many bytes at ptr")):=fun _=>rfl
 split at h
 ·rename_i hv
  split at h
  ·rename_i hk0
   subst hk0
   cases h
   rw[hv]at r1
   have e1:a.eval y1= .pointer none:=r1
   refine A6 I (v:= .string .empty) (run ?_) rfl
   rw[e1,hdef]
   simp[asInt,asIntOf,hmax]
  ·cases h
 ·rename_i id m i off hv
  obtain⟨q,hq,g⟩:=Option.bind_eq_some_iff.1 h
  clear h
  split at g
  ·rename_i hcond
   obtain⟨hoff0,hpos,hm,hle,hsz,hlab,hmost⟩:=hcond
   subst hoff0
   obtain⟨l,hl,rfl⟩:=Option.map_eq_some_iff.1 g
   rw[hv]at r1
   obtain⟨_,fz,sz,els,hg,hl1,kk⟩:=r1
   have hq':q=(fz,sz,els):=by rw[hg]at hq;exact(Option.some.inj hq).symm
   subst hq'
   simp only at hm hle hsz hl
   subst hsz
   have e1:=kk hm
   obtain⟨tl,hg',hlab'⟩:=Kp hg
   obtain⟨vss,arr,et,fr,⟨h1,hfr0,hlb⟩,h2,h3,h4,h5,h6,h7,h8,h9⟩:=I.obj id _ hg'
   have het:et=t:=hlb t (by rw[←hlab',hlab])
   subst het
   have hlens:=Bi.lens (fun x hx=>(h4 x hx).1) h5
   have hkn:((els.drop i).take k.toNat).length=k.toNat:=by simp only[List.length_take,List.length_drop];omega
   have hh:En C.w (C.φ id).blk ((C.φ id).base+i) ((vss.drop i).take k.toNat).flatten:=by
    have:=h7.sub (i*1) (k.toNat*1)
    rw[Nat.mul_one]at this
    intro j v hj
    refine this j v ?_
    rw[EW (sz:=1) _ _ (fun x hx=>hlens x (List.mem_of_mem_drop hx)),FM (sz:=1) _ _ hlens]at hj
    simpa using hj
   have hload:=QG (P:=P) (C:=C) C.w (C.φ id).blk _ _ l ((C.φ id).base+i) .empty (Bi.take (n:=k.toNat) (Bi.drop (n:=i) h5)) hl hh
   rw[hkn]at hload
   have hsh:C.w.shape? (C.φ id).blk=some (et,arr.size):=by simp only[World.shape?,h1]
   have hlies:=eU (P:=P) ht (arr.size/P.cellsOf et) ((C.φ id).base+i) k.toNat (by rw[ht,Nat.div_one,h2];omega)
   let w':=C.w.freeze ⟨(C.φ id).blk,(C.φ id).base+i,none⟩ k.toNat
   have hk0:k.toNat≠0:=by omega
   let fr':Nat×Nat:=if fr.1==fr.2 then((C.φ id).base+i,(C.φ id).base+i+k.toNat)else(min fr.1 ((C.φ id).base+i),max fr.2 ((C.φ id).base+i+k.toNat))
   have hnew:w'.heap[(C.φ id).blk]? =some (.cells arr et fr'):=by
    show(C.w.freeze ⟨(C.φ id).blk,(C.φ id).base+i,none⟩ k.toNat).heap[(C.φ id).blk]? =_
    unfold World.freeze
    rw[if_neg hk0]
    simp only[Array.getElem?_modify,if_true,h1,Option.map_some]
    rfl
   have hother: ∀b,b≠(C.φ id).blk→w'.heap[b]? =C.w.heap[b]? :=fun b hb=>by
    show(C.w.freeze ⟨(C.φ id).blk,(C.φ id).base+i,none⟩ k.toNat).heap[b]? =_
    unfold World.freeze
    rw[if_neg hk0]
    simp only[Array.getElem?_modify,if_neg (Ne.symm hb)]
   have hsz':w'.heap.size=C.w.heap.size:=by
    show(C.w.freeze ⟨(C.φ id).blk,(C.φ id).base+i,none⟩ k.toNat).heap.size=_
    unfold World.freeze
    rw[if_neg hk0]
    simp
   have hfr1:fr'.1≤fr'.2:=by
    show(if fr.1==fr.2 then((C.φ id).base+i,(C.φ id).base+i+k.toNat)else(min fr.1 ((C.φ id).base+i),max fr.2 ((C.φ id).base+i+k.toNat))).1≤(if fr.1==fr.2 then((C.φ id).base+i,(C.φ id).base+i+k.toNat)else(min fr.1 ((C.φ id).base+i),max fr.2 ((C.φ id).base+i+k.toNat))).2
    split
    ·simp
    ·simp only;omega
   have hrest:Rest C.w w':=by
    show Rest C.w (C.w.freeze ⟨(C.φ id).blk,(C.φ id).base+i,none⟩ k.toNat)
    unfold World.freeze
    rw[if_neg hk0]
    exact⟨rfl,rfl,rfl⟩
   obtain⟨X,hI⟩:=yJ (D:=⟨C.φ,C.H.set id (C6.row tl true 1 els),w'⟩) I hrest hg' (o':=C6.row tl true 1 els) rfl (fun _ _=>rfl) (by show C.w.heap.size≤w'.heap.size;omega) (fun b _ hne=>hother b hne) (.inl rfl) (fun e=>by cases e)
    (fun _ fz' sz' els' e=>by cases e;exact⟨_,_,_,rfl,Nat.le_refl _,fun _=>rfl⟩)
   have hcell: ∀q,w'.cell? ⟨(C.φ id).blk,q,none⟩=C.w.cell? ⟨(C.φ id).blk,q,none⟩:=fun q=>by simp only[World.cell?,hnew,h1]
   refine⟨_,X,hI ⟨vss,arr,et,fr',⟨hnew,hfr1,hlb⟩,h2,h3,h4,Bi.ext X h5,h6,fun j v hj=>by rw[hcell];exact h7 j v hj,fun f=>(by cases f),fun f=>(by cases f)⟩,by simp only[Option.getD_some,hlab'], .inl ⟨.string ⟨l.toArray⟩,run ?_,rfl⟩⟩
   rw[e1,Nat.mul_one,Nat.add_zero]
   have h63: ¬k>IntKind.i64.max:=by rw[hmax];unfold Di at hmost;omega
   have hneg: ¬k<0:=by omega
   have hk00: ¬k=0:=by omega
   rw[hdef]
   have h63': ¬(9223372036854775807:Int)<k:=by rw[hmax]at h63;exact h63
   simp[asInt,asIntOf,hmax,h63',hneg,hk00,variablesAt,hsh,elemOf,AA hp,hlies,hload]
   rfl
  ·cases g
 ·cases h
end
end Go.Proofs.YtobejhpigbllpaaGreatDoor.Am
namespace Go.Proofs.YtobejhpigbllpaaGreatDoor.Am
def pF(tb:Dh)(C:DP)(r:AV×Option Ay)(e:Ending)(w:World):Prop:=
 ∃(v:Value) (D:DP),e= .returned v∧KU C D∧Inv tb D∧D.w=w∧D.H=r.2.getD C.H∧HA D r.1 v
def yB(P:Program)(tb:Dh)(C:DP)(r:AV×Option Ay)(x:Result Next):Prop:=
 Yields tb C r x∨ ∃(g:Nat) (vs:Array Value),x= .ok (.enter g vs) C.w∧Calls P g vs C.w (pF tb C r)
def Fw(P:Program)(tb:Dh)(cl:Nat→List AV→Ay→Lk):Prop:=
 ∀(g:Nat) (C:DP) (args:List AV) (vs:List Value) (r:AV×Option Ay),Inv tb C→B0 C args vs→cl g args C.H=some r→yB P tb C r ((callFunc g vs.toArray).run P C.w)
def pE(P:Program)(tb:Dh):Prop:= ∀g p,tb.prim g=some p→Fw P tb fun g' args h=>if g'=g then p args h else none
theorem OM{P:Program}{tb:Dh}{cl:Nat→List AV→Ay→Lk}(hp:pE P tb)(hc:Fw P tb cl):Fw P tb fun g args h=>B8 tb cl h g args:=by
 intro g C args vs r I hr h
 simp only[B8]at h
 split at h
 ·rename_i p hpg
  exact hp g p hpg g C args vs r I hr (by simpa using h)
 ·exact hc g C args vs r I hr h
theorem TO{P:Program}{tb:Dh}{C:DP}{a:Act}{o:Oper}{r:AV×Option Ay}(h:yB P tb C r ((execOp a.eval o).run P C.w)){next:Act→World→Prop}{Q:Exit→Act→World→Prop}
  (k: ∀(v:Value) (D:DP),KU C D→Inv tb D→D.H=r.2.getD C.H→HA D r.1 v→next (a.put o.dst v) D.w):o.wp P a C.w next Q:=by
 rcases h with h|⟨g,vs,e,hc⟩
 ·exact Z9 h k
 ·unfold Oper.wp
  rw[e]
  refine hc.mono fun e w' ⟨v,D,he,X,I,hw,hH,hr⟩=> ?_
  subst he
  subst hw
  exact k v D X I hH hr
def EC(P:Program)(tb:Dh)(ao:H6)(o:Oper):Prop:=
 ∀{cl:Nat→List AV→Ay→Lk} {C:DP} {f:Fr} {a:Act} {nt:Nat} {r:AV×Option Ay},Fw P tb (fun g args h=>B8 tb cl h g args)→Inv tb C→BK C f a nt→
  B6 tb cl (eval tb f) C.H ao=some r→yB P tb C r ((execOp a.eval o).run P C.w)
section
variable{P:Program}{tb:Dh}{o:Oper}
def isSlice(P:Program)(t e:TypeId):Bool:=match P.underlying t with
 |some (.slice e')=>e==e'
 |_=>false
def N4(P:Program)(t:TypeId):Option TypeId:=match P.underlying t with
 |some (.slice e)=>some e
 |_=>none
theorem FZ{t e:TypeId}(h:N4 P t=some e):P.underlying t=some (.slice e):=by
 unfold N4 at h
 split at h
 ·rename_i e' hu;rw[hu];simp at h;rw[h]
 ·cases h
def mS(P:Program)(t:TypeId):Option (Nat×TypeId):=match P.underlying t with
 |some (.array n e)=>some (n,e)
 |_=>none
theorem NB{t e:TypeId}{n:Nat}(h:mS P t=some (n,e)):P.underlying t=some (.array n e):=by
 unfold mS at h
 split at h
 ·rename_i n' e' hu;rw[hu];simp at h;rw[h.1,h.2]
 ·cases h
def ZD(P:Program)(t:TypeId):Option (Array Field):=match P.underlying t with
 |some (.struct fs)=>some fs
 |_=>none
theorem ZC{t:TypeId}{fs:Array Field}(h:ZD P t=some fs):P.underlying t=some (.struct fs):=by
 unfold ZD at h
 split at h
 ·rename_i fs' hu;rw[hu];simp at h;rw[h]
 ·cases h
def QN(P:Program)(t:TypeId):Bool:=match P.underlying t with
 |some .string=>true
 |_=>false
theorem IK{t:TypeId}(h:QN P t=true):P.underlying t=some .string:=by
 unfold QN at h
 split at h
 ·assumption
 ·cases h
def vT(P:Program)(t:TypeId):Option IntKind:=match P.underlying t with
 |some (.int k)=>some k
 |_=>none
theorem lJ{t:TypeId}{k:IntKind}(h:vT P t=some k):P.underlying t=some (.int k):=by
 unfold vT at h
 split at h
 ·rename_i fs' hu;rw[hu];simp at h;rw[h]
 ·cases h
def oE(P:Program)(t:TypeId):Bool:=match P.underlying t with
 |some (.interface _)=>true
 |_=>false
def okMv(P:Program)(x:AO)(o:Oper):Bool:=match o.op with
 | .move y=>BA x y
 | .assign y=>BA x y
 | .call c=>match c.callee,c.args.toList,(c.argTypes[0]?).bind (mS P),x with
  | .builtin .len,[_],some (n,_), .k (.i .i64 m)=>m==n
  |_,_,_,_=>false
 |_=>false
theorem ok_mv{x:AO}(h:okMv P x o=true):EC P tb (.mv x) o:=by
 intro cl C f a nt r hc I F hr
 simp only[B6,Option.some.injEq]at hr
 subst hr
 unfold okMv at h
 split at h
 ·rename_i y ho;exact .inl (tE I F (.inl ho) h)
 ·rename_i y ho;exact .inl (tE I F (.inr ho) h)
 ·rename_i c ho
  split at h
  ·rename_i y n e m hcal hargs hty
   have hm:m=(n:Int):=by simpa using h
   subst hm
   obtain⟨t,ht,hu⟩:=Option.bind_eq_some_iff.1 hty
   have hargs':c.args= #[y]:=by rw[←Array.toList_inj,hargs]
   refine .inl (A6 I (v:= .int .i64 n) (FH ho hcal fun q=> ?_) rfl)
   simp[hargs',builtin,Builtin.len_,ht,AA (NB hu),goInt]
  ·cases h
 ·cases h
def kN(x y z:AO)(o:Oper):Bool:=match o.op with
 | .pick a b c=>BA x a&&BA y b&&BA z c
 |_=>false
theorem zU{x y z:AO}(h:kN x y z o=true):EC P tb (.pick x y z) o:=by
 intro cl C f a nt r hc I F hr
 unfold kN at h
 split at h
 ·rename_i a b c ho
  simp only[Bool.and_eq_true]at h
  simp only[B6]at hr
  split at hr
  ·rename_i t ht
   simp only[Option.some.injEq]at hr
   subst hr
   exact .inl (tC I F ho h.1.1 h.1.2 h.2 ht)
  ·cases hr
 ·cases h
def aI(P:Program)(t0:Nat)(z:List AV)(o:Oper):Bool:=match o.op with
 | .alloc t=>match(P.info? t).bind (·.zero)with
  |some zv=>Nat.beq t0 t&&Rm z zv.cells.toList
  |none=>false
 |_=>false
theorem uC{t0:Nat}{z:List AV}(h:aI P t0 z o=true):EC P tb (.alloc t0 z) o:=by
 intro cl C f a nt r hc I F hr
 unfold aI at h
 split at h
 ·rename_i t ho
  split at h
  ·rename_i zv hz
   obtain⟨i,hi,hz2⟩:=Option.bind_eq_some_iff.1 hz
   simp only[B6,Option.some.injEq]at hr
   subst hr
   rw[Bool.and_eq_true]at h
   obtain rfl:=Nat.eq_of_beq_eq_true h.1
   exact .inl (pP I ho hi hz2 h.2)
  ·cases h
 ·cases h
def uZ(t0 n:Nat)(x:AO)(o:Oper):Bool:=match o.op with
 | .box t y=>(BA x y&&decide (0<n))&&Nat.beq t0 t
 |_=>false
theorem ok_box{t0 n:Nat}{x:AO}(h:uZ t0 n x o=true):EC P tb (.box t0 n x) o:=by
 intro cl C f a nt r hc I F hr
 unfold uZ at h
 split at h
 ·rename_i t y ho
  rw[Bool.and_eq_true]at h
  obtain rfl:=Nat.eq_of_beq_eq_true h.2
  replace h:=h.1
  simp only[Bool.and_eq_true,decide_eq_true_eq]at h
  simp only[B6]at hr
  split at hr
  ·rename_i hn
   simp only[Option.some.injEq]at hr
   subst hr
   exact .inl (zI I F ho h.1 (by omega))
  ·cases hr
 ·cases h
def okLd(P:Program)(ag:Bool)(n:Nat)(x:AO)(o:Oper):Bool:=match o.op with
 | .load t y=>BA x y&&(P.underlying t).isSome&&ag==GQ P t&&n==P.cellsOf t
 |_=>false
theorem ok_ld{ag:Bool}{n:Nat}{x:AO}(h:okLd P ag n x o=true):EC P tb (.ld ag n x) o:=by
 intro cl C f a nt r hc I F hr
 unfold okLd at h
 split at h
 ·rename_i t y ho
  simp only[Bool.and_eq_true,beq_iff_eq]at h
  obtain⟨⟨⟨h1,h2⟩,rfl⟩,rfl⟩:=h
  exact .inl (sim_ld I F ho h1 h2 hr)
 ·cases h
def okSt(P:Program)(n:Nat)(x z:AO)(o:Oper):Bool:=match o.op with
 | .store t y u=>BA x y&&BA z u&&(P.info? t).isSome&&n==P.cellsOf t&&decide (0<n)
 |_=>false
theorem ok_st{n:Nat}{x z:AO}(h:okSt P n x z o=true):EC P tb (.st n x z) o:=by
 intro cl C f a nt r hc I F hr
 unfold okSt at h
 split at h
 ·rename_i t y u ho
  simp only[Bool.and_eq_true,beq_iff_eq,decide_eq_true_eq]at h
  obtain⟨⟨⟨⟨h1,h2⟩,h3⟩,rfl⟩,h4⟩:=h
  simp only[B6]at hr
  obtain⟨H',hs,rfl⟩:=Option.map_eq_some_iff.1 hr
  exact .inl (sim_st I F ho h1 h2 h3 h4 hs)
 ·cases h
def kO(x:AO)(o:Oper):Bool:=match o.op with
 | .nilCheck y=>BA x y
 |_=>false
theorem zV{x:AO}(h:kO x o=true):EC P tb (.nilc x) o:=by
 intro cl C f a nt r hc I F hr
 unfold kO at h
 split at h
 ·rename_i y ho;exact .inl (tD I F ho h hr)
 ·cases h
def vB(op:BinOp)(x y:AO)(o:Oper):Bool:=match o.op with
 | .binOp op' _ u v _=>op==op'&&BA x u&&BA y v
 |_=>false
theorem ok_bin{op:BinOp}{x y:AO}(h:vB op x y o=true):EC P tb (.bin op x y) o:=by
 intro cl C f a nt r hc I F hr
 unfold vB at h
 split at h
 ·rename_i op' t u v t' ho
  simp only[Bool.and_eq_true,beq_iff_eq]at h
  obtain⟨⟨rfl,h1⟩,h2⟩:=h
  exact .inl (zN I F ho h1 h2 hr)
 ·cases h
def okUn(op:UnOp)(x:AO)(o:Oper):Bool:=match o.op with
 | .unOp op' _ u=>op==op'&&BA x u
 |_=>false
theorem ok_un{op:UnOp}{x:AO}(h:okUn op x o=true):EC P tb (.un op x) o:=by
 intro cl C f a nt r hc I F hr
 unfold okUn at h
 split at h
 ·rename_i op' t u ho
  simp only[Bool.and_eq_true,beq_iff_eq]at h
  obtain⟨rfl,h1⟩:=h
  exact .inl (sim_un I F ho h1 hr)
 ·cases h
def uX(P:Program)(k:IntKind)(x:AO)(o:Oper):Bool:=match o.op with
 | .convert s d y=>BA x y&&(P.underlying s).isSome&&vT P d==some k
 |_=>false
theorem ok_cvi{k:IntKind}{x:AO}(h:uX P k x o=true):EC P tb (.cvi k x) o:=by
 intro cl C f a nt r hc I F hr
 unfold uX at h
 split at h
 ·rename_i s d y ho
  simp only[Bool.and_eq_true,beq_iff_eq]at h
  simp only[B6]at hr
  split at hr
  ·rename_i k' n hn
   simp only[Option.some.injEq]at hr
   subst hr
   exact .inl (zE I F ho h.1.2 (lJ h.2) h.1.1 (by rw[hn];rfl))
  ·cases hr
 ·cases h
def kT(P:Program)(x:AO)(o:Oper):Bool:=match o.op with
 | .convert s d y=>BA x y&&(P.underlying s).isSome&&QN P d
 |_=>false
theorem ok_cvc{x:AO}(h:kT P x o=true):EC P tb (.cvc x) o:=by
 intro cl C f a nt r hc I F hr
 unfold kT at h
 split at h
 ·rename_i s d y ho
  simp only[Bool.and_eq_true]at h
  simp only[B6]at hr
  split at hr
  ·rename_i k n hn
   simp only[Option.some.injEq]at hr
   subst hr
   exact .inl (zF I F ho h.1.2 (IK h.2) h.1.1 (by rw[hn];rfl))
  ·cases hr
 ·cases h
def kP(P:Program)(t:TypeId)(x:AO)(o:Oper):Bool:=match o.op with
 | .makeInterface t' y=>t==t'&&BA x y&&(P.underlying t).isSome&& !oE P t
 |_=>false
theorem zW{t:TypeId}{x:AO}(h:kP P t x o=true):EC P tb (.mkif t x) o:=by
 intro cl C f a nt r hc I F hr
 unfold kP at h
 split at h
 ·rename_i t' y ho
  simp only[Bool.and_eq_true,beq_iff_eq,Bool.not_eq_true']at h
  obtain⟨⟨⟨rfl,h1⟩,h2⟩,h3⟩:=h
  simp only[B6,Option.some.injEq]at hr
  subst hr
  refine .inl (tF I F ho (fun m hm=> ?_) h2 h1)
  simp[oE,hm]at h3
 ·cases h
def uR(x:AO)(i:Nat)(o:Oper):Bool:=match o.op with
 | .extract y j=>BA x y&&i==j
 |_=>false
theorem ok_ext{x:AO}{i:Nat}(h:uR x i o=true):EC P tb (.ext x i) o:=by
 intro cl C f a nt r hc I F hr
 unfold uR at h
 split at h
 ·rename_i y j ho
  simp only[Bool.and_eq_true,beq_iff_eq]at h
  obtain⟨h1,rfl⟩:=h
  simp only[B6]at hr
  split at hr
  ·rename_i vs hv
   simp only[val]at hr
   obtain⟨v,hv',rfl⟩:=Option.map_eq_some_iff.1 hr
   exact .inl (yY I F ho h1 hv hv')
  ·cases hr
 ·cases h
def Y8(o:Oper):Option (Builtin×List Operand×List TypeId):=match o.op with
 | .call c=>match c.callee with
  | .builtin b=>some (b,c.args.toList,c.argTypes.toList)
  |_=>none
 |_=>none
theorem Ik{b:Builtin}{l:List Operand}{ts:List TypeId}(h:Y8 o=some (b,l,ts)): ∃c:Call,o.op= .call c∧c.callee= .builtin b∧c.args=l.toArray∧c.argTypes=ts.toArray:=by
 unfold Y8 at h
 split at h
 ·rename_i c ho
  split at h
  ·rename_i b' hb
   simp only[Option.some.injEq,Prod.mk.injEq]at h
   obtain⟨rfl,rfl,rfl⟩:=h
   exact⟨c,ho,hb,by simp,by simp⟩
  ·cases h
 ·cases h
def uM(P:Program)(x:AO)(o:Oper):Bool:=match Y8 o with
 |some (.len,[y],[t])=>BA x y&&(N4 P t).isSome
 |_=>false
theorem ok_len{x:AO}(h:uM P x o=true):EC P tb (.len x) o:=by
 intro cl C f a nt r hc I F hr
 unfold uM at h
 split at h
 ·rename_i y t hb
  obtain⟨c,ho,hcal,ha,ht⟩:=Ik hb
  simp only[Bool.and_eq_true]at h
  obtain⟨e,he⟩:=Option.isSome_iff_exists.1 h.2
  simp only[B6]at hr
  obtain⟨n,hn,rfl⟩:=Option.map_eq_some_iff.1 hr
  exact .inl (yT I F ho hcal (by rw[ht];rfl) ha h.1 hn (FZ he))
 ·cases h
def kQ(P:Program)(x:AO)(o:Oper):Bool:=match Y8 o with
 |some (.len,[y],[t])=>BA x y&&QN P t
 |_=>false
theorem zX{x:AO}(h:kQ P x o=true):EC P tb (.lens x) o:=by
 intro cl C f a nt r hc I F hr
 unfold kQ at h
 split at h
 ·rename_i y t hb
  obtain⟨c,ho,hcal,ha,ht⟩:=Ik hb
  simp only[Bool.and_eq_true]at h
  simp only[B6]at hr
  split at hr
  ·rename_i l hl
   simp only[Option.some.injEq]at hr
   subst hr
   exact .inl (tG I F ho hcal (by rw[ht];rfl) ha h.1 hl (IK h.2))
  ·cases hr
 ·cases h
def okFa(P:Program)(off:Nat)(x:AO)(o:Oper):Bool:=match o.op with
 | .fieldAddr t y i=>match(ZD P t).bind (·[i]?)with
  |some fd=>BA x y&&off==fd.offset&&(P.info? fd.type).isSome&&decide (0<P.cellsOf fd.type)
  |none=>false
 |_=>false
theorem ok_fa{off:Nat}{x:AO}(h:okFa P off x o=true):EC P tb (.fa off x) o:=by
 intro cl C f a nt r hc I F hr
 unfold okFa at h
 split at h
 ·rename_i t y i ho
  split at h
  ·rename_i fd hfd
   obtain⟨fs,hs,hf⟩:=Option.bind_eq_some_iff.1 hfd
   simp only[Bool.and_eq_true,beq_iff_eq,decide_eq_true_eq]at h
   obtain⟨⟨⟨h1,rfl⟩,h2⟩,h3⟩:=h
   exact .inl (sim_fa I F ho (ZC hs) hf h2 (by omega) h1 hr)
  ·cases h
 ·cases h
def uP(P:Program)(sz:Nat)(x i:AO)(o:Oper):Bool:=match o.op with
 | .indexAddr t y j=>match N4 P t with
  |some e=>BA x y&&BA i j&&(P.info? e).isSome&&sz==P.cellsOf e
  |none=>false
 |_=>false
theorem ok_ias{sz:Nat}{x i:AO}(h:uP P sz x i o=true):EC P tb (.ias sz x i) o:=by
 intro cl C f a nt r hc I F hr
 unfold uP at h
 split at h
 ·rename_i t y j ho
  split at h
  ·rename_i e he
   simp only[Bool.and_eq_true,beq_iff_eq]at h
   obtain⟨⟨⟨h1,h2⟩,h3⟩,rfl⟩:=h
   simp only[B6]at hr
   obtain⟨n,hn,hr⟩:=Option.bind_eq_some_iff.1 hr
   split at hr
   ·rename_i h0
    exact .inl (yW I F ho (FZ he) h3 h1 h2 hn h0 hr)
   ·cases hr
  ·cases h
 ·cases h
def uQ(P:Program)(len sz:Nat)(x i:AO)(o:Oper):Bool:=match o.op with
 | .indexAddr t y j=>match mS P t with
  |some (n,e)=>BA x y&&BA i j&&(P.info? e).isSome&&len==n&&sz==P.cellsOf e
  |none=>false
 |_=>false
theorem ok_iaa{len sz:Nat}{x i:AO}(h:uQ P len sz x i o=true):EC P tb (.iaa len sz x i) o:=by
 intro cl C f a nt r hc I F hr
 unfold uQ at h
 split at h
 ·rename_i t y j ho
  split at h
  ·rename_i n e he
   simp only[Bool.and_eq_true,beq_iff_eq]at h
   obtain⟨⟨⟨⟨h1,h2⟩,h3⟩,rfl⟩,rfl⟩:=h
   simp only[B6]at hr
   obtain⟨m,hm,hr⟩:=Option.bind_eq_some_iff.1 hr
   split at hr
   ·rename_i h0
    exact .inl (yX I F ho (NB he) h3 h1 h2 hm h0 hr)
   ·cases hr
  ·cases h
 ·cases h
def uO(P:Program)(len sz:Nat)(ag:Bool)(x i:AO)(o:Oper):Bool:=match o.op with
 | .index t y j=>match mS P t with
  |some (n,e)=>BA x y&&BA i j&&(P.underlying e).isSome&&len==n&&sz==P.cellsOf e&&ag==GQ P e
  |none=>false
 |_=>false
theorem ok_ixa{len sz:Nat}{ag:Bool}{x i:AO}(h:uO P len sz ag x i o=true):EC P tb (.ixa len sz ag x i) o:=by
 intro cl C f a nt r hc I F hr
 unfold uO at h
 split at h
 ·rename_i t y j ho
  split at h
  ·rename_i n e he
   simp only[Bool.and_eq_true,beq_iff_eq]at h
   obtain⟨⟨⟨⟨⟨h1,h2⟩,h3⟩,rfl⟩,rfl⟩,rfl⟩:=h
   simp only[B6]at hr
   obtain⟨m,hm,hr⟩:=Option.bind_eq_some_iff.1 hr
   split at hr
   ·rename_i cs hv
    split at hr
    ·rename_i h0
     simp only[val]at hr
     obtain⟨v,hv',rfl⟩:=Option.map_eq_some_iff.1 hr
     exact .inl (yV I F ho (NB he) h3 h1 h2 hm hv ⟨h0.1,h0.2.1⟩ h0.2.2 hv')
    ·cases hr
   ·cases hr
  ·cases h
 ·cases h
def uN(P:Program)(x i:AO)(o:Oper):Bool:=match o.op with
 | .index t y j=>BA x y&&BA i j&&QN P t
 |_=>false
theorem ok_ixs{x i:AO}(h:uN P x i o=true):EC P tb (.ixs x i) o:=by
 intro cl C f a nt r hc I F hr
 unfold uN at h
 split at h
 ·rename_i t y j ho
  simp only[Bool.and_eq_true]at h
  obtain⟨⟨h1,h2⟩,h3⟩:=h
  simp only[B6]at hr
  obtain⟨n,hn,hr⟩:=Option.bind_eq_some_iff.1 hr
  split at hr
  ·rename_i l hl
   split at hr
   ·rename_i h0
    obtain⟨v,hv',rfl⟩:=Option.map_eq_some_iff.1 hr
    exact .inl (yU I F ho (IK h3) h1 h2 hn hl h0 hv')
   ·cases hr
  ·cases hr
 ·cases h
def uF(P:Program)(x:AO)(lo hi:Option AO)(o:Oper):Bool:=match o.op with
 | .slice t y ylo yhi none=>BA x y&&YX lo ylo&&YX hi yhi&&QN P t
 |_=>false
theorem ok_sls{x:AO}{lo hi:Option AO}(h:uF P x lo hi o=true):EC P tb (.sls x lo hi) o:=by
 intro cl C f a nt r hc I F hr
 unfold uF at h
 split at h
 ·rename_i t y ylo yhi ho
  simp only[Bool.and_eq_true]at h
  obtain⟨⟨⟨h1,h2⟩,h3⟩,h4⟩:=h
  simp only[B6]at hr
  split at hr
  ·rename_i l hl
   obtain⟨⟨p,q⟩,hb,rfl⟩:=Option.map_eq_some_iff.1 hr
   exact .inl (yN I F ho (IK h4) h1 h2 h3 hl hb)
  ·cases hr
 ·cases h
def uG(P:Program)(sz:Nat)(x:AO)(lo hi:Option AO)(o:Oper):Bool:=match o.op with
 | .slice t y ylo yhi none=>match N4 P t with
  |some e=>BA x y&&YX lo ylo&&YX hi yhi&&(P.info? e).isSome&&sz==P.cellsOf e
  |none=>false
 |_=>false
theorem ok_sll{sz:Nat}{x:AO}{lo hi:Option AO}(h:uG P sz x lo hi o=true):EC P tb (.sll sz x lo hi) o:=by
 intro cl C f a nt r hc I F hr
 unfold uG at h
 split at h
 ·rename_i t y ylo yhi ho
  split at h
  ·rename_i e he
   simp only[Bool.and_eq_true,beq_iff_eq]at h
   obtain⟨⟨⟨⟨h1,h2⟩,h3⟩,h4⟩,rfl⟩:=h
   simp only[B6]at hr
   obtain⟨len,hl,hr⟩:=Option.bind_eq_some_iff.1 hr
   obtain⟨⟨p,q⟩,hb,hr⟩:=Option.bind_eq_some_iff.1 hr
   exact .inl (yO I F ho (FZ he) h4 h1 h2 h3 hl hb hr)
  ·cases h
 ·cases h
def xN(P:Program)(t:TypeId):Option (Nat×TypeId):=match P.underlying t with
 |some (.array n e)=>some (n,e)
 |some (.pointer u)=>mS P u
 |_=>none
theorem mR{t e:TypeId}{n:Nat}(h:xN P t=some (n,e)):P.underlying t=some (.array n e)∨ ∃u,P.underlying t=some (.pointer u)∧P.underlying u=some (.array n e):=by
 unfold xN at h
 split at h
 ·rename_i n' e' hu;rw[hu];simp at h;left;rw[h.1,h.2]
 ·rename_i u hu;exact .inr ⟨u,hu,NB h⟩
 ·cases h
def uH(P:Program)(n sz:Nat)(x:AO)(lo hi:Option AO)(o:Oper):Bool:=match o.op with
 | .slice t y ylo yhi none=>match xN P t with
  |some (m,e)=>BA x y&&YX lo ylo&&YX hi yhi&&(P.info? e).isSome&&n==m&&sz==P.cellsOf e&&decide (0<sz)
  |none=>false
 |_=>false
theorem ok_sla{n sz:Nat}{x:AO}{lo hi:Option AO}(h:uH P n sz x lo hi o=true):EC P tb (.sla n sz x lo hi) o:=by
 intro cl C f a nt r hc I F hr
 unfold uH at h
 split at h
 ·rename_i t y ylo yhi ho
  split at h
  ·rename_i m e he
   simp only[Bool.and_eq_true,beq_iff_eq,decide_eq_true_eq]at h
   obtain⟨⟨⟨⟨⟨⟨h1,h2⟩,h3⟩,h4⟩,rfl⟩,rfl⟩,h5⟩:=h
   simp only[B6]at hr
   obtain⟨⟨p,q⟩,hb,hr⟩:=Option.bind_eq_some_iff.1 hr
   exact .inl (yP I F ho h4 h5 (mR he) h1 h2 h3 hb hr)
  ·cases h
 ·cases h
def vC(P:Program)(t0 sz bytes:Nat)(s x:AO)(o:Oper):Bool:=match Y8 o with
 |some (.append,[y1,y2],[t,u])=>BA s y1&&BA x y2&&((N4 P u).isSome||QN P u)&&match N4 P t with
  |some e=>sz==P.cellsOf e&&decide (0<sz)&&match P.info? e with
   |some i=>bytes==i.bytes&&decide (0<bytes)&&match i.zero with
    |some z=>z.cells.size==sz&&Nat.beq t0 e
    |none=>false
   |none=>false
  |none=>false
 |_=>false
theorem ok_app{t0 sz bytes:Nat}{s x:AO}(h:vC P t0 sz bytes s x o=true):EC P tb (.app t0 sz bytes s x) o:=by
 intro cl C f a nt r hc I F hr
 unfold vC at h
 split at h
 ·rename_i y1 y2 t u hb
  obtain⟨c,ho,hcal,ha,ht⟩:=Ik hb
  simp only[Bool.and_eq_true,Bool.or_eq_true]at h
  obtain⟨⟨⟨h1,h2⟩,h3⟩,h4⟩:=h
  split at h4
  ·rename_i e he
   simp only[Bool.and_eq_true,beq_iff_eq,decide_eq_true_eq]at h4
   obtain⟨⟨rfl,h5⟩,h6⟩:=h4
   split at h6
   ·rename_i i hi
    simp only[Bool.and_eq_true,beq_iff_eq,decide_eq_true_eq]at h6
    obtain⟨⟨rfl,h7⟩,h8⟩:=h6
    split at h8
    ·rename_i z hz
     rw[Bool.and_eq_true]at h8
     obtain rfl:=Nat.eq_of_beq_eq_true h8.2
     replace h8:=h8.1
     simp only[beq_iff_eq]at h8
     simp only[B6]at hr
     obtain⟨new,hn,hr⟩:=Option.bind_eq_some_iff.1 hr
     refine .inl (zO I F ho hcal (by rw[ha]) (by rw[ht]) (FZ he) ?_ hi hz h8 h5 h7 h1 h2 hn hr)
     rcases h3 with h3|h3
     ·obtain⟨e',he'⟩:=Option.isSome_iff_exists.1 h3
      exact⟨_,FZ he',fun k hk=>(by cases hk)⟩
     ·exact⟨_,IK h3,fun k hk=>(by cases hk)⟩
    ·cases h8
   ·cases h6
  ·cases h4
 ·cases h
def uY(P:Program)(sz:Nat)(d x:AO)(o:Oper):Bool:=match Y8 o with
 |some (.copy,[y1,y2],t::_)=>BA d y1&&BA x y2&&match N4 P t with
  |some e=>sz==P.cellsOf e&&decide (0<sz)&&(P.info? e).isSome
  |none=>false
 |_=>false
theorem ok_cpy{sz:Nat}{d x:AO}(h:uY P sz d x o=true):EC P tb (.cpy sz d x) o:=by
 intro cl C f a nt r hc I F hr
 unfold uY at h
 split at h
 ·rename_i y1 y2 t ts hb
  obtain⟨c,ho,hcal,ha,ht⟩:=Ik hb
  simp only[Bool.and_eq_true]at h
  obtain⟨⟨h1,h2⟩,h4⟩:=h
  split at h4
  ·rename_i e he
   simp only[Bool.and_eq_true,beq_iff_eq,decide_eq_true_eq]at h4
   obtain⟨⟨rfl,h5⟩,h6⟩:=h4
   simp only[B6]at hr
   obtain⟨src,hn,hr⟩:=Option.bind_eq_some_iff.1 hr
   exact .inl (zH I F ho hcal ha ht (by simp) (FZ he) h6 h5 h1 h2 hn hr)
  ·cases h4
 ·cases h
theorem ok_die:EC P tb .die o:=by
 intro cl C f a nt r hc I F hr
 simp[B6]at hr
def kV(g:Nat)(xs:List AO)(o:Oper):Bool:=match o.op with
 | .call c=>match c.callee with
  | .value (.func g')=>g==g'&&Wm xs c.args.toList
  |_=>false
 |_=>false
theorem Aa0{g:Nat}{xs:List AO}(h:kV g xs o=true):EC P tb (.call g xs) o:=by
 intro cl C f a nt r hc I F hr
 unfold kV at h
 split at h
 ·rename_i c ho
  split at h
  ·rename_i g' hcal
   simp only[Bool.and_eq_true,beq_iff_eq]at h
   obtain⟨rfl,h1⟩:=h
   simp only[B6]at hr
   have:=hc g C _ _ r I (Tf I F h1) hr
   have e:(execOp a.eval o).run P C.w=(callFunc g (c.args.toList.map a.eval).toArray).run P C.w:=by
    simp only[execOp,ho,resolve,hcal,Act.eval,Deferred.ofValue,invoke,Sem.run_bind,Sem.run_pure,Result.andThen_ok]
    congr 2
    rw[←Array.toList_inj]
    simp
   rw[e]
   exact this
  ·cases h
 ·cases h
def aH(x:AO)(xs:List AO)(o:Oper):Bool:=match o.op with
 | .call c=>match c.callee with
  | .value y=>BA x y&&Wm xs c.args.toList
  |_=>false
 |_=>false
theorem uB{x:AO}{xs:List AO}(h:aH x xs o=true):EC P tb (.callv x xs) o:=by
 intro cl C f a nt r hc I F hr
 unfold aH at h
 split at h
 ·rename_i c ho
  split at h
  ·rename_i y hcal
   simp only[Bool.and_eq_true]at h
   obtain⟨h1,h2⟩:=h
   simp only[B6]at hr
   split at hr
   ·rename_i g first captured hv
    have rx:=Bd I F h1
    rw[hv]at rx
    obtain⟨p,q,e,r1,r2⟩:=rx
    have:=hc g C _ _ r I (B0.app (B0.app r1 (Tf I F h2)) r2) hr
    have e':(execOp a.eval o).run P C.w=(callFunc g (p++c.args.toList.map a.eval++q).toArray).run P C.w:=by
     simp only[execOp,ho,resolve,hcal,e,Deferred.ofValue,invoke,Sem.run_bind,Sem.run_pure,Result.andThen_ok]
     congr 2
     simp
    rw[e']
    exact this
   ·cases hr
  ·cases h
 ·cases h
def okEq(P:Program)(neg:Bool)(ek:EK)(x y:AO)(o:Oper):Bool:=match o.op with
 | .binOp op t u v _=>decide (op=if neg then .neq else .eql)&&Aa1 P ek t&&BA x u&&BA y v
 |_=>false
theorem ok_eq{neg:Bool}{ek:EK}{x y:AO}(h:okEq P neg ek x y o=true):EC P tb (.eq neg ek x y) o:=by
 intro cl C f a nt r hc I F hr
 unfold okEq at h
 split at h
 ·rename_i op t u v t' ho
  simp only[Bool.and_eq_true,decide_eq_true_eq]at h
  obtain⟨⟨⟨h0,h1⟩,h2⟩,h3⟩:=h
  simp only[B6,val]at hr
  obtain⟨b,hb,rfl⟩:=Option.map_eq_some_iff.1 hr
  obtain⟨e,he,rfl⟩:=Option.map_eq_some_iff.1 hb
  exact .inl (sim_eq I F ho h0 h1 h2 h3 he)
 ·cases h
def vA(P:Program)(zero:List AV)(ps:List (Nat×Nat×AO))(o:Oper):Bool:=match o.op with
 | .build t ys=>match zS P t,(P.info? t).bind (·.zero)with
  |some place,some z=>Rm zero z.cells.toList&&Lq place ps ys.toList
  |_,_=>false
 |_=>false
theorem ok_bld{zero:List AV}{ps:List (Nat×Nat×AO)}(h:vA P zero ps o=true):EC P tb (.bld zero ps) o:=by
 intro cl C f a nt r hc I F hr
 unfold vA at h
 split at h
 ·rename_i t ys ho
  split at h
  ·rename_i place z hp hz
   obtain⟨i,hi,hz⟩:=Option.bind_eq_some_iff.1 hz
   simp only[Bool.and_eq_true]at h
   simp only[B6,val]at hr
   obtain⟨v,hv,rfl⟩:=Option.map_eq_some_iff.1 hr
   obtain⟨cs,hcs,rfl⟩:=Option.map_eq_some_iff.1 hv
   exact .inl (zM I F ho hp hi hz h.1 h.2 hcs)
  ·cases h
 ·cases h
def YZ(P:Program)(sz:Nat)(zero:List (List AV))(ps:List (Nat×AO))(o:Oper):Bool:=match o.op with
 | .buildSlice t len ys=>match N4 P t with
  |some e=>match(P.info? e).bind (·.zero)with
   |some z=>sz==P.cellsOf e&&decide (z.cells.size=P.cellsOf e)&&decide (0<P.cellsOf e)&&decide (len*P.cellsOf e≤2^24)&&decide (zero.length=len)&&zero.all (Rm · z.cells.toList)&&Lr sz ps ys.toList
   |none=>false
  |none=>false
 |_=>false
def kR(P:Program)(t0:Nat)(o:Oper):Bool:=match o.op with
 | .buildSlice t _ _=>match N4 P t with
  |some e=>Nat.beq t0 e
  |none=>false
 |_=>false
theorem ok_bls{t0 sz:Nat}{zero:List (List AV)}{ps:List (Nat×AO)}(h:(YZ P sz zero ps o&&kR P t0 o)=true):EC P tb (.bls t0 sz zero ps) o:=by
 intro cl C f a nt r hc I F hr
 rw[Bool.and_eq_true]at h
 obtain⟨h,hl⟩:=h
 unfold YZ at h
 unfold kR at hl
 split at h
 ·rename_i t len ys ho
  split at h
  ·rename_i e he
   split at h
   ·rename_i z hz
    obtain⟨i,hi,hz2⟩:=Option.bind_eq_some_iff.1 hz
    simp only[Bool.and_eq_true,beq_iff_eq,decide_eq_true_eq]at h
    obtain⟨⟨⟨⟨⟨⟨rfl,h1⟩,h2⟩,h3⟩,h4⟩,h5⟩,h6⟩:=h
    simp only[B6]at hr
    obtain⟨els,hv,rfl⟩:=Option.map_eq_some_iff.1 hr
    simp only[ho,he]at hl
    obtain rfl:=Nat.eq_of_beq_eq_true hl
    exact .inl (zJ I F ho (FZ he) hi hz2 h1 h2 h3 h4 h5 h6 hv)
   ·cases h
  ·cases h
 ·cases h
theorem ok_bll{sz:Nat}{zero:List (List AV)}{ps:List (Nat×AO)}(h:YZ P sz zero ps o=true):EC P tb (.bll sz zero ps) o:=by
 intro cl C f a nt r hc I F hr
 unfold YZ at h
 split at h
 ·rename_i t len ys ho
  split at h
  ·rename_i e he
   split at h
   ·rename_i z hz
    obtain⟨i,hi,hz⟩:=Option.bind_eq_some_iff.1 hz
    simp only[Bool.and_eq_true,beq_iff_eq,decide_eq_true_eq]at h
    obtain⟨⟨⟨⟨⟨⟨rfl,h1⟩,h2⟩,h3⟩,h4⟩,h5⟩,h6⟩:=h
    simp only[B6,val]at hr
    obtain⟨u,hu,rfl⟩:=Option.map_eq_some_iff.1 hr
    obtain⟨els,hv,rfl⟩:=Option.map_eq_some_iff.1 hu
    exact .inl (zL I F ho (FZ he) hi hz h1 h2 h3 h4 h5 h6 hv)
   ·cases h
  ·cases h
 ·cases h
def uI(P:Program)(n sz:Nat)(x:AO)(o:Oper):Bool:=match o.op with
 | .sliceToArrayPointer t y=>match mS P t with
  |some (m,e)=>BA x y&&n==m&&sz==P.cellsOf e&&decide (0<n)
  |none=>false
 |_=>false
theorem ok_s2a{n sz:Nat}{x:AO}(h:uI P n sz x o=true):EC P tb (.s2a n sz x) o:=by
 intro cl C f a nt r hc I F hr
 unfold uI at h
 split at h
 ·rename_i t y ho
  split at h
  ·rename_i m e he
   simp only[Bool.and_eq_true,beq_iff_eq,decide_eq_true_eq]at h
   obtain⟨⟨⟨h1,rfl⟩,rfl⟩,h2⟩:=h
   exact .inl (yQ I F ho (NB he) h2 h1 hr)
  ·cases h
 ·cases h
def uL(mx:Bool)(x y:AO)(o:Oper):Bool:=match Y8 o with
 |some (.max,[u,v],_)=>mx&&BA x u&&BA y v
 |some (.min,[u,v],_)=> !mx&&BA x u&&BA y v
 |_=>false
theorem ok_mnx{mx:Bool}{x y:AO}(h:uL mx x y o=true):EC P tb (.mnx mx x y) o:=by
 intro cl C f a nt r hc I F hr
 simp only[B6]at hr
 split at hr
 ·rename_i k p k' q e1 e2
  split at hr
  ·rename_i hk
   subst hk
   simp only[Option.some.injEq]at hr
   subst hr
   unfold uL at h
   split at h
   ·rename_i u v ts hb
    obtain⟨c,ho,hcal,ha,ht⟩:=Ik hb
    simp only[Bool.and_eq_true]at h
    obtain⟨⟨rfl,h1⟩,h2⟩:=h
    exact .inl (nP (mx:=true) I F ho hcal (by rw[ha]) h1 h2 e1 e2)
   ·rename_i u v ts hb
    obtain⟨c,ho,hcal,ha,ht⟩:=Ik hb
    simp only[Bool.and_eq_true,Bool.not_eq_true']at h
    obtain⟨⟨rfl,h1⟩,h2⟩:=h
    exact .inl (nP (mx:=false) I F ho hcal (by rw[ha]) h1 h2 e1 e2)
   ·cases h
  ·cases hr
 ·cases hr
def kU(P:Program)(x:AO)(o:Oper):Bool:=match Y8 o with
 |some (.cap,[y],[t])=>BA x y&&(N4 P t).isSome
 |_=>false
theorem zZ{x:AO}(h:kU P x o=true):EC P tb (.capn x) o:=by
 intro cl C f a nt r hc I F hr
 unfold kU at h
 split at h
 ·rename_i y t hb
  obtain⟨c,ho,hcal,ha,ht⟩:=Ik hb
  simp only[Bool.and_eq_true]at h
  obtain⟨e,he⟩:=Option.isSome_iff_exists.1 h.2
  simp only[B6]at hr
  split at hr
  ·rename_i hn
   cases hr
   exact .inl (tI I F ho hcal (by rw[ht];rfl) ha h.1 hn (FZ he))
  ·cases hr
 ·cases h
def okCvb(P:Program)(t0:Nat)(x:AO)(o:Oper):Bool:=match o.op with
 | .convert s d y=>QN P s&&(match N4 P d with
  |some e=>(match P.underlying e with|some (.int .u8)=>Nat.beq t0 e|_=>false)
  |none=>false)&&BA x y
 |_=>false
def uV(P:Program)(x:AO)(o:Oper):Bool:=match o.op with
 | .convert s d y=>QN P d&&(match N4 P s with
  |some e=>(match P.underlying e with|some (.int .u8)=>true|_=>false)
  |none=>false)&&BA x y
 |_=>false
theorem ok_cvs{x:AO}(h:uV P x o=true):EC P tb (.cvs x) o:=by
 intro cl C f a nt r hc I F hr
 unfold uV at h
 split at h
 ·rename_i s d y ho
  simp only[Bool.and_eq_true]at h
  obtain⟨⟨h1,h2⟩,h3⟩:=h
  split at h2
  ·rename_i e he
   split at h2
   ·rename_i hu
    simp only[B6,val]at hr
    obtain⟨v,hv,rfl⟩:=Option.map_eq_some_iff.1 hr
    obtain⟨l,hl,rfl⟩:=Option.map_eq_some_iff.1 hv
    obtain⟨els,he1,hl⟩:=Option.bind_eq_some_iff.1 hl
    exact .inl (zC I F ho (FZ he) hu (IK h1) h3 he1 hl)
   ·cases h2
  ·cases h2
 ·cases h
def uJ(P:Program)(x:AO)(o:Oper):Bool:=match o.op with
 | .range t y=>QN P t&&BA x y
 |_=>false
theorem ok_rng{x:AO}(h:uJ P x o=true):EC P tb (.rng x) o:=by
 intro cl C f a nt r hc I F hr
 unfold uJ at h
 split at h
 ·rename_i t y ho
  simp only[Bool.and_eq_true]at h
  simp only[B6]at hr
  split at hr
  ·rename_i l hl
   cases hr
   exact .inl (yR I F ho (IK h.1) h.2 hl)
  ·cases hr
 ·cases h
def uK(x:AO)(o:Oper):Bool:=match o.op with
 | .next y true=>BA x y
 |_=>false
theorem ok_nxt{x:AO}(h:uK x o=true):EC P tb (.nxt x) o:=by
 intro cl C f a nt r hc I F hr
 unfold uK at h
 split at h
 ·rename_i y ho
  simp only[B6]at hr
  split at hr
  ·rename_i id off hl
   obtain⟨it,hi,hr2⟩:=Option.bind_eq_some_iff.1 hr
   by_cases h0:off=0
   ·rw[if_pos h0]at hr2
    subst h0
    exact .inl (yS (id:=id) (l:=it.1) (pos:=it.2) I F ho h hl hi hr2)
   ·rw[if_neg h0]at hr2;cases hr2
  ·cases hr
 ·cases h
def qF(P:Program)(t:TypeId):Option TypeId:=match P.underlying t with
 |some (.pointer u)=>some u
 |_=>none
theorem Qa{t u:TypeId}(h:qF P t=some u):P.underlying t=some (.pointer u):=by
 unfold qF at h
 split at h
 ·rename_i e hu;rw[hu];simp at h;rw[h]
 ·cases h
def oC(P:Program)(t:TypeId):Bool:=match P.underlying t with
 |some .unsafePointer=>true
 |_=>false
theorem WC{t:TypeId}(h:oC P t=true):P.underlying t=some .unsafePointer:=by
 unfold oC at h
 split at h
 ·assumption
 ·cases h
def uW(P:Program)(x:AO)(o:Oper):Bool:=match o.op with
 | .convert s d y=>oC P d&&(match(qF P s).bind P.info? with
  |some j=> !(Nat.beq j.size 0)
  |none=>false)&&BA x y
 |_=>false
theorem ok_cvp{x:AO}(h:uW P x o=true):EC P tb (.cvp x) o:=by
 intro cl C f a nt r hc I F hr
 unfold uW at h
 split at h
 ·rename_i s d y ho
  simp only[Bool.and_eq_true]at h
  obtain⟨⟨h1,h2⟩,h3⟩:=h
  split at h2
  ·rename_i j hj
   obtain⟨t,ht,hi⟩:=Option.bind_eq_some_iff.1 hj
   refine .inl (zD I F ho (Qa ht) (WC h1) hi (fun e=> ?_) h3 hr)
   rw[e]at h2;simp[Nat.beq_refl]at h2
  ·cases h2
 ·cases h
def uU(P:Program)(t n:Nat)(x:AO)(o:Oper):Bool:=match o.op with
 | .convert s d y=>oC P s&&(match qF P d with
  |some u=>(P.info? u).isSome&&liesAt P P.depth t (n/P.cellsOf t) 0 u 1
  |none=>false)&&BA x y
 |_=>false
theorem ok_cvu{t n:Nat}{x:AO}(h:uU P t n x o=true):EC P tb (.cvu t n x) o:=by
 intro cl C f a nt r hc I F hr
 unfold uU at h
 split at h
 ·rename_i s d y ho
  simp only[Bool.and_eq_true]at h
  obtain⟨⟨h1,h2⟩,h3⟩:=h
  split at h2
  ·rename_i u hu
   simp only[Bool.and_eq_true]at h2
   obtain⟨j,hj⟩:=Option.isSome_iff_exists.1 h2.1
   exact .inl (zB I F ho (WC h1) (Qa hu) hj h2.2 h3 hr)
  ·cases h2
 ·cases h
def uS(P:Program)(neg:Bool)(x y:AO)(o:Oper):Bool:=match o.op with
 | .binOp op t u v _=>decide (op=if neg then .neq else .eql)&&((qF P t).bind P.info?).isSome&&BA x u&&BA y v
 |_=>false
theorem ok_eqp{neg:Bool}{x y:AO}(h:uS P neg x y o=true):EC P tb (.eqp neg x y) o:=by
 intro cl C f a nt r hc I F hr
 unfold uS at h
 split at h
 ·rename_i op t u v t' ho
  simp only[Bool.and_eq_true,decide_eq_true_eq]at h
  obtain⟨⟨⟨h0,h1⟩,h2⟩,h3⟩:=h
  obtain⟨j,hj⟩:=Option.isSome_iff_exists.1 h1
  obtain⟨e,he,hi⟩:=Option.bind_eq_some_iff.1 hj
  exact .inl (yZ I F ho h0 (Qa he) hi h2 h3 hr)
 ·cases h
def kS(P:Program)(neg:Bool)(x:AO)(o:Oper):Bool:=match o.op with
 | .binOp op t u (.const .nilIface) _=>(match P.underlying t with
  |some (.interface _)=>true
  |_=>false)&&decide (op=if neg then .neq else .eql)&&BA x u
 |_=>false
theorem zY{neg:Bool}{x:AO}(h:kS P neg x o=true):EC P tb (.isni neg x) o:=by
 intro cl C f a nt r hc I F hr
 unfold kS at h
 split at h
 ·rename_i op t u t' ho
  simp only[Bool.and_eq_true,decide_eq_true_eq]at h
  obtain⟨⟨h0,h1⟩,h2⟩:=h
  split at h0
  ·rename_i ms hu
   exact .inl (tH I F ho h1 hu h2 hr)
  ·cases h0
 ·cases h
def uE(x:AO)(o:Oper):Bool:=match Y8 o with
 |some (.unsafeSliceData,[y],_)=>BA x y
 |_=>false
theorem ok_usd{x:AO}(h:uE x o=true):EC P tb (.usd x) o:=by
 intro cl C f a nt r hc I F hr
 unfold uE at h
 split at h
 ·rename_i y ts hb
  obtain⟨c,ho,hcal,ha,ht⟩:=Ik hb
  exact .inl (yM I F ho hcal (by rw[ha]) h hr)
 ·cases h
def uD(P:Program)(t:Nat)(x n:AO)(o:Oper):Bool:=match Y8 o with
 |some (.unsafeString,[y,z],[pt,_])=>(match qF P pt with
  |some u=>Nat.beq u t&&Nat.beq (P.cellsOf t) 1
  |none=>false)&&BA x y&&BA n z
 |_=>false
theorem ok_ust{t:Nat}{x n:AO}(h:uD P t x n o=true):EC P tb (.ust t x n) o:=by
 intro cl C f a nt r hc I F hr
 unfold uD at h
 split at h
 ·rename_i y z pt it hb
  obtain⟨c,ho,hcal,ha,hty⟩:=Ik hb
  simp only[Bool.and_eq_true]at h
  obtain⟨⟨h1,h2⟩,h3⟩:=h
  split at h1
  ·rename_i u hu
   simp only[Bool.and_eq_true]at h1
   obtain rfl:=Nat.eq_of_beq_eq_true h1.1
   exact .inl (yL I F ho hcal (by rw[ha]) (by rw[hty]) (Qa hu) (Nat.eq_of_beq_eq_true h1.2) h2 h3 hr)
  ·cases h1
 ·cases h
def BD(P:Program)(ao:H6)(o:Oper):Bool:=
 match ao with
 | .mv x=>okMv P x o
 | .pick x y z=>kN x y z o
 | .alloc t z=>aI P t z o
 | .box t n x=>uZ t n x o
 | .ld ag n x=>okLd P ag n x o
 | .st n x z=>okSt P n x z o
 | .nilc x=>kO x o
 | .bin op x y=>vB op x y o
 | .un op x=>okUn op x o
 | .cvi k x=>uX P k x o
 | .cvc x=>kT P x o
 | .mkif t x=>kP P t x o
 | .ext x i=>uR x i o
 | .len x=>uM P x o
 | .lens x=>kQ P x o
 | .fa off x=>okFa P off x o
 | .ias sz x i=>uP P sz x i o
 | .iaa len sz x i=>uQ P len sz x i o
 | .ixa len sz ag x i=>uO P len sz ag x i o
 | .ixs x i=>uN P x i o
 | .sls x lo hi=>uF P x lo hi o
 | .sll sz x lo hi=>uG P sz x lo hi o
 | .sla n sz x lo hi=>uH P n sz x lo hi o
 | .app t sz bytes s x=>vC P t sz bytes s x o
 | .call g xs=>kV g xs o
 | .callv x xs=>aH x xs o
 | .eq neg ek x y=>okEq P neg ek x y o
 | .bld z ps=>vA P z ps o
 | .bls t sz z ps=>YZ P sz z ps o&&kR P t o
 | .bll sz z ps=>YZ P sz z ps o
 | .s2a n sz x=>uI P n sz x o
 | .mnx mx x y=>uL mx x y o
 | .cpy sz d x=>uY P sz d x o
 | .die=>true
 | .cvs x=>uV P x o
 | .rng x=>uJ P x o
 | .nxt x=>uK x o
 | .cvp x=>uW P x o
 | .cvu t n x=>uU P t n x o
 | .eqp neg x y=>uS P neg x y o
 | .isni neg x=>kS P neg x o
 | .capn x=>kU P x o
 | .usd x=>uE x o
 | .ust t x n=>uD P t x n o
 |_=>false
theorem qQ(ao:H6)(o:Oper)(h:BD P ao o=true):EC P tb ao o:=by
 cases ao<;>try simp only[BD]at h
 case mv=>exact ok_mv h
 case pick=>exact zU h
 case alloc=>exact uC h
 case box=>exact ok_box h
 case ld=>exact ok_ld h
 case st=>exact ok_st h
 case nilc=>exact zV h
 case bin=>exact ok_bin h
 case un=>exact ok_un h
 case cvi=>exact ok_cvi h
 case cvc=>exact ok_cvc h
 case mkif=>exact zW h
 case ext=>exact ok_ext h
 case len=>exact ok_len h
 case lens=>exact zX h
 case fa=>exact ok_fa h
 case ias=>exact ok_ias h
 case iaa=>exact ok_iaa h
 case ixa=>exact ok_ixa h
 case ixs=>exact ok_ixs h
 case sls=>exact ok_sls h
 case sll=>exact ok_sll h
 case sla=>exact ok_sla h
 case app=>exact ok_app h
 case call=>exact Aa0 h
 case callv=>exact uB h
 case eq=>exact ok_eq h
 case bld=>exact ok_bld h
 case bls=>exact ok_bls h
 case bll=>exact ok_bll h
 case s2a=>exact ok_s2a h
 case mnx=>exact ok_mnx h
 case cpy=>exact ok_cpy h
 case die=>exact ok_die
 case cvs=>exact ok_cvs h
 case rng=>exact ok_rng h
 case nxt=>exact ok_nxt h
 case cvp=>exact ok_cvp h
 case cvu=>exact ok_cvu h
 case eqp=>exact ok_eqp h
 case isni=>exact zY h
 case capn=>exact zZ h
 case usd=>exact ok_usd h
 case ust=>exact ok_ust h
 all_goals cases h
end
end Go.Proofs.YtobejhpigbllpaaGreatDoor.Am
namespace Go.Proofs.YtobejhpigbllpaaGreatDoor.Am
def Vm(rs:Array Oper):Option (Nat×Bool)→Option (Nat×Bool)→Bool
 |none,none=>true
 |some (t,w),some (j,w')=>w==w'&&(rs[j]?).bind (·.dst)==some t
 |_,_=>false
def Wl(T:H6→Oper→Bool)(nt:Nat)(rs:Array Oper)(ao:Bm)(o:Oper):Bool:=
 decide (ao.d=o.dst)&&(match o.dst with|some t=>decide (t<nt)|none=>true)&&Vm rs ao.g o.guard&&T ao.o o
def GC(T:H6→Oper→Bool)(nt:Nat)(rs:Array Oper):List Bm→List Oper→Bool
 |[],[]=>true
 |x::l,o::r=>Wl T nt rs x o&&GC T nt rs l r
 |_,_=>false
section
variable{T:H6→Oper→Bool}{P:Program}{tb:Dh}{cl:Nat→List AV→Ay→Lk}{nt:Nat}{rs:Array Oper}
theorem Vy{C:DP}{f:Fr}{a:Act}(F:BK C f a nt){g:Option (Nat×Bool)}{o:Oper}(h:Vm rs g o.guard=true){b:Bool}(hw:wanted f g=some b):
  Region.wanted o (yielded rs a.tmps)=b:=by
 unfold Vm at h
 split at h
 ·rename_i hg
  simp only[wanted,Option.some.injEq]at hw
  subst hw
  simp[Region.wanted,hg]
 ·rename_i t w j w' hg
  simp only[Bool.and_eq_true,beq_iff_eq]at h
  obtain⟨rfl,hj⟩:=h
  simp only[wanted]at hw
  split at hw
  ·rename_i x hx
   simp only[Option.some.injEq]at hw
   subst hw
   have r:=F.rep t
   rw[hx]at r
   have r':a.tmps.getD t undef= .bool x:=r
   have hs:a.tmps[t]? =some (.bool x):=by
    rw[Array.getD_eq_getD_getElem?]at r'
    cases ht:a.tmps[t]? with
    |none=>rw[ht]at r';simp[undef]at r'
    |some v=>rw[ht]at r';simpa using r'
   simp only[Region.wanted,hg,yielded,hj,Option.bind_some,hs]
   cases x<;>cases w<;>rfl
  ·rename_i hx
   simp only[Option.some.injEq]at hw
   subst hw
   have r:=F.rep t
   rw[hx]at r
   obtain⟨vs,r',hv⟩:=r
   have hv':vs=[]:=hv
   subst hv'
   rw[Array.getD_eq_getD_getElem?]at r'
   simp only[Region.wanted,hg,yielded,hj,Option.bind_some]
   cases ht:a.tmps[t]? with
   |none=>rfl
   |some v=>
    rw[ht]at r'
    simp only[Option.getD_some]at r'
    subst r'
    rfl
  ·cases hw
 ·cases h
theorem TU{ao:Bm}{o:Oper}(h:Wl T nt rs ao o=true):ao.d=o.dst∧(∀t,o.dst=some t→t<nt)∧Vm rs ao.g o.guard=true∧T ao.o o=true:=by
 simp only[Wl,Bool.and_eq_true,decide_eq_true_eq]at h
 obtain⟨⟨⟨h1,h2⟩,h3⟩,h4⟩:=h
 refine⟨h1,fun t ht=> ?_,h3,h4⟩
 rw[ht]at h2
 simpa using h2
theorem qN(hT: ∀ao o,T ao o=true→EC P tb ao o)(hcl:Fw P tb fun g args h=>B8 tb cl h g args){Q:Exit→Act→World→Prop}:
  ∀(l:List Bm) (os:List Oper),GC T nt rs l os=true→ ∀{C:DP} {f:Fr} {a:Act},Inv tb C→BK C f a nt→ ∀{f':Fr} {h':Ay},ops tb cl l f C.H=some (f',h')→
   (∀(D:DP) (a':Act),KU C D→Inv tb D→D.H=h'→BK D f' a' nt→Q .normal a' D.w)→wpList P rs Q os a C.w:=by
 intro l
 induction l with
 |nil=>
  intro os h C f a I F f' h' e k
  cases os with
  |cons o os=>simp[GC]at h
  |nil=>
   simp only[ops,Option.some.injEq,Prod.mk.injEq]at e
   obtain⟨rfl,rfl⟩:=e
   exact k C a (KU.refl C) I rfl F
 |cons ao l ih=>
  intro os h C f a I F f' h' e k
  cases os with
  |nil=>simp[GC]at h
  |cons o os=>
   simp only[GC,Bool.and_eq_true]at h
   obtain⟨h1,h2⟩:=h
   obtain⟨g1,g2,g3,g4⟩:=TU h1
   simp only[ops]at e
   obtain⟨b,hb,e⟩:=Option.bind_eq_some_iff.1 e
   have hw:=Vy F g3 hb
   simp only[wpList,hw]
   cases b with
   |true=>
    simp only[if_true]at e ⊢
    obtain⟨p,hp,e⟩:=Option.bind_eq_some_iff.1 e
    refine .inl (TO (hT _ _ g4 hcl I F hp) fun v D X ID hH hr=> ?_)
    rw[←g1]
    refine ih os h2 ID (F.put X (fun t ht=>g2 t (g1▸ht)) hr) (by rw[hH];exact e) fun D' a' X'=>k D' a' (X.trans X')
   |false=>
    simp only[Bool.false_eq_true,if_false]at e ⊢
    rw[←g1]
    exact ih os h2 I (F.put (KU.refl C) (fun t ht=>g2 t (g1▸ht)) (x:= .tup []) ⟨[],rfl,rfl⟩) e k
theorem pW(hT: ∀ao o,T ao o=true→EC P tb ao o)(hcl:Fw P tb fun g args h=>B8 tb cl h g args){Q:Exit→Act→World→Prop}{l:List Bm}{id:Nat}
  (h:GC T nt rs l rs.toList=true) {C:DP} {f:Fr} {a:Act} (I:Inv tb C) (F:BK C f a nt) {f':Fr} {h':Ay} (e:ops tb cl l f C.H=some (f',h'))
  (k: ∀(D:DP) (a':Act),KU C D→Inv tb D→D.H=h'→BK D f' a' nt→Q .normal a' D.w):(Code.region id rs false).wp P Q a C.w:=
 wp_region_list (qN hT hcl l _ h I F e k)
def G8:AO→List Nat
 | .t n=>[n]
 |_=>[]
def ooT:Option AO→List Nat
 |some x=>G8 x
 |none=>[]
def opT:H6→List Nat
 | .mv x=>G8 x
 | .pick c a b=>G8 c++G8 a++G8 b
 | .alloc _ _=>[]
 | .box _ _ x=>G8 x
 | .bld _ ps=>ps.flatMap fun p=>G8 p.2.2
 | .bls _ _ _ ps=>ps.flatMap fun p=>G8 p.2
 | .bll _ _ ps=>ps.flatMap fun p=>G8 p.2
 | .ld _ _ a=>G8 a
 | .st _ a x=>G8 a++G8 x
 | .nilc x=>G8 x
 | .bin _ x y=>G8 x++G8 y
 | .eq _ _ x y=>G8 x++G8 y
 | .un _ x=>G8 x
 | .cvi _ x=>G8 x
 | .cvid x=>G8 x
 | .cvb _ x=>G8 x
 | .cvr x=>G8 x
 | .cvs x=>G8 x
 | .cvc x=>G8 x
 | .mkf _ a b=>a.flatMap G8++b.flatMap G8
 | .mkm=>[]
 | .mks _ _ _ _ l c=>G8 l++G8 c
 | .sls x lo hi=>G8 x++ooT lo++ooT hi
 | .sll _ x lo hi=>G8 x++ooT lo++ooT hi
 | .sla _ _ x lo hi=>G8 x++ooT lo++ooT hi
 | .fa _ x=>G8 x
 | .fld _ _ _ x=>G8 x
 | .ias _ x i=>G8 x++G8 i
 | .iaa _ _ x i=>G8 x++G8 i
 | .ixa _ _ _ x i=>G8 x++G8 i
 | .ixs x i=>G8 x++G8 i
 | .lkp _ _ _ m k=>G8 m++G8 k
 | .mup _ m k v=>G8 m++G8 k++G8 v
 | .rng x=>G8 x
 | .nxt x=>G8 x
 | .ext x _=>G8 x
 | .s2a _ _ x=>G8 x
 | .mkif _ x=>G8 x
 | .call _ xs=>xs.flatMap G8
 | .callv x xs=>G8 x++xs.flatMap G8
 | .len x=>G8 x
 | .lens x=>G8 x
 | .app _ _ _ s x=>G8 s++G8 x
 | .cpy _ d s=>G8 d++G8 s
 | .mnx _ x y=>G8 x++G8 y
 | .clr _ x=>G8 x
 | .del _ m k=>G8 m++G8 k
 | .lenm m=>G8 m
 | .cvp x=>G8 x
 | .cvu _ _ x=>G8 x
 | .eqp _ x y=>G8 x++G8 y
 | .isni _ x=>G8 x
 | .capn x=>G8 x
 | .usd x=>G8 x
 | .ust _ x n=>G8 x++G8 n
 | .die=>[]
def Alike(_:Dh)(f f':Fr)(ts:List Nat):Prop:= ∀t∈ts,get f t=get f' t
theorem Alike.l{tb:Dh}{f f':Fr}{x y:List Nat}(h:Alike tb f f' (x++y)):Alike tb f f' x:=fun t ht=>h t (List.mem_append_left _ ht)
theorem Alike.r{tb:Dh}{f f':Fr}{x y:List Nat}(h:Alike tb f f' (x++y)):Alike tb f f' y:=fun t ht=>h t (List.mem_append_right _ ht)
theorem Alike.e{f f':Fr}{x:AO}(h:Alike tb f f' (G8 x)):eval tb f x=eval tb f' x:=by
 cases x with
 |t n=>exact h n (by simp[G8])
 |_=>rfl
theorem Alike.es{f f':Fr}: ∀{xs:List AO},Alike tb f f' (xs.flatMap G8)→xs.map (eval tb f)=xs.map (eval tb f')
 |[],_=>rfl
 |x::xs,h=>by
  rw[List.flatMap_cons]at h
  rw[List.map_cons,List.map_cons,h.l.e,Alike.es h.r]
theorem Alike.b{f f':Fr}{lo hi:Option AO}{n:Nat}(h:Alike tb f f' (ooT lo))(h':Alike tb f f' (ooT hi)):HP (eval tb f) n lo hi=HP (eval tb f') n lo hi:=by
 cases lo<;>cases hi
 ·rfl
 ·have e':=Alike.e h'
  simp only[HP,e']
 ·have e:=Alike.e h
  simp only[HP,e]
 ·have e:=Alike.e h
  have e':=Alike.e h'
  simp only[HP,e,e']
theorem Alike.fl{f f':Fr}: ∀{ps:List (Nat×Nat×AO)} {z:List AV},Alike tb f f' (ps.flatMap fun p=>G8 p.2.2)→Ma z (eval tb f) ps=Ma z (eval tb f') ps
 |[],_,_=>rfl
 |(off,n,x)::ps,z,h=>by
  rw[List.flatMap_cons]at h
  simp only[Ma]
  rw[h.l.e]
  split
  ·exact Alike.fl h.r
  ·rfl
theorem Alike.fe{f f':Fr}{sz:Nat}: ∀{ps:List (Nat×AO)} {z:List (List AV)},Alike tb f f' (ps.flatMap fun p=>G8 p.2)→KN z sz (eval tb f) ps=KN z sz (eval tb f') ps
 |[],_,_=>rfl
 |(i,x)::ps,z,h=>by
  rw[List.flatMap_cons]at h
  simp only[KN]
  rw[h.l.e]
  split
  ·exact Alike.fe h.r
  ·rfl
theorem Ki{f f':Fr}{h:Ay}: ∀{o:H6},Alike tb f f' (opT o)→B6 tb cl (eval tb f) h o=B6 tb cl (eval tb f') h o:=by
 intro o a
 cases o<;>simp only[opT]at a<;>simp only[B6]
 case bld=>rw[a.fl]
 case bls=>rw[a.fe]
 case bll=>rw[a.fe]
 case mkf=>rw[a.l.es,a.r.es]
 case sls=>rw[a.l.l.e];split<;>first|rfl|rw[Alike.b a.l.r a.r]
 case sll=>rw[a.l.l.e];congr;funext n;rw[Alike.b a.l.r a.r]
 case sla=>rw[a.l.l.e,Alike.b a.l.r a.r]
 case call=>rw[a.es]
 case callv=>rw[a.l.e,a.r.es]
 case pick=>rw[a.l.l.e,a.l.r.e,a.r.e]
 case mup=>rw[a.l.l.e,a.l.r.e,a.r.e]
 all_goals first
  |rw[a.l.e,a.r.e]
  |rw[a.e]
def gT:Option (Nat×Bool)→List Nat
 |some (t,_)=>[t]
 |none=>[]
theorem ZB{f f':Fr}{g:Option (Nat×Bool)}(a:Alike tb f f' (gT g)):wanted f g=wanted f' g:=by
 cases g with
 |none=>rfl
 |some p=>
  obtain⟨t,w⟩:=p
  simp only[wanted]
  rw[a t (by simp[gT])]
def Gc:List (Option (Nat×Nat))→Nat→Nat
 |_,0=>0
 |[],_+1=>0
 |none::w,i+1=>Gc w i+1
 |some _::w,i+1=>Gc w i
def Stepped(tb:Dh)(cl:Nat→List AV→Ay→Lk)(hs:List Ay)(k:Nat)(ao:Bm)(w:Option (Nat×Nat))(f:Fr)(v:AV):Prop:=
 ∃t,wanted f ao.g=some t∧(t=false→v= .tup []∧(w=none→hs[k]? =hs[k+1]?))∧
  (t=true→(w=none→ ∃h u,hs[k]? =some h∧B6 tb cl (eval tb f) h ao.o=some (v,u)∧hs[k+1]? =some (u.getD h))∧
   ∀lo hi,w=some (lo,hi)→ ∀j,lo≤j→j≤hi→ ∃h u,hs[j]? =some h∧B6 tb cl (eval tb f) h ao.o=some (v,u)∧u.getD h=h)
theorem qO{hs:List Ay}: ∀(l:List Bm) (ws:List (Option (Nat×Nat))) (k:Nat) (f f':Fr),JF tb cl hs l ws k f=some f'→
  ∃(fr:Nat→Fr) (vl:Nat→AV),fr 0=f∧fr l.length=f'∧k+Gc ws l.length+1=hs.length∧
   ∀i ao,l[i]? =some ao→fr (i+1)=put (fr i) ao.d (vl i)∧ ∃w,ws[i]? =some w∧Stepped tb cl hs (k+Gc ws i) ao w (fr i) (vl i):=by
 intro l
 induction l with
 |nil=>
  intro ws k f f' e
  simp only[JF]at e
  split at e
  ·rename_i hk
   obtain rfl:=Option.some.inj e
   exact⟨fun _=>f,fun _=> .junk,rfl,rfl,by simpa [Gc]using hk,fun i ao h=>(by simp at h)⟩
  ·cases e
 |cons ao l ih=>
  intro ws k f f' e
  simp only[JF]at e
  obtain⟨t,ht,e⟩:=Option.bind_eq_some_iff.1 e
  have glue: ∀(w:Option (Nat×Nat)) (ws':List (Option (Nat×Nat))) (v:AV) (k':Nat),ws=w::ws'→k'=k+(match w with|none=>1|some _=>0)→Stepped tb cl hs k ao w f v→
    JF tb cl hs l ws' k' (put f ao.d v)=some f'→ ∃(fr:Nat→Fr) (vl:Nat→AV),fr 0=f∧fr (ao::l).length=f'∧k+Gc ws (ao::l).length+1=hs.length∧
     ∀i x,(ao::l)[i]? =some x→fr (i+1)=put (fr i) x.d (vl i)∧ ∃w,ws[i]? =some w∧Stepped tb cl hs (k+Gc ws i) x w (fr i) (vl i):=by
   intro w ws' v k' hws hk hst h
   subst hws
   obtain⟨fr,vl,h0,h1,h2,h3⟩:=ih ws' k' _ f' h
   have hrank: ∀i,k+Gc (w::ws') (i+1)=k'+Gc ws' i:=by
    intro i
    subst hk
    cases w<;>simp only[Gc]<;>omega
   refine⟨fun i=>match i with|0=>f|i+1=>fr i,fun i=>match i with|0=>v|i+1=>vl i,rfl,h1,by rw[List.length_cons,hrank];exact h2,?_⟩
   intro i x hx
   cases i with
   |zero=>
    simp only[List.getElem?_cons_zero,Option.some.injEq]at hx
    subst hx
    exact⟨h0,w,rfl,hst⟩
   |succ i=>
    obtain⟨g1,w',g2,g3⟩:=h3 i x (by simpa using hx)
    exact⟨g1,w',by simpa using g2,by rw[hrank];exact g3⟩
  cases t with
  |true=>
   simp only[if_true]at e
   obtain⟨h,hh,e⟩:=Option.bind_eq_some_iff.1 e
   obtain⟨p,hp,e⟩:=Option.bind_eq_some_iff.1 e
   cases ws with
   |nil=>simp at e
   |cons w0 w=>
    cases w0 with
    |none=>
     simp only[]at e
     split at e
     ·rename_i hn
      exact glue none w p.1 (k+1) rfl rfl ⟨true,ht,fun e=>(by cases e),fun _=>⟨fun _=>⟨h,p.2,hh,hp,hn.symm⟩,fun lo hi e=>(by cases e)⟩⟩ e
     ·cases e
    |some q=>
     obtain⟨lo,hi⟩:=q
     simp only[]at e
     split at e
     ·rename_i hn
      refine glue (some (lo,hi)) w p.1 k rfl rfl ⟨true,ht,fun e=>(by cases e),fun _=>⟨fun e=>(by cases e),?_⟩⟩ e
      intro lo' hi' e' j hj hj'
      simp only[Option.some.injEq,Prod.mk.injEq]at e'
      obtain⟨rfl,rfl⟩:=e'
      rw[List.all_eq_true]at hn
      have:=hn j (List.mem_range'_1.2 ⟨hj,by omega⟩)
      simp only[decide_eq_true_eq]at this
      obtain⟨u,hu,hu'⟩:=this
      obtain⟨h',hh',hu⟩:=Option.bind_eq_some_iff.1 hu
      refine⟨h',u,hh',hu,?_⟩
      rw[hh']at hu'
      simpa using hu'
     ·cases e
  |false=>
   simp only[Bool.false_eq_true,if_false]at e
   cases ws with
   |nil=>simp at e
   |cons w0 w=>
    cases w0 with
    |none=>
     simp only[]at e
     split at e
     ·rename_i hn
      exact glue none w (.tup []) (k+1) rfl rfl ⟨false,ht,fun _=>⟨rfl,fun _=>hn⟩,fun e=>(by cases e)⟩ e
     ·cases e
    |some q=>
     exact glue (some q) w (.tup []) k rfl rfl ⟨false,ht,fun _=>⟨rfl,fun e=>(by cases e)⟩,fun e=>(by cases e)⟩ e
end
end Go.Proofs.YtobejhpigbllpaaGreatDoor.Am
namespace Go.Proofs.YtobejhpigbllpaaGreatDoor.Am
def QA(rs:Array Oper)(i:Nat):List Nat:=
 match rs[i]? with
 |some o=>(o.after.toList.filter (Region.binds .any)).map (·.on)
 |none=>[]
def SG(rs:Array Oper):Nat→Nat→Nat→Bool
 |0,_,_=>false
 |n+1,j,i=>(QA rs i).any (fun e=>Nat.beq e j)||(QA rs i).any fun e=>SG rs n j e
theorem Kj{rs:Array Oper}{L:Nat→Prop}(hd: ∀i,L i→ ∀e∈QA rs i,L e): ∀{n j i:Nat},SG rs n j i=true→(∀e∈QA rs i,L e)→L j
 |0,_,_,h,_=>by simp[SG]at h
 |n+1,j,i,h,hi=>by
  simp only[SG,List.any_eq_true,Bool.or_eq_true,Nat.beq_eq]at h
  rcases h with ⟨e,he,rfl⟩|⟨e,he,h⟩
  ·exact hi _ he
  ·exact Kj hd h (hd e (hi e he))
def looks(ao:Bm):List Nat:=gT ao.g++opT ao.o
def Tj(rs:Array Oper)(l:List Bm)(ws:List (Option (Nat×Nat)))(i j:Nat):Bool:=
 match l[i]?,l[j]? with
 |some x,some y=>
  (match x.d with|some t=>decide (y.d≠some t)|none=>true)&&
  (match y.d with|some t=> !(looks x).contains t||(if j<i then SG rs rs.size j i else SG rs rs.size i j)|none=>true)&&
  (match ws[i]?,ws[j]? with
   |some none,some none=> !decide (j<i)||SG rs rs.size j i
   |some (some (lo,hi)),some none=>(!decide (Gc ws j<lo)||SG rs rs.size j i)&&(!decide (hi≤Gc ws j)||SG rs rs.size i j)
   |_,_=>true)
 |_,_=>true
def okD(T:H6→Oper→Bool)(nt:Nat)(rs:Array Oper)(l:List Bm)(ws:List (Option (Nat×Nat))):Bool:=
 GC T nt rs l rs.toList&&(List.range rs.size).all fun i=>
  (QA rs i).all (fun e=>decide (e<i))&&
  (match ws[i]? with|some (some (lo,_))=>decide (lo≤Gc ws rs.size)|_=>true)&&
  (List.range rs.size).all fun j=>i==j||Tj rs l ws i j
theorem Vp(f:Fr)(d:Option Nat)(v:AV)(t:Nat):get (put f d v) t=if d=some t then v else get f t:=by
 cases d with
 |none=>simp[put]
 |some u=>simp[put,get]
theorem Pq{T:H6→Oper→Bool}{nt:Nat}{rs:Array Oper}: ∀{l:List Bm} {os:List Oper},GC T nt rs l os=true→l.length=os.length
 |[],[],_=>rfl
 |[],_::_,h=>by simp[GC]at h
 |_::_,[],h=>by simp[GC]at h
 |_::_,_::_,h=>by
  simp only[GC,Bool.and_eq_true]at h
  simp[Pq h.2]
theorem TT{T:H6→Oper→Bool}{nt:Nat}{rs:Array Oper}: ∀{l:List Bm} {os:List Oper} {i:Nat} {x:Bm} {o:Oper},GC T nt rs l os=true→l[i]? =some x→os[i]? =some o→Wl T nt rs x o=true
 |[],_,_,_,_,_,h,_=>by simp at h
 |_::_,[],_,_,_,_,_,h=>by simp at h
 |_::_,_::_,0,_,_,h,h1,h2=>by
  simp only[GC,Bool.and_eq_true]at h
  simp only[List.getElem?_cons_zero,Option.some.injEq]at h1 h2
  subst h1;subst h2
  exact h.1
 |_::_,_::_,i+1,_,_,h,h1,h2=>by
  simp only[GC,Bool.and_eq_true]at h
  exact TT h.2 (i:=i) (by simpa using h1) (by simpa using h2)
theorem Vj: ∀{ws:List (Option (Nat×Nat))} {i j:Nat},ws[i]? =some none→i<j→Gc ws i<Gc ws j
 |[],_,_,h,_=>by simp at h
 |_,_,0,_,h=>by omega
 |none::ws,0,j+1,_,_=>by simp only[Gc];omega
 |some _::ws,0,j+1,h,_=>by simp at h
 |none::ws,i+1,j+1,h,h'=>by
  have:=Vj (ws:=ws) (i:=i) (j:=j) (by simpa using h) (by omega)
  simp only[Gc];omega
 |some _::ws,i+1,j+1,h,h'=>by
  have:=Vj (ws:=ws) (i:=i) (j:=j) (by simpa using h) (by omega)
  simp only[Gc];omega
theorem NQ: ∀{ws:List (Option (Nat×Nat))} {n k:Nat},k<Gc ws n→ ∃j,j<n∧ws[j]? =some none∧Gc ws j=k
 |_,0,_,h=>by simp[Gc]at h
 |[],_+1,_,h=>by simp[Gc]at h
 |none::ws,n+1,0,_=>⟨0,by omega,rfl,rfl⟩
 |none::ws,n+1,k+1,h=>by
  obtain⟨j,h1,h2,h3⟩:=NQ (ws:=ws) (n:=n) (k:=k) (by simp only[Gc]at h;omega)
  exact⟨j+1,by omega,by simpa using h2,by simp only[Gc,h3]⟩
 |some _::ws,n+1,k,h=>by
  obtain⟨j,h1,h2,h3⟩:=NQ (ws:=ws) (n:=n) (k:=k) (by simpa [Gc]using h)
  exact⟨j+1,by omega,by simpa using h2,by simp only[Gc,h3]⟩
section
variable{T:H6→Oper→Bool}{P:Program}{tb:Dh}{cl:Nat→List AV→Ay→Lk}{nt:Nat}{rs:Array Oper}{l:List Bm}{ws:List (Option (Nat×Nat))}{hs:List Ay}{fr:Nat→Fr}{vl:Nat→AV}
def On(listed:Array Bool)(i:Nat):Prop:=listed.getD i false=true
structure St(rs:Array Oper)(l:List Bm)(ws:List (Option (Nat×Nat)))(hs:List Ay)(fr:Nat→Fr)(vl:Nat→AV)(listed:Array Bool)(H:Ay)(f:Fr):Prop where
 size:listed.size=rs.size
 down: ∀i,On listed i→ ∀e∈QA rs i,On listed e
 heap: ∃k,hs[k]? =some H∧ ∀j,j<rs.size→ws[j]? =some none→(On listed j↔Gc ws j<k)
 vals: ∀i ai t,On listed i→l[i]? =some ai→ai.d=some t→get f t=vl i
 rest: ∀t,(∀i ai,On listed i→l[i]? =some ai→ai.d≠some t)→get f t=get (fr 0) t
theorem Ti{listed:Array Bool}{i j:Nat}(hi:i<listed.size):On (listed.setIfInBounds i true) j↔j=i∨On listed j:=by
 unfold On
 by_cases h:i=j
 ·subst h;simp[Array.getD_eq_getD_getElem?,hi]
 ·rw[getD_set_ne false h]
  exact⟨.inr,fun e=>e.resolve_left (Ne.symm h)⟩
theorem YA{i:Nat}{o:Oper}(h:rs[i]? =some o){e:Nat}:e∈QA rs i↔ ∃x∈o.after,Region.binds .any x=true∧x.on=e:=by
 simp only[QA,h,List.mem_map,List.mem_filter,Array.mem_toList_iff]
 exact⟨fun⟨x,⟨h1,h2⟩,h3⟩=>⟨x,h1,h2,h3⟩,fun⟨x,h1,h2,h3⟩=>⟨x,⟨h1,h2⟩,h3⟩⟩
theorem Tg{listed:Array Bool}(hsz:listed.size=rs.size){i:Nat}:i∈Region.ready .any rs listed↔i<rs.size∧ ¬On listed i∧ ∀e∈QA rs i,On listed e:=by
 rw[mem_ready]
 constructor
 ·rintro⟨h1,o,ho,h2⟩
  have hi:i<rs.size:=(Array.getElem?_eq_some_iff.1 ho).1
  refine⟨hi,fun h=> ?_,fun e he=> ?_⟩
  ·unfold On at h
   simp[Array.getD_eq_getD_getElem?,show i<listed.size by omega]at h h1
   rw[h1]at h;cases h
  ·obtain⟨x,hx,hb,rfl⟩:=(YA ho).1 he
   exact h2 x hx hb
 ·rintro⟨hi,h1,h2⟩
  obtain⟨o,ho⟩: ∃o,rs[i]? =some o:=⟨rs[i],Array.getElem?_eq_getElem hi⟩
  refine⟨?_,o,ho,fun x hx hb=>h2 _ ((YA ho).2 ⟨x,hx,hb,rfl⟩)⟩
  unfold On at h1
  simp[Array.getD_eq_getD_getElem?,show i<listed.size by omega]at h1 ⊢
  exact h1
theorem uT(h:okD T nt rs l ws=true):l.length=rs.size∧(∀(i:Nat) (x:Bm) (o:Oper),l[i]? =some x→rs[i]? =some o→Wl T nt rs x o=true)∧(∀i,i<rs.size→ ∀e∈QA rs i,e<i)∧
  (∀(i j:Nat) (x y:Bm) (t:Nat),l[i]? =some x→l[j]? =some y→i≠j→x.d=some t→y.d≠some t)∧
  (∀(i j:Nat) (x y:Bm) (t:Nat),l[i]? =some x→l[j]? =some y→y.d=some t→t∈looks x→(j<i∧SG rs rs.size j i=true)∨(i<j∧SG rs rs.size i j=true)∨i=j)∧
  (∀i j,i<rs.size→j<rs.size→i≠j→ws[i]? =some none→ws[j]? =some none→j<i→SG rs rs.size j i=true)∧
  (∀i j lo hi,i<rs.size→j<rs.size→ws[i]? =some (some (lo,hi))→ws[j]? =some none→(Gc ws j<lo→SG rs rs.size j i=true)∧(hi≤Gc ws j→SG rs rs.size i j=true))∧
  (∀i lo hi,i<rs.size→ws[i]? =some (some (lo,hi))→lo≤Gc ws rs.size):=by
 simp only[okD,Bool.and_eq_true,List.all_eq_true,List.mem_range,decide_eq_true_eq,Bool.or_eq_true,beq_iff_eq]at h
 obtain⟨h1,h2⟩:=h
 have hlen:l.length=rs.size:=by rw[Pq h1];simp
 have lt: ∀{i x},l[i]? =some x→i<rs.size:=fun{i x} e=>by have:=Bj e;omega
 have pair: ∀i j,i<rs.size→j<rs.size→i≠j→Tj rs l ws i j=true:=fun i j hi hj hne=>((h2 i hi).2 j hj).resolve_left hne
 refine⟨hlen,fun i x o hx ho=>TT h1 hx (by simpa using ho),fun i hi=>(h2 i hi).1.1,?_,?_,?_,?_,fun i lo hi hil hw=> ?_⟩
 ·intro i j x y t hx hy hne hd
  have:=pair i j (lt hx) (lt hy) hne
  simp only[Tj,hx,hy,hd,Bool.and_eq_true,decide_eq_true_eq]at this
  exact this.1.1
 ·intro i j x y t hx hy hd ht
  by_cases hij:i=j
  ·exact .inr (.inr hij)
  ·have:=pair i j (lt hx) (lt hy) hij
   simp only[Tj,hx,hy,hd,Bool.and_eq_true,Bool.or_eq_true,Bool.not_eq_true']at this
   rcases this.1.2 with h|h
   ·simp[ht]at h
   ·by_cases hlt:j<i
    ·rw[if_pos hlt]at h
     exact .inl ⟨hlt,h⟩
    ·rw[if_neg hlt]at h
     exact .inr (.inl ⟨by omega,h⟩)
 ·intro i j hi hj hne hwi hwj hlt
  have:=pair i j hi hj hne
  obtain⟨x,hx⟩: ∃x,l[i]? =some x:=⟨_,List.getElem?_eq_getElem (by omega)⟩
  obtain⟨y,hy⟩: ∃x,l[j]? =some x:=⟨_,List.getElem?_eq_getElem (by omega)⟩
  simp only[Tj,hx,hy,hwi,hwj,Bool.and_eq_true,Bool.or_eq_true,Bool.not_eq_true',decide_eq_false_iff_not]at this
  exact this.2.resolve_left (by omega)
 ·intro i j lo hi hil hjl hwi hwj
  have hne:i≠j:=by rintro rfl;rw[hwi]at hwj;cases hwj
  have:=pair i j hil hjl hne
  obtain⟨x,hx⟩: ∃x,l[i]? =some x:=⟨_,List.getElem?_eq_getElem (by omega)⟩
  obtain⟨y,hy⟩: ∃x,l[j]? =some x:=⟨_,List.getElem?_eq_getElem (by omega)⟩
  simp only[Tj,hx,hy,hwi,hwj,Bool.and_eq_true,Bool.or_eq_true,Bool.not_eq_true',decide_eq_false_iff_not]at this
  exact⟨fun h=>this.2.1.resolve_left (by omega),fun h=>this.2.2.resolve_left (by omega)⟩
 ·have:=(h2 i hil).1.2
  simpa only[hw,decide_eq_true_eq]using this
theorem Wr(hstep: ∀i ao,l[i]? =some ao→fr (i+1)=put (fr i) ao.d (vl i))(h3: ∀(i j:Nat) (x y:Bm) (t:Nat),l[i]? =some x→l[j]? =some y→i≠j→x.d=some t→y.d≠some t):
  ∀m,m≤l.length→(∀i x t,i<m→l[i]? =some x→x.d=some t→get (fr m) t=vl i)∧(∀t,(∀i x,i<m→l[i]? =some x→x.d≠some t)→get (fr m) t=get (fr 0) t)
 |0,_=>⟨fun _ _ _ h=>by omega,fun _ _=>rfl⟩
 |m+1,hm=>by
  obtain⟨q1,q2⟩:=Wr hstep h3 m (by omega)
  obtain⟨x,hx⟩: ∃x,l[m]? =some x:=⟨_,List.getElem?_eq_getElem (by omega)⟩
  rw[hstep m x hx]
  refine⟨fun i y t hi hy hd=> ?_,fun t ht=> ?_⟩
  ·rw[Vp]
   by_cases him:i=m
   ·subst him
    rw[hx]at hy
    obtain rfl:=Option.some.inj hy
    rw[if_pos hd]
   ·rw[if_neg (h3 i m y x t hy hx him hd)]
    exact q1 i y t (by omega) hy hd
  ·rw[Vp,if_neg (ht m x (by omega) hx)]
   exact q2 t fun i y hi=>ht i y (by omega)
theorem sH(hT: ∀ao o,T ao o=true→EC P tb ao o)(hcl:Fw P tb fun g args h=>B8 tb cl h g args){Q:Exit→Act→World→Prop}(hok:okD T nt rs l ws=true)
  (hk:Gc ws l.length+1=hs.length) (hstep: ∀i ao,l[i]? =some ao→fr (i+1)=put (fr i) ao.d (vl i)∧ ∃w,ws[i]? =some w∧Stepped tb cl hs (Gc ws i) ao w (fr i) (vl i)) {C₀:DP}
  (k: ∀(D:DP) (a':Act),KU C₀ D→Inv tb D→hs.getLast?=some D.H→BK D (fr l.length) a' nt→Q .normal a' D.w):
  ∀(fuel:Nat) (listed:Array Bool) (C:DP) (f:Fr) (a:Act),listed.toList.count false≤fuel→St rs l ws hs fr vl listed C.H f→KU C₀ C→Inv tb C→BK C f a nt→wpAny P .any rs Q fuel listed a C.w:=by
 obtain⟨c1,c2,c3,c4,c5,c6,c7,c8⟩:=uT hok
 have lexf:=Wr (fun i ao h=>(hstep i ao h).1) c4
 have fin: ∀(listed:Array Bool) (C:DP) (f:Fr) (a:Act),Region.ready .any rs listed=[]→St rs l ws hs fr vl listed C.H f→KU C₀ C→Inv tb C→BK C f a nt→Q .normal a C.w:=by
  intro listed C f a hr S X I F
  have all: ∀n i,i<n→i<rs.size→On listed i:=by
   intro n
   induction n with
   |zero=>intro i h;omega
   |succ n ih=>
    intro i hi hil
    refine Classical.byContradiction fun hno=> ?_
    have:i∈Region.ready .any rs listed:=(Tg S.size).2 ⟨hil,hno,fun e he=>ih e (by have:=c3 i hil e he;omega) (by have:=c3 i hil e he;omega)⟩
    rw[hr]at this
    cases this
  have all': ∀i,i<rs.size→On listed i:=fun i hi=>all (i+1) i (by omega) hi
  obtain⟨q1,q2⟩:=lexf l.length (Nat.le_refl _)
  refine k C a X I ?_ ⟨fun t=> ?_,F.size,F.defers⟩
  ·obtain⟨m,hm,hw⟩:=S.heap
   have hml:=Bj hm
   have:m=Gc ws l.length:=by
    refine Classical.byContradiction fun hne=> ?_
    obtain⟨j,hj,hwj,hrj⟩:=NQ (ws:=ws) (n:=l.length) (k:=m) (by omega)
    have:=(hw j (by omega) hwj).1 (all' j (by omega))
    omega
   rw[List.getLast?_eq_getElem?,←hm]
   congr 1
   omega
  ·have:get (fr l.length) t=get f t:=by
    by_cases hex: ∃(i:Nat) (x:Bm),l[i]? =some x∧x.d=some t
    ·obtain⟨i,x,hx,hd⟩:=hex
     rw[q1 i x t (Bj hx) hx hd,S.vals i x t (all' i (by have:=Bj hx;omega)) hx hd]
    ·rw[q2 t fun i x _ hx hd=>hex ⟨i,x,hx,hd⟩,S.rest t fun i x _ hx hd=>hex ⟨i,x,hx,hd⟩]
   rw[this]
   exact F.rep t
 intro fuel
 induction fuel with
 |zero=>
  intro listed C f a hc S X I F
  have hr:Region.ready .any rs listed=[]:=by
   rw[List.eq_nil_iff_forall_not_mem]
   intro i hi
   obtain⟨hil,hno,_⟩:=(Tg S.size).1 hi
   have h0:listed.toList.count false=0:=by omega
   rw[List.count_eq_zero]at h0
   apply hno
   have hil':i<listed.size:=by rw[S.size];exact hil
   unfold On
   rw[Array.getD_eq_getD_getElem?,Array.getElem?_eq_getElem hil']
   simp only[Option.getD_some]
   cases hv:listed[i]with
   |true=>rfl
   |false=>exact absurd (by rw[←hv];simp) h0
  exact⟨hr,fin listed C f a hr S X I F⟩
 |succ fuel ih=>
  intro listed C f a hc S X I F
  refine⟨fun hr=>fin listed C f a hr S X I F,fun i hi=> ?_⟩
  obtain⟨hil,hno,hall⟩:=(Tg S.size).1 hi
  have hil':i<listed.size:=by rw[S.size];exact hil
  obtain⟨o,ho⟩: ∃o,rs[i]? =some o:=⟨rs[i],Array.getElem?_eq_getElem hil⟩
  obtain⟨ao,hao⟩: ∃x,l[i]? =some x:=⟨_,List.getElem?_eq_getElem (by omega)⟩
  obtain⟨g1,g2,g3,g4⟩:=TU (c2 i ao o hao ho)
  obtain⟨hfr,w,hwi,t,hwt,hfalse,htrue⟩:=hstep i ao hao
  obtain⟨q1,q2⟩:=lexf i (by omega)
  have alike:Alike tb f (fr i) (looks ao):=by
   intro u hu
   by_cases hex: ∃(j:Nat) (x:Bm),l[j]? =some x∧x.d=some u
   ·obtain⟨j,x,hx,hd⟩:=hex
    rcases c5 i j ao x u hao hx hd hu with ⟨hji,hanc⟩|hlate
    ·have hon:On listed j:=Kj S.down hanc hall
     rw[q1 j x u hji hx hd,S.vals j x u hon hx hd]
    ·have hij:i≤j:=by rcases hlate with h|h<;>omega
     have hoff: ¬On listed j:=fun h=>by
      rcases hlate with ⟨_,hanc⟩|rfl
      ·exact hno (Kj S.down hanc (S.down j h))
      ·exact hno h
     have one: ∀(k:Nat) (y:Bm),l[k]? =some y→y.d=some u→k=j:=fun k y hy hyd=>
      Classical.byContradiction fun hne=>c4 k j y x u hy hx hne hyd hd
     rw[q2 u fun k y hk hy hyd=>by have:=one k y hy hyd;omega,S.rest u fun k y hk hy hyd=>hoff (one k y hy hyd▸hk)]
   ·rw[q2 u fun j x _ hx hd=>hex ⟨j,x,hx,hd⟩,S.rest u fun j x _ hx hd=>hex ⟨j,x,hx,hd⟩]
  have hwt':wanted f ao.g=some t:=by rw[ZB alike.l];exact hwt
  have hwr:=Vy F g3 hwt'
  obtain⟨m,hm,hmw⟩:=S.heap
  have hcount:(listed.setIfInBounds i true).toList.count false≤fuel:=by
   have hv:listed[i]=false:=by
    cases hv:listed[i]with
    |false=>rfl
    |true=>exact absurd (by unfold On;rw[Array.getD_eq_getD_getElem?,Array.getElem?_eq_getElem hil',hv];rfl) hno
   rw[Array.toList_setIfInBounds,List.count_set (by simpa using hil')]
   have hv':listed.toList[i]'(by simpa using hil')=false:=by simpa using hv
   have hpos:0<listed.toList.count false:=List.count_pos_iff.2 (by rw[←hv];simp)
   rw[hv']
   simp only[beq_self_eq_true,if_true,beq_iff_eq,Bool.true_eq_false,if_false]
   omega
  have next: ∀(H:Ay),(w=none→hs[m+1]? =some H)→(w≠none→H=C.H)→St rs l ws hs fr vl (listed.setIfInBounds i true) H (put f ao.d (vl i)):=by
   intro H hn hq
   refine⟨by simp[S.size],?_,?_,?_,?_⟩
   ·intro j hj e he
    rw[Ti hil']at hj ⊢
    rcases hj with rfl|hj
    ·exact .inr (hall e he)
    ·exact .inr (S.down j hj e he)
   ·cases hw:w with
    |none=>
     subst hw
     refine⟨m+1,hn rfl,fun j hj hwj=> ?_⟩
     have hmi:Gc ws i=m:=by
      have h1: ¬Gc ws i<m:=fun h=>hno ((hmw i hil hwi).2 h)
      have h2: ¬m<Gc ws i:=fun h=>by
       obtain⟨j,hj,hwj,hrj⟩:=NQ h
       have:=Kj S.down (c6 i j hil (by omega) (by omega) hwi hwj hj) hall
       have:=(hmw j (by omega) hwj).1 this
       omega
      omega
     rw[Ti hil',hmw j hj hwj]
     constructor
     ·rintro(rfl|h)
      ·omega
      ·omega
     ·intro h
      by_cases hji:j=i
      ·exact .inl hji
      ·right
       rcases Nat.lt_or_ge j i with h'|h'
       ·have:=Vj hwj h';omega
       ·have:=Vj hwi (show i<j by omega);omega
    |some p=>
     refine⟨m,by rw[hq (by rw[hw];simp)];exact hm,fun j hj hwj=> ?_⟩
     have hji:j≠i:=by rintro rfl;rw[hwi,hw]at hwj;cases hwj
     rw[Ti hil',←hmw j hj hwj]
     exact⟨fun h=>h.resolve_left hji, .inr⟩
   ·intro j x u hj hx hd
    rw[Vp]
    rw[Ti hil']at hj
    by_cases hji:j=i
    ·subst hji
     rw[hao]at hx
     obtain rfl:=Option.some.inj hx
     rw[if_pos hd]
    ·rw[if_neg (c4 j i x ao u hx hao hji hd)]
     exact S.vals j x u (hj.resolve_left hji) hx hd
   ·intro u hu
    rw[Vp,if_neg (hu i ao ((Ti hil').2 (.inl rfl)) hao)]
    exact S.rest u fun j x hj hx=>hu j x ((Ti hil').2 (.inr hj)) hx
  have hrank:w=none→Gc ws i=m:=by
   rintro rfl
   have h1: ¬Gc ws i<m:=fun h=>hno ((hmw i hil hwi).2 h)
   have h2: ¬m<Gc ws i:=fun h=>by
    obtain⟨j,hj,hwj,hrj⟩:=NQ h
    have:=Kj S.down (c6 i j hil (by omega) (by omega) hwi hwj hj) hall
    have:=(hmw j (by omega) hwj).1 this
    omega
   omega
  have hrange: ∀lo hi,w=some (lo,hi)→lo≤m∧m≤hi:=by
   rintro lo hi rfl
   have hml:=Bj hm
   constructor
   ·refine Nat.le_of_not_lt fun h=> ?_
    obtain⟨j,hj,hwj,hrj⟩: ∃j,j<l.length∧ws[j]? =some none∧Gc ws j=m:=by
     by_cases hlt:m<Gc ws l.length
     ·exact NQ hlt
     ·have:=c8 i lo hi hil hwi
      rw[←c1]at this
      omega
    have:=Kj S.down ((c7 i j lo hi hil (by omega) hwi hwj).1 (by omega)) hall
    have:=(hmw j (by omega) hwj).1 this
    omega
   ·refine Nat.le_of_not_lt fun h=> ?_
    obtain⟨j,hj,hwj,hrj⟩: ∃j,j<l.length∧ws[j]? =some none∧Gc ws j=hi:=NQ (by omega)
    have hon:=(hmw j (by omega) hwj).2 (by omega)
    exact hno (Kj S.down ((c7 i j lo hi hil (by omega) hwi hwj).2 (by omega)) (S.down j hon))
  unfold wpOp
  simp only[ho,hwr]
  rw[←g1]
  cases t with
  |false=>
   simp only[Bool.false_eq_true,if_false]
   obtain⟨hv,hsame⟩:=hfalse rfl
   refine ih _ C (put f ao.d (.tup [])) _ hcount ?_ X I (F.put (KU.refl C) (fun t ht=>g2 t (g1▸ht)) (x:= .tup []) ⟨[],rfl,rfl⟩)
   rw[←hv]
   refine next C.H (fun hw=> ?_) fun _=>rfl
   rw[←hrank hw,←hsame hw,hrank hw]
   exact hm
  |true=>
   simp only[if_true]
   obtain⟨hW,hR⟩:=htrue rfl
   have land: ∀(u:Option Ay),B6 tb cl (eval tb f) C.H ao.o=some (vl i,u)→(w=none→hs[m+1]? =some (u.getD C.H))→(w≠none→u.getD C.H=C.H)→
     o.wp P a C.w (wpAny P .any rs Q fuel (listed.setIfInBounds i true)) Q:=by
    intro u hu h1 h2
    refine TO (hT _ _ g4 hcl I F hu) fun v D X' ID hH hr=> ?_
    rw[←g1]
    refine ih _ D (put f ao.d (vl i)) _ hcount ?_ (X.trans X') ID (F.put X' (fun t ht=>g2 t (g1▸ht)) hr)
    rw[hH]
    exact next _ h1 h2
   left
   cases hw:w with
   |none=>
    obtain⟨h,u,e1,e2,e3⟩:=hW hw
    rw[hrank hw]at e1 e3
    rw[hm]at e1
    obtain rfl:=Option.some.inj e1
    exact land u (by rw[Ki alike.r];exact e2) (fun _=>e3) fun hne=>absurd hw hne
   |some p=>
    obtain⟨lo,hi⟩:=p
    obtain⟨r1,r2⟩:=hrange lo hi hw
    obtain⟨h,u,e1,e2,e3⟩:=hR lo hi hw m r1 r2
    rw[hm]at e1
    obtain rfl:=Option.some.inj e1
    exact land u (by rw[Ki alike.r];exact e2) (fun hn=>absurd (hn.symm.trans hw) (by simp)) fun _=>e3
end
end Go.Proofs.YtobejhpigbllpaaGreatDoor.Am
namespace Go.Proofs.YtobejhpigbllpaaGreatDoor.Am
def aA(l:List Bm):List (Option (Nat×Nat)):=l.map fun _=>some (0,0)
def Rg(T:H6→Oper→Bool)(nt:Nat):AC→Code→Bool
 | .skip, .skip=>true
 | .reg l, .region _ rs false=>GC T nt rs l rs.toList
 | .regq l, .region _ rs true=>okD T nt rs l (aA l)
 | .regd l ws, .region _ rs true=>okD T nt rs l ws
 | .seq x y, .seq c d=>Rg T nt x c&&Rg T nt y d
 | .cond x a b, .cond y c d=>BA x y&&Rg T nt a c&&Rg T nt b d
 | .blk id x, .block id' c=>id==id'&&Rg T nt x c
 | .loop _ x, .loop c=>Rg T nt x c
 | .exit id, .exit id'=>id==id'
 | .ret, .ret=>true
 | .keep _ x,c=>Rg T nt x c
 | .scope x, .scope c=>Rg T nt x c
 | .skip, .label _=>true
 | .stop,_=>true
 |_,_=>false
def exOf:Ex→Exit
 | .normal=> .normal
 | .exit id=> .exit id
 | .ret=> .ret
section
variable{T:H6→Oper→Bool}{P:Program}{tb:Dh}{cl:Nat→List AV→Ay→Lk}{nt:Nat}
theorem aF{h:Ay}: ∀(l:List Bm) {f f':Fr},Iw tb cl h l f=some f'→JF tb cl [h] l (aA l) 0 f=some f':=by
 intro l
 induction l with
 |nil=>intro f f' e;simpa [Iw,JF,aA]using e
 |cons o l ih=>
  intro f f' e
  simp only[Iw]at e
  obtain⟨w,hw,e⟩:=Option.bind_eq_some_iff.1 e
  simp only[aA,List.map_cons,JF,hw,Option.bind_some]
  cases w with
  |true=>
   simp only[if_true]at e ⊢
   obtain⟨p,hp,e⟩:=Option.bind_eq_some_iff.1 e
   split at e
   ·rename_i hsame
    simp only[List.getElem?_cons_zero,Option.bind_some,hp]
    rw[if_pos]
    ·exact ih e
    ·rw[List.all_eq_true]
     intro j hj
     rw[List.mem_range'_1]at hj
     have:j=0:=by omega
     subst this
     simp only[decide_eq_true_eq,List.getElem?_cons_zero,Option.bind_some,Option.getD_some]
     exact⟨p.2,by rw[hp],by rw[hsame]⟩
   ·cases e
  |false=>
   simp only[Bool.false_eq_true,if_false]at e ⊢
   exact ih e
theorem ZV{rs:Array Oper}{l:List Bm}{ws:List (Option (Nat×Nat))}{hs:List Ay}{fr:Nat→Fr}{vl:Nat→AV}{H:Ay}(hh:hs[0]? =some H):
  St rs l ws hs fr vl (Array.replicate rs.size false) H (fr 0):=by
 have hoff: ∀i,¬On (Array.replicate rs.size false) i:=by
  intro i h
  unfold On at h
  rw[Array.getD_eq_getD_getElem?,Array.getElem?_replicate]at h
  split at h<;>simp at h
 exact⟨by simp,fun i h=>absurd h (hoff i),⟨0,hh,fun j _ _=>⟨fun h=>absurd h (hoff j),fun h=>absurd h (Nat.not_lt_zero _)⟩⟩,fun i _ _ h=>absurd h (hoff i),fun _ _=>rfl⟩
theorem VV(hm:P.follows .mixedOrders=true)(hT: ∀ao o,T ao o=true→EC P tb ao o)(hcl:Fw P tb fun g args h=>B8 tb cl h g args){Q:Exit→Act→World→Prop}{l:List Bm}
  {ws:List (Option (Nat×Nat))} {rs:Array Oper} {id:Nat} (h:okD T nt rs l ws=true) {C:DP} {f:Fr} {a:Act} (I:Inv tb C) (F:BK C f a nt) {f':Fr} {hs:List Ay} (hh:hs[0]? =some C.H)
  (e:JF tb cl hs l ws 0 f=some f') (k: ∀(D:DP) (a':Act),KU C D→Inv tb D→hs.getLast?=some D.H→BK D f' a' nt→Q .normal a' D.w):(Code.region id rs true).wp P Q a C.w:=by
 obtain⟨fr,vl,h0,h1,h2,h3⟩:=qO l ws 0 f f' e
 obtain⟨X,ID⟩:=drawn I (w:={C.w with drawn:=C.w.drawn+1}) ⟨rfl,rfl,rfl⟩ rfl
 subst h0
 subst h1
 refine wp_region_any hm ?_
 refine sH (vl:=vl) (C₀:=C) hT hcl h (by omega) (fun i ao hi=> ?_) k rs.size _ ⟨C.φ,C.H,{C.w with drawn:=C.w.drawn+1}⟩ (fr 0) a ?_ (ZV hh) X ID (F.ext X)
 ·have:=h3 i ao hi
  simpa only[Nat.zero_add]using this
 ·exact Nat.le_trans List.count_le_length (by simp)
theorem qY(Bk:List Nat)(f:Fr)(t:Nat):get (keepL Bk f) t=get f t∨get (keepL Bk f) t= .junk:=by
 induction Bk with
 |nil=>exact .inr rfl
 |cons u Bk ih=>
  simp only[keepL,List.map_cons,get]
  by_cases h:u=t
  ·subst h;left;rw[if_pos rfl]
  ·rw[if_neg h];exact ih
theorem BK.keep{C:DP}{f:Fr}{a:Act}(F:BK C f a nt)(Bk:List Nat):BK C (keepL Bk f) a nt:=by
 refine⟨fun t=> ?_,F.size,F.defers⟩
 rcases qY Bk f t with h|h
 ·rw[h];exact F.rep t
 ·rw[h];trivial
theorem memH: ∀(l:Ay) (o:C6),o∈l→ED o≤Ds l:=by
 intro l
 induction l with
 |nil=>intro o h;cases h
 |cons x l ih=>
  intro o h
  simp only[Ds]
  rcases List.mem_cons.1 h with e|h
  ·subst e;omega
  ·have:=ih o h;omega
structure Next(tb:Dh)(C:DP)(nt:Nat)(f:Fr)(h:Ay)(D:DP)(a:Act):Prop where
 ext:KU C D
 inv:Inv tb D
 heap:D.H=h
 fr:BK D f a nt
theorem mA(hm:P.follows .mixedOrders=true)(hT: ∀ao o,T ao o=true→EC P tb ao o)(hcl:Fw P tb fun g args h=>B8 tb cl h g args)(hg: ∀g cs,tb.gl g=some cs→Bx cs=0):
  ∀(ac:AC) (c:Code),Rg T nt ac c=true→ ∀{C:DP} {f:Fr} {a:Act} {e:Ex} {f':Fr} {h':Ay},Bh tb cl ac f C.H=some (e,f',h')→Inv tb C→BK C f a nt→
   ∀{Q:Exit→Act→World→Prop},(∀D a',Next tb C nt f' h' D a'→Q (exOf e) a' D.w)→c.wp P Q a C.w:=by
 intro ac
 induction ac with
 |skip=>
  intro c hok C f a e f' h' he I F Q k
  simp only[Bh,Option.some.injEq,Prod.mk.injEq]at he
  obtain⟨rfl,rfl,rfl⟩:=he
  cases c<;>simp only[Rg,Bool.false_eq_true]at hok
  ·exact wp_skip (k C a ⟨KU.refl C,I,rfl,F⟩)
  ·exact wp_label (k C a ⟨KU.refl C,I,rfl,F⟩)
 |ret=>
  intro c hok C f a e f' h' he I F Q k
  cases c<;>simp only[Rg,Bool.false_eq_true]at hok
  simp only[Bh,Option.some.injEq,Prod.mk.injEq]at he
  obtain⟨rfl,rfl,rfl⟩:=he
  exact wp_ret (k C a ⟨KU.refl C,I,rfl,F⟩)
 |exit id=>
  intro c hok C f a e f' h' he I F Q k
  cases c<;>simp only[Rg,Bool.false_eq_true,beq_iff_eq]at hok
  subst hok
  simp only[Bh,Option.some.injEq,Prod.mk.injEq]at he
  obtain⟨rfl,rfl,rfl⟩:=he
  exact wp_exit (k C a ⟨KU.refl C,I,rfl,F⟩)
 |reg l=>
  intro c hok C f a e f' h' he I F Q k
  cases c with
  |region id rs b=>
   cases b<;>simp only[Rg,Bool.false_eq_true]at hok
   simp only[Bh]at he
   obtain⟨p,hp,he⟩:=Option.map_eq_some_iff.1 he
   obtain⟨p1,p2⟩:=p
   simp only[Prod.mk.injEq]at he
   obtain⟨rfl,rfl,rfl⟩:=he
   exact pW hT hcl hok I F hp fun D a' X ID hH FD=>k D a' ⟨X,ID,hH,FD⟩
  |_=>simp[Rg]at hok
 |regq l=>
  intro c hok C f a e f' h' he I F Q k
  cases c with
  |region id rs b=>
   cases b<;>simp only[Rg,Bool.false_eq_true]at hok
   simp only[Bh]at he
   obtain⟨p,hp,he⟩:=Option.map_eq_some_iff.1 he
   simp only[Prod.mk.injEq]at he
   obtain⟨rfl,rfl,rfl⟩:=he
   refine VV hm hT hcl hok I F rfl (aF l hp) fun D a' X ID hH FD=>k D a' ⟨X,ID,?_,FD⟩
   simpa using hH.symm
  |_=>simp[Rg]at hok
 |regd l ws=>
  intro c hok C f a e f' h' he I F Q k
  cases c with
  |region id rs b=>
   cases b<;>simp only[Rg,Bool.false_eq_true]at hok
   simp only[Bh]at he
   obtain⟨hs,_,he⟩:=Option.bind_eq_some_iff.1 he
   obtain⟨f1,hd,he⟩:=Option.bind_eq_some_iff.1 he
   obtain⟨h1,hl,he⟩:=Option.map_eq_some_iff.1 he
   simp only[Prod.mk.injEq]at he
   obtain⟨rfl,rfl,rfl⟩:=he
   refine VV hm hT hcl hok I F rfl hd fun D a' X ID hH FD=>k D a' ⟨X,ID,?_,FD⟩
   rw[hl]at hH
   exact(Option.some.inj hH).symm
  |_=>simp[Rg]at hok
 |seq x y ihx ihy=>
  intro c hok C f a e f' h' he I F Q k
  cases c with
  |seq c d=>
   simp only[Rg,Bool.and_eq_true]at hok
   simp only[Bh]at he
   obtain⟨p,hp,he⟩:=Option.bind_eq_some_iff.1 he
   obtain⟨e1,f1,h1⟩:=p
   refine wp_seq (ihx c hok.1 hp I F fun D a' N=> ?_)
   cases e1 with
   |normal=>
    obtain⟨X,ID,hH,FD⟩:=N
    exact ihy d hok.2 (by rw[hH];exact he) ID FD fun D' a'' N'=>k D' a'' ⟨X.trans N'.ext,N'.inv,N'.heap,N'.fr⟩
   |exit id=>
    simp only[Option.some.injEq,Prod.mk.injEq]at he
    obtain⟨rfl,rfl,rfl⟩:=he
    exact k D a' N
   |ret=>
    simp only[Option.some.injEq,Prod.mk.injEq]at he
    obtain⟨rfl,rfl,rfl⟩:=he
    exact k D a' N
  |_=>simp[Rg]at hok
 |cond x y z ihy ihz=>
  intro c hok C f a e f' h' he I F Q k
  cases c with
  |cond v c d=>
   simp only[Rg,Bool.and_eq_true]at hok
   have r:=Bd I F hok.1.1
   simp only[Bh]at he
   split at he
   ·rename_i t ht
    rw[ht]at r
    cases t with
    |true=>exact wp_cond_true r (ihy c hok.1.2 (by simpa using he) I F k)
    |false=>exact wp_cond_false r (ihz d hok.2 (by simpa using he) I F k)
   ·cases he
  |_=>simp[Rg]at hok
 |blk id x ih=>
  intro c hok C f a e f' h' he I F Q k
  cases c with
  |block id' c=>
   simp only[Rg,Bool.and_eq_true,beq_iff_eq]at hok
   obtain⟨rfl,hok⟩:=hok
   simp only[Bh]at he
   obtain⟨p,hp,he⟩:=Option.map_eq_some_iff.1 he
   obtain⟨e1,f1,h1⟩:=p
   refine wp_block (ih c hok hp I F fun D a' N=> ?_)
   cases e1 with
   |normal=>
    simp only[Prod.mk.injEq]at he
    obtain⟨rfl,rfl,rfl⟩:=he
    exact k D a' N
   |ret=>
    simp only[Prod.mk.injEq]at he
    obtain⟨rfl,rfl,rfl⟩:=he
    exact k D a' N
   |exit id'=>
    simp only at he
    simp only[exOf,Exit.inBlock]
    by_cases hid:id'=id
    ·rw[if_pos hid]at he ⊢
     simp only[Prod.mk.injEq]at he
     obtain⟨rfl,rfl,rfl⟩:=he
     exact k D a' N
    ·rw[if_neg hid]at he ⊢
     simp only[Prod.mk.injEq]at he
     obtain⟨rfl,rfl,rfl⟩:=he
     exact k D a' N
  |_=>simp[Rg]at hok
 |scope x ih=>
  intro c hok C f a e f' h' he I F Q k
  cases c with
  |scope c=>
   simp only[Rg]at hok
   refine wp_scope_straight (ih c hok he I F fun D a' N=> ?_)
   have:=k D a' N
   cases e<;>exact this
  |_=>simp[Rg]at hok
 |stop=>
  intro c hok C f a e f' h' he I F Q k
  simp[Bh]at he
 |keep Bk x ih=>
  intro c hok C f a e f' h' he I F Q k
  simp only[Rg]at hok
  simp only[Bh]at he
  obtain⟨p,hp,he⟩:=Option.map_eq_some_iff.1 he
  obtain⟨e1,f1,h1⟩:=p
  refine ih c hok hp I F fun D a' N=> ?_
  cases e1 with
  |normal=>
   simp only[Prod.mk.injEq]at he
   obtain⟨rfl,rfl,rfl⟩:=he
   exact k D a' ⟨N.ext,N.inv,N.heap,N.fr.keep Bk⟩
  |exit id=>
   simp only[Prod.mk.injEq]at he
   obtain⟨rfl,rfl,rfl⟩:=he
   exact k D a' N
  |ret=>
   simp only[Prod.mk.injEq]at he
   obtain⟨rfl,rfl,rfl⟩:=he
   exact k D a' N
 |loop Bk x ih=>
  intro c hok C f a e f' h' he I F Q k
  cases c with
  |loop c=>
   simp only[Rg]at hok
   simp only[Bh,lp]at he
   split at he
   ·rename_i hex
    have key: ∀(n:Nat) {D:DP} {f:Fr} {a:Act},QK (KC Bk (Bh tb cl x)) n f D.H=some (e,f',h')→KU C D→Inv tb D→BK D f a nt→Code.rounds P c Q n a D.w:=by
     intro n
     induction n with
     |zero=>intro D f a h;simp[QK]at h
     |succ n ihn=>
      intro D f a h X ID FD
      simp only[QK]at h
      rw[rounds_succ]
      have rnd: ∀{e1 f1 h1},KC Bk (Bh tb cl x) f D.H=some (e1,f1,h1)→ ∃f2 h2,Bh tb cl x (keepL Bk f) D.H=some (e1,f2,h2)∧
        (e1= .normal→(f1,h1)=(keepL Bk f2,h2))∧(e1≠ .normal→f1=f2∧h1=h2):=by
       intro e1 f1 h1 hr
       simp only[KC]at hr
       obtain⟨⟨e2,f2,h2⟩,hp,hr⟩:=Option.map_eq_some_iff.1 hr
       cases e2<;>simp only[Prod.mk.injEq]at hr
       ·obtain⟨he1,hq⟩:=hr
        subst he1
        exact⟨f2,h2,hp,fun _=>by rw[hq.1,hq.2],fun h=>absurd rfl h⟩
       all_goals obtain⟨rfl,rfl,rfl⟩:=hr
       ·exact⟨_,_,hp,fun h=>(by cases h),fun _=>⟨rfl,rfl⟩⟩
       ·exact⟨_,_,hp,fun h=>(by cases h),fun _=>⟨rfl,rfl⟩⟩
      cases hr:KC Bk (Bh tb cl x) f D.H with
      |none=>rw[hr]at h;simp at h
      |some p=>
       obtain⟨e1,f1,h1⟩:=p
       rw[hr]at h
       obtain⟨f2,h2,hx,hn,ho⟩:=rnd hr
       refine ih c hok hx ID (FD.keep Bk) fun D' a' N=> ?_
       by_cases hnorm:e1= .normal
       ·subst hnorm
        have hs:=hn rfl
        simp only[]at h
        simp only[exOf,Exit.then]
        obtain⟨X',ID',hH',FD'⟩:=N
        simp only[Prod.mk.injEq]at hs
        obtain⟨rfl,rfl⟩:=hs
        exact ihn (D:=D') (f:=keepL Bk f2) (by rw[hH'];exact h) (X.trans X') ID' (FD'.keep Bk)
       ·obtain⟨rfl,rfl⟩:=ho hnorm
        have h':some (e1,f1,h1)=some (e,f',h'):=by
         cases e1 with
         |normal=>exact absurd rfl hnorm
         |exit id=>simpa using h
         |ret=>simpa using h
        simp only[Option.some.injEq,Prod.mk.injEq]at h'
        obtain⟨rfl,rfl,rfl⟩:=h'
        have:=k D' a' ⟨X.trans N.ext,N.inv,N.heap,N.fr⟩
        cases e1 with
        |normal=>exact absurd rfl hnorm
        |exit id=>exact this
        |ret=>exact this
    exact wp_loop_rounds _ (key _ he (KU.refl C) I F)
   ·cases he
  |_=>simp[Rg]at hok
end
end Go.Proofs.YtobejhpigbllpaaGreatDoor.Am
namespace Go.Proofs.YtobejhpigbllpaaGreatDoor.Am
def eC(P:Program):KT→ResultVar→Bool
 | .tmp t, .tmp u=>t==u
 | .cell ag n a, .cell b t=>a==b&&ag==GQ P t&&n==P.cellsOf t&&(P.underlying t).isSome
 |_,_=>false
def Pp(P:Program):List KT→List ResultVar→Bool
 |[],[]=>true
 |x::r,y::q=>eC P x y&&Pp P r q
 |_,_=>false
def B9(T:H6→Oper→Bool)(P:Program)(fn:D9)(g:Nat):Bool:=
 match P.funcs[g]? with
 |some F=>(match F.body with
  |some c=>Rg T fn.nt fn.body c
  |none=>false)&& !(F.name== "runtime.NumGoroutine")&&fn.nt==F.ntmps&&decide (fn.np≤fn.nt)&&Pp P fn.res F.results.toList
 |none=>false
section
variable{T:H6→Oper→Bool}{P:Program}{tb:Dh}{cl:Nat→List AV→Ay→Lk}{nt:Nat}
theorem VQ{C:DP}(I:Inv tb C){t:TypeId}(hu:(P.underlying t).isSome=true){x:AV}{y:Value}(hr:HA C x y){v:AV}(h:load C.H (GQ P t) (P.cellsOf t) x=some v):
  ∃(p:Addr) (z:Value),y= .pointer (some p)∧(loadVar t p).run P C.w= .ok z C.w∧HA C v z:=by
 simp only[load]at h
 cases hp:place C.H x with
 |none=>rw[hp]at h;simp at h
 |some q=>
  obtain⟨cs,off⟩:=q
  rw[hp]at h
  simp only[Option.bind_some]at h
  split at h
  ·rename_i hle
   obtain⟨b,base,vs,e,hh,hl,hs⟩:=YS I hr hp
   have hsub:=hh.sub off (P.cellsOf t)
   have hrl:B0 C (sub cs off (P.cellsOf t)) ((vs.drop off).take (P.cellsOf t)):=hl.drop.take
   have hlen:((vs.drop off).take (P.cellsOf t)).length=P.cellsOf t:=by
    rw[hrl.length];simp only[sub,List.length_take,List.length_drop];omega
   obtain⟨q1,q2⟩:=TH h (O6 hs off _) hrl
   have hinfo:(P.info? t).isSome=true:=by
    obtain⟨d,hd⟩:=Option.isSome_iff_exists.1 hu
    exact info_of_underlying hd
   have hlc:=HD (P:=P) hsub
   rw[hlen]at hlc
   cases hag:GQ P t with
   |true=>
    refine⟨_, .agg ((vs.drop off).take (P.cellsOf t)).toArray,e,?_,q1 hag⟩
    simp only[loadVar,Sem.run_bind,Sem.run_pure,Result.andThen_ok,Fo t C.w hu,hag,if_true,Cl hinfo,hlc]
   |false=>
    obtain⟨z,hz,rz⟩:=q2 hag
    have hc:C.w.cell? ⟨b,base+off,none⟩=some z:=by
     have:=hsub 0 z (by rw[hz];rfl)
     simpa using this
    refine⟨_,z,e,?_,rz⟩
    simp only[loadVar,Sem.run_bind,Result.andThen_ok,Fo t C.w hu,hag,Bool.false_eq_true,if_false,run_load,hc]
  ·cases h
theorem dT{C:DP}(I:Inv tb C){f:Fr}{a:Act}(F:BK C f a nt): ∀(l:List KT) (rs:List ResultVar),Pp P l rs=true→ ∀{vs:List AV},results f C.H l=some vs→
  ∃xs:List Value,(rs.mapM (m:=Sem) fun
   | .tmp t=>pure (a.tmps.getD t undef)
   | .cell b t=>do loadVar t (←asAddr (a.tmps.getD b undef))).run P C.w= .ok xs C.w∧B0 C vs xs:=by
 intro l
 induction l with
 |nil=>
  intro rs h vs e
  cases rs with
  |cons r rs=>simp[Pp]at h
  |nil=>
   simp only[results,Option.some.injEq]at e
   subst e
   exact⟨[],by simp,rfl⟩
 |cons x l ih=>
  intro rs h vs e
  cases rs with
  |nil=>simp[Pp]at h
  |cons r rs=>
   simp only[Pp,Bool.and_eq_true]at h
   obtain⟨h1,h2⟩:=h
   cases x with
   |tmp t=>
    cases r with
    |cell b t=>simp[eC]at h1
    |tmp u=>
     simp only[eC,beq_iff_eq]at h1
     subst h1
     simp only[results]at e
     obtain⟨vs',hv,rfl⟩:=Option.map_eq_some_iff.1 e
     obtain⟨xs,q1,q2⟩:=ih rs h2 hv
     refine⟨a.tmps.getD t undef::xs,?_,⟨_,_,rfl,F.rep t,q2⟩⟩
     simp only[List.mapM_cons,Sem.run_bind,Sem.run_pure,Result.andThen_ok,q1]
   |cell ag n t=>
    cases r with
    |tmp u=>simp[eC]at h1
    |cell b ty=>
     simp only[eC,Bool.and_eq_true,beq_iff_eq]at h1
     obtain⟨⟨⟨rfl,rfl⟩,rfl⟩,hu⟩:=h1
     simp only[results]at e
     obtain⟨v,hv,e⟩:=Option.bind_eq_some_iff.1 e
     obtain⟨vs',hv',rfl⟩:=Option.map_eq_some_iff.1 e
     obtain⟨xs,q1,q2⟩:=ih rs h2 hv'
     obtain⟨p,z,hp,hz,rz⟩:=VQ I hu (F.rep t) hv
     refine⟨z::xs,?_,⟨_,_,rfl,rz,q2⟩⟩
     have ha:(asAddr (a.tmps.getD t undef)).run P C.w= .ok p C.w:=by rw[hp];rfl
     simp only[List.mapM_cons,Sem.run_bind,Sem.run_pure,Result.andThen_ok,ha,hz,q1]
def dZ:List Value→Value
 |[x]=>x
 |xs=> .tuple xs.toArray
theorem NV{C:DP}: ∀{vs:List AV} {xs:List Value},B0 C vs xs→HA C (GB vs) (dZ xs)
 |[],xs,h=>by rw[show xs=[]from h];exact⟨[],rfl,rfl⟩
 |[v],xs,⟨x,q,e,h1,h2⟩=>by rw[e,show q=[]from h2];exact h1
 |v::u::vs,xs,⟨x,q,e,h1,⟨y,q',e',h2,h3⟩⟩=>by
  rw[e,e']
  exact⟨x::y::q',rfl,x,_,rfl,h1,y,_,rfl,h2,h3⟩
theorem dP{fn:Func}{C:DP}(I:Inv tb C){f:Fr}{a:Act}(F:BK C f a nt){l:List KT}(h:Pp P l fn.results.toList=true){vs:List AV}(e:results f C.H l=some vs):
  ∃xs,(Go.results fn a.tmps).run P C.w= .ok (dZ xs) C.w∧B0 C vs xs:=by
 obtain⟨xs,h1,h2⟩:=dT I F l _ h e
 refine⟨xs,?_,h2⟩
 have hrun:(Go.results fn a.tmps).run P C.w= .ok (if h:xs.toArray.size=1 then xs.toArray[0]else .tuple xs.toArray) C.w:=by
  unfold Go.results
  rw[Array.mapM_eq_mapM_toList,Sem.run_bind,Sem.run_map]
  exact congrArg (fun r=>(Result.andThen (Result.andThen r fun a w'=> .ok a.toArray w') fun a w'=>Sem.run P (pure (if h:a.size=1 then a[0]else Value.tuple a)) w')) h1
 rw[hrun]
 match xs with
 |[]=>rfl
 |[x]=>rfl
 |x::y::xs=>simp[dZ]
end
end Go.Proofs.YtobejhpigbllpaaGreatDoor.Am
