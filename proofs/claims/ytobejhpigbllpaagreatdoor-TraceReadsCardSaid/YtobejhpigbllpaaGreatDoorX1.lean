/-
  Each of the machine's operations does what the model's does: those that call nobody.
-/
import Derived.Laws.IdiomCopy
import Derived.Laws.StructEq
import Derived.Laws.Cells
import Derived.Laws.AppendOwn
import Derived.Laws.Tables
import Derived.ChangeKeysEq
import Derived.MapKept
import Derived.Laws.MakeOwn
import Derived.Laws.BytesString
import Derived.Lib.ConvBytes
import Derived.Lib.Builder
import Derived.Lib.UnsafeStr
import Derived.Still
import Derived.Tactics
import Derived.LoopN
import Derived.Scope
import Derived.Control
import Derived.Laws.Sem
import Derived.Test.YtobejhpigbllpaaGreatDoorX0
set_option linter.unusedVariables false
set_option linter.unusedSimpArgs false
namespace Go.Proofs.YtobejhpigbllpaaGreatDoor.Am
open _root_.Array renaming getD_eq_getD_getElem?→dh, getElem?_append_left→j6, getElem?_eq_getElem→fi, getElem?_eq_some_iff→ma, getElem?_modify→jw, getElem?_setIfInBounds_ne→k7, getElem?_toList→nj, length_toList→kn, range→pw, replicate→nf, toList_extract→j7, toList_inj→jk, toList_map→mr, toList_setIfInBounds→l8
open B6 renaming app→ou
open Bk renaming app→p0, ext→nr, flat→n7, lens→i6, take→o4
open Bool renaming and_eq_true→af, and_true→kp, false_eq_true→au, not_eq_true'→cg, not_true→kr, or_eq_true→gq, true_and→oq
open Builtin renaming append_→ku, copy_→ml, firstCells→dz, lenOf→lg, len_→pd, unsafeString_→nk, zeroCells→j1
open _root_.ByteArray renaming ext→kq, push→nw, size→l9
open Classical renaming byContradiction→km
open Conv renaming unsafePointer→ow
open DR renaming more→o5
open Go renaming binOp→d4, results→ox
open Instr renaming fill→lc, slice→pr, sliceAt→mj, sliceBounds→j0, sureAddr→jj
open IntKind renaming i64→qm
open LH renaming refl→lf
open List renaming all_append→jt, all_cons→fc, all_eq_true→cd, any_eq_true→kd, append_assoc→dl, cons_append→dt, drop_append→kf, drop_append_of_le_length→dn, drop_drop→ck, drop_eq_getElem_cons→bk, drop_left'→ez, drop_of_length_le→ce, drop_succ_cons→jd, drop_take→gb, eq_nil_of_length_eq_zero→cj, extract→m8, flatMap_cons→eh, flatten_append→f6, flatten_cons→bm, flatten_nil→mq, foldl_cons→ll, getElem?_append_left→br, getElem?_append_right→bo, getElem?_cons_succ→c0, getElem?_cons_zero→bx, getElem?_drop→eo, getElem?_eq_getElem→ad, getElem?_eq_some_iff→ca, getElem?_map→ff, getElem?_set_self→dg, getElem?_take→dp, getElem?_toArray→jx, length→f8, length_append→aw, length_cons→bb, length_drop→bh, length_nil→bz, length_replicate→k8, length_take→a6, mapM_cons→nv, map_cons→bn, map_nil→ew, map_take→oo, map_toArray→gi, mem_append→go, mem_append_left→ny, mem_append_right→nl, mem_cons→bu, mem_cons_of_mem→bg, mem_cons_self→bj, mem_flatten→jh, mem_map→ls, mem_of_getElem?→cq, mem_of_mem_drop→cu, mem_of_mem_take→dc, mem_or_eq_of_mem_set→me, mem_range'_1→gk, nil_append→dw, range→ik, range'→fh, range'_succ→kg, range_eq_range'→lh, replicate→aq, replicate_succ→jg, set_append_right→ni, set_cons_succ→jo, set_cons_zero→ir, size_toArray→j2, take→pn, take_append→gw, take_append_of_le_length→d8, take_of_length_le→av, take_succ_cons→im, take_succ_eq_append_getElem→bd, take_zero→j5, zipIdx_cons→ke
open List.cons renaming injEq→lj
open Nat renaming add_assoc→gz, add_mul→fx, add_zero→ja, beq→fv, beq_eq→j8, beq_refl→lu, blt→je, eq_of_beq_eq_true→cv, eq_zero_or_pos→d7, le_refl→be, le_trans→dy, lt_or_ge→dq, min_eq_left→f3, mod_eq_of_lt→kh, mul_le_mul_right→cr, mul_one→nx, not_lt_zero→lm, succ_mul→ci, zero_add→da, zero_le→ib, zero_mul→jb
open Ne renaming symm→jz
open Op renaming equalIn→du, shift→qb, stringOp→nu
open Option renaming bind_eq_some_iff→ab, bind_none→mo, bind_some→aa, getD_some→iq, isSome_iff_exists→bl, map_eq_some_iff→aj, map_none→df, map_some→an
open Option.some renaming inj→bf, injEq→ae
open Prod.mk renaming injEq→ch
open Program renaming cellsOf→kt
open Region renaming wanted→mm
open Sem renaming run→py
open UInt8 renaming ofNat→bc
open Utf8 renaming decode→gg, encode→mg
open Value renaming cells→pp
open World renaming cell?→f7, freeze→m9, frozen?→jc, shape?→pf
section
def isS:AV→Value→Bool
 | .b x, .bool y=>x==y
 | .i k n, .int j m=>k==j&&n==m
 | .s l, .string s=>l==s.data.toList
 | .nilp, .pointer none=>true
 | .nils, .slice none 0 0=>true
 | .nilm, .map none=>true
 | .nilf, .nilFunc=>true
 | .nili, .nilIface=>true
 |_,_=>false
def QN:List AV→List Value→Bool
 |[],[]=>true
 |a::r,v::q=>isS a v&&QN r q
 |_,_=>false
def isV(a:AV)(v:Value):Bool:=
 match a,v with
 | .agg cs, .agg vs=>QN cs vs.toList
 |a,v=>isS a v
theorem vP{C:DR}{a:AV}{v:Value}(h:isS a v=true):HG C a v∧scal a=true:=by
 unfold isS at h
 split at h<;>simp only[au,af,beq_iff_eq]at h
 ·subst h;exact⟨rfl,rfl⟩
 ·obtain⟨rfl,rfl⟩:=h;exact⟨rfl,rfl⟩
 ·subst h;exact⟨by simp[HG],rfl⟩
 all_goals exact⟨rfl,rfl⟩
theorem O2{C:DR}: ∀{l:List AV} {vs:List Value},QN l vs=true→B6 C l vs∧l.all scal=true
 |[],[],_=>⟨rfl,rfl⟩
 |[],_::_,h=>by simp[QN]at h
 |_::_,[],h=>by simp[QN]at h
 |_::_,v::q,h=>by
  simp only[QN,af]at h
  obtain⟨h1,h2⟩:=vP (C:=C) h.1
  obtain⟨h3,h4⟩:=O2 (C:=C) h.2
  exact⟨⟨v,q,rfl,h1,h3⟩,by simp[h2,h4]⟩
theorem isV_rep{C:DR}{a:AV}{v:Value}(h:isV a v=true):HG C a v:=by
 unfold isV at h
 split at h
 ·rename_i cs vs
  obtain⟨h1,h2⟩:=O2 (C:=C) h
  exact⟨vs.toList,by simp,h2,h1⟩
 ·exact(vP h).1
def BG:AO→Operand→Bool
 | .t n, .tmp m=>n==m
 | .k a, .const v=>isV a v
 | .f n, .func m=>n==m
 | .g n, .global m=>n==m
 |_,_=>false
def Zh:List AO→List Operand→Bool
 |[],[]=>true
 |x::r,y::q=>BG x y&&Zh r q
 |_,_=>false
def eL:Option AO→Option Operand→Bool
 |none,none=>true
 |some x,some y=>BG x y
 |_,_=>false
def G6(P:Program)(t:TypeId):Bool:=
 match P.underlying t with
 |some (.struct _)=>true
 |some (.array _ _)=>true
 |_=>false
structure BO(C:DR)(f:Fr)(a:Act)(nt:Nat):Prop where
 rep: ∀t,HG C (get f t) (a.tmps.getD t undef)
 size:a.tmps.size=nt
 defers:a.defers=[]
section
variable{cl:Nat→List AV→Az→Mb}{P:Program}{tb:Di}{C:DR}{f:Fr}{a:Act}{nt:Nat}
theorem Be(I:Inv tb C)(F:BO C f a nt){x:AO}{y:Operand}(h:BG x y=true):HG C (eval tb f x) (a.eval y):=by
 cases x<;>cases y<;>simp only[BG,au,beq_iff_eq]at h
 ·subst h;exact F.rep _
 ·exact isV_rep h
 ·subst h;exact⟨[],[],rfl,rfl,rfl⟩
 ·subst h
  simp only[eval,Act.eval]
  split
  ·rename_i cs hg
   obtain⟨h1,h2,h3,vs,h4,h5⟩:=I.gl _ cs hg
   exact⟨_,0,vs,rfl,h1,h2,h4,h3,h5⟩
  ·trivial
theorem Vs(I:Inv tb C)(F:BO C f a nt): ∀{xs:List AO} {ys:List Operand},Zh xs ys=true→B6 C (xs.map (eval tb f)) (ys.map a.eval)
 |[],[],_=>rfl
 |[],_::_,h=>by simp[Zh]at h
 |_::_,[],h=>by simp[Zh]at h
 |_::_,y::q,h=>by
  simp only[Zh,af]at h
  exact⟨a.eval y,q.map a.eval,rfl,Be I F h.1,Vs I F h.2⟩
theorem BO.put(F:BO C f a nt){D:DR}(X:LH C D){d:Option Nat}(hd: ∀t,d=some t→t<nt){x:AV}{v:Value}(r:HG D x v):BO D (put f d x) (a.put d v) nt:=by
 cases d with
 |none=>exact⟨fun t=>(F.rep t).ext X,F.size,F.defers⟩
 |some t=>
  have ht:=hd t rfl
  refine⟨fun u=> ?_,by simp[Act.put,F.size],F.defers⟩
  simp only[Am.put,get,Act.put]
  by_cases e:t=u
  ·subst e
   rw[qn rfl]
   have:(a.tmps.setIfInBounds t v).getD t undef=v:=by
    simp[dh,F.size,ht]
   rw[this];exact r
  ·rw[qo e]
   have:(a.tmps.setIfInBounds t v).getD u undef=a.tmps.getD u undef:=by
    simp[dh,k7 e]
   rw[this];exact(F.rep u).ext X
theorem BO.ext(F:BO C f a nt){D:DR}(X:LH C D):BO D f a nt:=⟨fun t=>(F.rep t).ext X,F.size,F.defers⟩
def Yields(tb:Di)(C:DR)(r:AV×Option Az)(x:Result Next):Prop:=
 ∃D:DR,LH C D∧Inv tb D∧D.H=r.2.getD C.H∧((∃v,x= .ok (.value v) D.w∧HG D r.1 v)∨(x= .ok .skip D.w∧HG D r.1 undef))
theorem A9(I:Inv tb C){r:AV}{v:Value}{x:Result Next}(h:x= .ok (.value v) C.w)(hr:HG C r v):Yields tb C (r,none) x:=
 ⟨C,lf C,I,rfl, .inl ⟨v,h,hr⟩⟩
theorem SQ(I:Inv tb C){r:AV}{v:Value}{x:Result Next}{p:Place}{o:CB}{w:World}(hrest:Rest C.w w)(h:x= .ok (.value v) w)
  (hs:C.w.heap.size<w.heap.size) (hp:p.blk=C.w.heap.size) (hw: ∀b,b<C.w.heap.size→w.heap[b]? =C.w.heap[b]?)
  (ho:Obj (C.more p o w) p o) (hr:(C.more p o w).φ C.H.length=p→HG (C.more p o w) r v):Yields tb C (r,some (C.H++[o])) x:=by
 obtain⟨X,hI,hφ⟩:=more I (o:=o) hrest hs hp hw
 exact⟨C.more p o w,X,hI ho,rfl, .inl ⟨v,h,hr hφ⟩⟩
theorem gB{o:Oper}{r:AV×Option Az}(h:Yields tb C r ((execOp a.eval o).run P C.w)){next:Act→World→Prop}{Q:Exit→Act→World→Prop}
  (k: ∀(v:Value) (D:DR),LH C D→Inv tb D→D.H=r.2.getD C.H→HG D r.1 v→next (a.put o.dst v) D.w):o.wp P a C.w next Q:=by
 unfold Oper.wp
 obtain⟨D,X,I,hH,⟨v,e,hr⟩|⟨e,hr⟩⟩:=h
 ·rw[e];exact k v D X I hH hr
 ·rw[e];exact k undef D X I hH hr
theorem AJ{t:TypeId}{d:TypeDesc}(h:P.underlying t=some d)(w:World):(underlying t).run P w= .ok d w:=by
 simp[underlying,h]
theorem Fu(t:TypeId)(w:World)(hd:(P.underlying t).isSome=true):(isAgg t).run P w= .ok (G6 P t) w:=by
 obtain⟨d,hd⟩:=bl.1 hd
 simp only[isAgg,Sem.run_bind,AJ hd,Result.andThen_ok,G6,hd]
 cases d<;>rfl
theorem KX{t:TypeId}{i:TypeInfo}(h:P.info? t=some i)(w:World):(typeInfo t).run P w= .ok i w:=by
 simp[typeInfo,h]
theorem Cq{t:TypeId}(h:(P.info? t).isSome=true)(w:World):(sizeOf t).run P w= .ok (P.cellsOf t) w:=by
 obtain⟨i,hi⟩:=bl.1 h
 simp[sizeOf,KX hi,kt,hi]
theorem info_of_underlying{t:TypeId}{d:TypeDesc}(h:P.underlying t=some d):(P.info? t).isSome=true:=by
 unfold Program.underlying at h
 cases hi:P.info? t with
 |none=>rw[hi]at h;simp at h
 |some i=>rfl
theorem G4(b o n:Nat):(⟨b,o,none⟩:Addr).add n=⟨b,o+n,none⟩:=by
 unfold Addr.add;split<;>simp_all
theorem HJ{w:World}{b o:Nat}{vs:List Value}(h:Ev w b o vs):(loadCells ⟨b,o,none⟩ vs.length).run P w= .ok vs.toArray w:=
 run_loadCells_list (P:=P) w ⟨b,o,none⟩ vs fun j v e=>by rw[G4];exact h j v e
theorem Ev.sub{w:World}{b base:Nat}{vs:List Value}(h:Ev w b base vs)(off n:Nat):Ev w b (base+off) ((vs.drop off).take n):=by
 intro j v e
 rw[dp]at e
 split at e
 ·rw[eo]at e
  rw[gz]
  exact h _ v e
 ·simp at e
theorem PL{cs:List AV}(h:cs.all scal=true)(off n:Nat):(sub cs off n).all scal=true:=by
 simp only[cd,sub]at*
 exact fun x hx=>h x (cu (dc hx))
theorem Wf{cs:List AV}{vs:List Value}{agg:Bool}{v:AV}(h:Iq agg cs=some v)(hs:cs.all scal=true)(r:B6 C cs vs):
  (agg=true→HG C v (.agg vs.toArray))∧(agg=false→ ∃x,vs=[x]∧HG C v x):=by
 cases agg with
 |true=>
  simp only[Iq]at h
  obtain rfl:=bf h
  exact⟨fun _=>⟨vs,rfl,hs,r⟩,fun e=>by cases e⟩
 |false=>
  refine⟨fun e=>(by cases e),fun _=> ?_⟩
  match cs,h with
  |[c],h=>
   simp only[Iq]at h
   obtain rfl:=bf h
   obtain⟨x,q,e,h1,h2⟩:=r
   exact⟨x,by rw[e,show q=[]from h2],h1⟩
theorem eF(I:Inv tb C){x:AV}{v:Value}(r:HG C x v){cs:List AV}{off:Nat}(h:place C.H x=some (cs,off)):
  ∃b base vs,v= .pointer (some ⟨b,base+off,none⟩)∧Ev C.w b base vs∧B6 C cs vs∧cs.all scal=true:=by
 cases x<;>simp only[place]at h
 case ptr id o=>
  unfold C3 at h
  split at h
  ·rename_i t' cs' hc
   simp only[an,ae,ch]at h
   obtain⟨rfl,rfl⟩:=h
   obtain⟨_,e⟩:=r
   obtain⟨vs,arr,et,fr,⟨h1,hlb⟩,h2,h3,h4,h5,h6⟩:=I.obj id _ hc
   exact⟨_,0,vs,by simpa using e,h5,h4,h3⟩
  ·simp at h
 case pe id n i o=>
  obtain⟨_,fz,sz,els,hg,hl,e⟩:=r
  simp only[hg,aa]at h
  split at h
  ·rename_i hn
   simp only[ae,ch]at h
   obtain⟨rfl,rfl⟩:=h
   obtain⟨tl,hg',hlab⟩:=KY hg
   obtain⟨vss,arr,et,fr,⟨h1,hfr0,hlb⟩,h2,h3,h4,h5,h6,h7,h8,h9⟩:=I.obj id _ hg'
   have hlens:=i6 (fun x hx=>(h4 x hx).1) h5
   have hfl: ∀(l:List (List Value)) (i:Nat),(∀y∈l,y.length=sz)→(l.drop i).flatten=l.flatten.drop (i*sz):=by
    intro l
    induction l with
    |nil=>intro i _;simp
    |cons y l ih=>
     intro i hy
     have hyl:=hy y bj
     cases i with
     |zero=>simp
     |succ i=>
      simp only[jd,bm]
      rw[ih i (fun z hz=>hy z (bg _ hz)),show(i+1)*sz=y.length+i*sz by rw[hyl,ci];omega,←ck,ez rfl]
   refine⟨_,(C.φ id).base+i*sz,(vss.drop i).flatten,by rw[e hn],fun j u hu=> ?_,n7 h5.drop,cd.2 fun x hx=>(by obtain⟨y,hy,hx⟩:=jh.1 hx;exact cd.1 (h4 y (cu hy)).2 x hx)⟩
   rw[hfl vss i hlens,eo]at hu
   rw[gz]
   exact h7 _ u hu
  ·simp at h
 case ip cs' o=>
  simp only[ae,ch]at h
  obtain⟨rfl,rfl⟩:=h
  obtain⟨b,base,vs,e,_,_,h1,h2,h3⟩:=r
  exact⟨b,base,vs,e,h1,h3,h2⟩
 all_goals simp at h
theorem sim_ld(I:Inv tb C)(F:BO C f a nt){o:Oper}{t:TypeId}{x:AO}{y:Operand}(ho:o.op= .load t y)(hx:BG x y=true)(hu:(P.underlying t).isSome=true)
  {r:AV×Option Az} (h:val (load C.H (G6 P t) (P.cellsOf t) (eval tb f x))=some r):Yields tb C r ((execOp a.eval o).run P C.w):=by
 have hr:=Be I F hx
 simp only[val,load]at h
 cases hp:place C.H (eval tb f x)with
 |none=>rw[hp]at h;simp at h
 |some p=>
  obtain⟨cs,off⟩:=p
  rw[hp]at h
  simp only[aa]at h
  split at h
  ·rename_i hle
   cases hv:Iq (G6 P t) (sub cs off (P.cellsOf t))with
   |none=>rw[hv]at h;simp at h
   |some v=>
    rw[hv]at h
    obtain rfl:=bf h
    obtain⟨b,base,vs,e,hh,hl,hs⟩:=eF I hr hp
    have hsub:=hh.sub off (P.cellsOf t)
    have hrl:B6 C (sub cs off (P.cellsOf t)) ((vs.drop off).take (P.cellsOf t)):=hl.drop.take
    have hlen:((vs.drop off).take (P.cellsOf t)).length=P.cellsOf t:=by
     rw[hrl.length];simp only[sub,a6,bh];omega
    obtain⟨q1,q2⟩:=Wf hv (PL hs off _) hrl
    have hinfo:(P.info? t).isSome=true:=by
     obtain⟨d,hd⟩:=bl.1 hu
     exact info_of_underlying hd
    have hlc:=HJ (P:=P) hsub
    rw[hlen]at hlc
    cases hag:G6 P t with
    |true=>
     refine A9 I (v:= .agg ((vs.drop off).take (P.cellsOf t)).toArray) ?_ (q1 hag)
     simp only[execOp,ho,e,Instr.loadAt,jj,loadVar,Sem.run_bind,Sem.run_pure,Result.andThen_ok,Fu t C.w hu,hag,qt,Cq hinfo,hlc]
    |false=>
     obtain⟨z,hz,rz⟩:=q2 hag
     refine A9 I (v:=z) ?_ rz
     have hc:C.w.cell? ⟨b,base+off,none⟩=some z:=by
      have:=hsub 0 z (by rw[hz];rfl)
      simpa using this
     simp only[execOp,ho,e,Instr.loadAt,jj,loadVar,Sem.run_bind,Sem.run_pure,Result.andThen_ok,Fu t C.w hu,hag,au,qu,run_load,hc]
  ·simp at h
theorem sim_mv(I:Inv tb C)(F:BO C f a nt){o:Oper}{x:AO}{y:Operand}(ho:o.op= .move y∨o.op= .assign y)(hx:BG x y=true):Yields tb C (eval tb f x,none) ((execOp a.eval o).run P C.w):=by
 refine A9 I (v:=a.eval y) ?_ (Be I F hx)
 rcases ho with ho|ho<;>simp only[execOp,ho,Sem.run_pure]
theorem sim_pick(I:Inv tb C)(F:BO C f a nt){o:Oper}{x1 x2 x3:AO}{y1 y2 y3:Operand}(ho:o.op= .pick y1 y2 y3)(h1:BG x1 y1=true)(h2:BG x2 y2=true)(h3:BG x3 y3=true)
  {t:Bool} (h:eval tb f x1= .b t):Yields tb C (if t then eval tb f x2 else eval tb f x3,none) ((execOp a.eval o).run P C.w):=by
 have r1:=Be I F h1
 rw[h]at r1
 refine A9 I (v:=if t then a.eval y2 else a.eval y3) ?_ ?_
 ·simp only[execOp,ho,show a.eval y1= .bool t from r1,asBool,Sem.run_bind,Sem.run_pure,Result.andThen_ok]
 ·cases t
  ·exact Be I F h3
  ·exact Be I F h2
theorem Jy(w:World)(o:Go.Obj):(w.alloc o).heap[w.heap.size]? =some o:=Array.getElem?_push_size
theorem alloc_old(w:World)(o:Go.Obj){b:Nat}(h:b<w.heap.size):(w.alloc o).heap[b]? =w.heap[b]? :=by
 show(w.heap.push o)[b]? =_
 rw[Array.getElem?_push,qo (by omega)]
theorem HY(w:World)(o:Go.Obj):(w.alloc o).heap.size=w.heap.size+1:=Array.size_push _
theorem Yd(I:Inv tb C){cs:List AV}{vs:Array Value}{e:TypeId}(hs:cs.all scal=true)(hr:B6 C cs vs.toList){x:Result Next}
  (h:x= .ok (.value (.pointer (some ⟨C.w.heap.size,0,none⟩))) (C.w.alloc (.cells vs e))):Yields tb C (.ptr C.H.length 0,some (C.H++[CB.cells (some e) cs])) x:=by
 have hlen:vs.size=cs.length:=by have:=hr.length;simpa using this
 have hlt:C.w.heap.size<(C.w.alloc (.cells vs e)).heap.size:=by rw[HY];omega
 refine SQ (w:=C.w.alloc (.cells vs e)) I (p:=⟨C.w.heap.size,0,vs.size⟩) ⟨rfl,rfl,rfl⟩ h hlt rfl (fun b hb=>alloc_old _ _ hb) ?_ ?_
 ·have X:=(more (w:=C.w.alloc (.cells vs e)) I (o:=CB.cells (some e) cs) (p:=⟨C.w.heap.size,0,vs.size⟩) ⟨rfl,rfl,rfl⟩ hlt rfl (fun b hb=>alloc_old _ _ hb)).1
  have hn:(C.more ⟨C.w.heap.size,0,vs.size⟩ (CB.cells (some e) cs) (C.w.alloc (.cells vs e))).w.heap[C.w.heap.size]? =some (.cells vs e):=Jy _ _
  refine⟨vs.toList,vs,e,(0,0),⟨hn,fun k hk=>by cases hk;rfl⟩,hlen,hs,hr.ext X,?_,?_⟩
  ·intro j v hj
   simp only[f7,hn,da]
   simpa using hj
  ·intro o ho
   simp only[jc,hn]
   simp
 ·intro hφ
  exact⟨⟨CB.cells (some e) cs,by simp[o5],rfl⟩,by rw[hφ]⟩
theorem xC(I:Inv tb C){o:Oper}{t:TypeId}{z:List AV}{i:TypeInfo}{zv:Value}(ho:o.op= .alloc t)(hi:P.info? t=some i)(hz:i.zero=some zv)(hv:QN z zv.cells.toList=true):
  Yields tb C (.ptr C.H.length 0,some (C.H++[CB.cells (some t) z])) ((execOp a.eval o).run P C.w):=by
 obtain⟨h1,h2⟩:=O2 (C:=C) hv
 refine Yd I (e:=t) h2 h1 ?_
 simp only[execOp,ho,Instr.alloc,zeroValue,Sem.run_bind,KX hi,Result.andThen_ok,hz,Sem.run_pure,newVar,newRow,run_newObj]
 rfl
theorem vH{x:AV}{v:Value}(hx:scal x=true)(r:HG C x v):v.oneCell'=true∧v.cells= #[v]:=by
 cases x<;>simp only[scal,au]at hx<;>simp only[HG]at r
 case pe=>obtain⟨⟨p,rfl⟩,_⟩:=r;exact⟨rfl,rfl⟩
 case orow=>obtain⟨⟨p,c,rfl⟩,_⟩:=r;exact⟨rfl,rfl⟩
 case ptr=>obtain⟨_,rfl⟩:=r;exact⟨rfl,rfl⟩
 case ip=>obtain⟨_,_,_,rfl,_⟩:=r;exact⟨rfl,rfl⟩
 case sl=>rcases r with ⟨_,_,_,_,rfl,_⟩|⟨_,_,_,rfl⟩<;>exact⟨rfl,rfl⟩
 case ocel=>obtain⟨_,_,_,rfl,_⟩:=r;exact⟨rfl,rfl⟩
 case mp=>obtain⟨_,rfl⟩:=r;exact⟨rfl,rfl⟩
 case fn=>obtain⟨_,_,rfl,_⟩:=r;exact⟨rfl,rfl⟩
 case ifc=>obtain⟨_,_,rfl,_⟩:=r;exact⟨rfl,rfl⟩
 all_goals (subst r;exact⟨rfl,rfl⟩)
theorem Oz: ∀{cs:List AV} {vs:List Value},cs.all scal=true→B6 C cs vs→ ∀v∈vs,v.oneCell'=true
 |[],_,_,h,v,hv=>by rw[show _=[]from h]at hv;cases hv
 |x::_,_,hs,⟨u,q,e,h,r⟩,v,hv=>by
  simp only[fc,af]at hs
  rw[e]at hv
  rcases bu.1 hv with e'|hv
  ·subst e';exact(vH hs.1 h).1
  ·exact Oz hs.2 r v hv
theorem OE{x:AV}{v:Value}(r:HG C x v)(hn:0<(cellsOf x).length):B6 C (cellsOf x) v.cells.toList∧(cellsOf x).all scal=true:=by
 by_cases hx:scal x=true
 ·have hc:cellsOf x=[x]:=by cases x<;>simp_all [scal,cellsOf]
  rw[hc,(vH hx r).2]
  exact⟨⟨v,[],rfl,r,rfl⟩,by simp[hx]⟩
 ·cases x<;>simp only[scal,not_true_eq_false,au,not_false_eq_true]at hx
  case agg cs=>
   obtain⟨vs,e,h1,h2⟩:=r
   subst e
   exact⟨by simpa [cellsOf,pp]using h2,h1⟩
  case tup cs=>simp[cellsOf]at hn
  case junk=>simp[cellsOf]at hn
theorem sim_box(I:Inv tb C)(F:BO C f a nt){o:Oper}{t:TypeId}{x:AO}{y:Operand}(ho:o.op= .box t y)(hx:BG x y=true)(hn:0<(cellsOf (eval tb f x)).length):
  Yields tb C (.ptr C.H.length 0,some (C.H++[CB.cells (some t) (cellsOf (eval tb f x))])) ((execOp a.eval o).run P C.w):=by
 obtain⟨h1,h2⟩:=OE (Be I F hx) hn
 refine Yd I (e:=t) h2 h1 ?_
 simp only[execOp,ho,Instr.box,Sem.run_bind,Result.andThen_ok,Sem.run_pure,newVar,newRow,run_newObj]
 rfl
theorem sim_nilc(I:Inv tb C)(F:BO C f a nt){o:Oper}{x:AO}{y:Operand}(ho:o.op= .nilCheck y)(hx:BG x y=true){r:AV×Option Az}
  (h:BC tb cl (eval tb f) C.H (.nilc x)=some r):Yields tb C r ((execOp a.eval o).run P C.w):=by
 have hr:=Be I F hx
 simp only[BC]at h
 split at h<;>simp only[ae,reduceCtorEq]at h
 ·rename_i e
  subst h
  rw[e]at hr
  refine A9 I (v:=a.eval y) ?_ hr
  obtain⟨_,e'⟩:=hr
  simp only[execOp,ho,e',Sem.run_pure]
 ·rename_i e
  subst h
  rw[e]at hr
  refine A9 I (v:=a.eval y) ?_ hr
  obtain⟨⟨_,e'⟩,_⟩:=hr
  simp only[execOp,ho,e',Sem.run_pure]
 ·rename_i e
  subst h
  rw[e]at hr
  refine A9 I (v:=a.eval y) ?_ hr
  obtain⟨_,_,_,e',_⟩:=hr
  simp only[execOp,ho,e',Sem.run_pure]
 ·rename_i e
  subst h
  rw[e]at hr
  refine A9 I (v:=a.eval y) ?_ hr
  obtain⟨_,_,e',_⟩:=hr
  simp only[execOp,ho,e',Sem.run_pure]
theorem PI(l:List UInt8):(⟨l.toArray⟩:ByteArray).toList=l:=by
 rw[ByteArray.toList_eq]
theorem R8(l:List UInt8):(⟨l.toArray⟩:ByteArray).size=l.length:=by
 show l.toArray.size=_
 simp
theorem IC{x:AV}{v:Value}{n:Int}(r:HG C x v)(h:HE x=some n): ∃k,x= .i k n∧v= .int k n:=by
 cases x<;>simp only[HE,reduceCtorEq,ae]at h
 subst h
 exact⟨_,rfl,r⟩
theorem sim_bin(I:Inv tb C)(F:BO C f a nt){o:Oper}{op:BinOp}{t u:TypeId}{x1 x2:AO}{y1 y2:Operand}(ho:o.op= .binOp op t y1 y2 u)(h1:BG x1 y1=true)(h2:BG x2 y2=true)
  {r:AV×Option Az} (h:val (bin op (eval tb f x1) (eval tb f x2))=some r):Yields tb C r ((execOp a.eval o).run P C.w):=by
 have r1:=Be I F h1
 have r2:=Be I F h2
 generalize hx1:eval tb f x1=v1 at*
 generalize hx2:eval tb f x2=v2 at*
 cases v1<;>cases v2<;>simp only[bin,val,df,reduceCtorEq]at h
 case i.i k n k' m=>
  have e1:a.eval y1= .int k n:=r1
  have e2:a.eval y2= .int k' m:=r2
  have hg:(eqGuard op t y1 y2 (.int k n) (.int k' m)).run P C.w= .ok () C.w:=by
   simp only[eqGuard];split<;>rfl
  have hrun: ∀v,(d4 op t (.int k n) (.int k' m)).run P C.w= .ok v C.w→(execOp a.eval o).run P C.w= .ok (.value v) C.w:=by
   intro v hv
   simp only[execOp,ho,e1,e2,Sem.run_bind,hg,Result.andThen_ok,hv,Sem.run_pure]
  by_cases hk:k=k'
  ·subst hk
   cases op<;>simp only[qt]at h
   case shl=>
    split at h<;>simp only[df,an,reduceCtorEq,ae]at h
    subst h
    exact A9 I (hrun _ (by simp[d4,qb, *])) rfl
   case shr=>
    split at h<;>simp only[df,an,reduceCtorEq,ae]at h
    subst h
    exact A9 I (hrun _ (by simp[d4,qb, *])) rfl
   case quo=>
    split at h<;>simp only[df,an,reduceCtorEq,ae]at h
    subst h
    exact A9 I (hrun _ (by simp[d4,Op.intDiv, *])) rfl
   case rem=>
    split at h<;>simp only[df,an,reduceCtorEq,ae]at h
    subst h
    exact A9 I (hrun _ (by simp[d4,Op.intDiv, *])) rfl
   all_goals
    simp only[an,ae]at h
    subst h
    exact A9 I (hrun _ (by simp[d4,Op.intArith,Op.intBits,Op.intCmp,wM])) rfl
  ·cases op<;>simp only[qo hk,df,reduceCtorEq]at h
   case shl=>
    split at h<;>simp only[df,an,reduceCtorEq,ae]at h
    subst h
    exact A9 I (hrun _ (by simp[d4,qb, *])) rfl
   case shr=>
    split at h<;>simp only[df,an,reduceCtorEq,ae]at h
    subst h
    exact A9 I (hrun _ (by simp[d4,qb, *])) rfl
 case s.s l m=>
  have e1:a.eval y1= .string ⟨l.toArray⟩:=r1
  have e2:a.eval y2= .string ⟨m.toArray⟩:=r2
  have hg:(eqGuard op t y1 y2 (.string ⟨l.toArray⟩) (.string ⟨m.toArray⟩)).run P C.w= .ok () C.w:=by
   simp only[eqGuard];split<;>rfl
  have hrun: ∀v,(nu op ⟨l.toArray⟩ ⟨m.toArray⟩).run P C.w= .ok v C.w→(execOp a.eval o).run P C.w= .ok (.value v) C.w:=by
   intro v hv
   simp only[execOp,ho,e1,e2,Sem.run_bind,hg,Result.andThen_ok,Sem.run_pure]
   have:d4 op t (.string ⟨l.toArray⟩) (.string ⟨m.toArray⟩)=nu op ⟨l.toArray⟩ ⟨m.toArray⟩:=by cases op<;>rfl
   rw[this,hv]
   rfl
  cases op<;>simp only[an,df,ae,reduceCtorEq]at h
  case add=>
   split at h<;>simp only[df,an,reduceCtorEq,ae]at h
   rename_i hle
   subst h
   refine A9 I (v:= .string (⟨l.toArray⟩++⟨m.toArray⟩)) (hrun _ ?_) ?_
   ·have: ¬(((⟨l.toArray⟩:ByteArray).size+(⟨m.toArray⟩:ByteArray).size:Nat):Int)>qm.max:=by
     rw[R8,R8]
     have:qm.max=9223372036854775807:=rfl
     rw[this]
     unfold Bs at hle
     omega
    simp only[nu,qo this,Sem.run_pure]
   ·show _=_
    congr 1
  all_goals
   subst h
   exact A9 I (hrun _ (by simp only[nu,PI,Sem.run_pure])) rfl
theorem sim_un(I:Inv tb C)(F:BO C f a nt){o:Oper}{op:UnOp}{t:TypeId}{x:AO}{y:Operand}(ho:o.op= .unOp op t y)(hx:BG x y=true)
  {r:AV×Option Az} (h:val (un op (eval tb f x))=some r):Yields tb C r ((execOp a.eval o).run P C.w):=by
 have r1:=Be I F hx
 generalize eval tb f x=v1 at*
 cases v1<;>simp only[un,val,df,reduceCtorEq]at h
 case i k n=>
  have e1:a.eval y= .int k n:=r1
  cases op<;>simp only[an,df,ae,reduceCtorEq]at h
  all_goals
   subst h
   refine A9 I (v:= .int k _) ?_ rfl
   simp[execOp,ho,e1,Op.unary,Op.intArith,Op.intBits,wM]
 case b q=>
  have e1:a.eval y= .bool q:=r1
  cases op<;>simp only[an,df,ae,reduceCtorEq]at h
  subst h
  refine A9 I (v:= .bool _) ?_ rfl
  simp[execOp,ho,e1,Op.unary]
theorem sim_cvi(I:Inv tb C)(F:BO C f a nt){o:Oper}{k:IntKind}{s d:TypeId}{x:AO}{y:Operand}(ho:o.op= .convert s d y)(hs:(P.underlying s).isSome=true)(hd:P.underlying d=some (.int k))(hx:BG x y=true)
  {n:Int} (h:HE (eval tb f x)=some n):Yields tb C (.i k (k.wrap n),none) ((execOp a.eval o).run P C.w):=by
 obtain⟨k',_,e⟩:=IC (Be I F hx) h
 obtain⟨ds,hs⟩:=bl.1 hs
 refine A9 I (v:= .int k (k.wrap n)) ?_ rfl
 simp only[execOp,ho,e,convert,Sem.run_bind,AJ hs,AJ hd,Result.andThen_ok]
 cases ds<;>rfl
theorem sim_cvc(I:Inv tb C)(F:BO C f a nt){o:Oper}{s d:TypeId}{x:AO}{y:Operand}(ho:o.op= .convert s d y)(hs:(P.underlying s).isSome=true)(hd:P.underlying d=some .string)(hx:BG x y=true)
  {n:Int} (h:HE (eval tb f x)=some n):Yields tb C (.s (mg n).data.toList,none) ((execOp a.eval o).run P C.w):=by
 obtain⟨k',_,e⟩:=IC (Be I F hx) h
 obtain⟨ds,hs⟩:=bl.1 hs
 refine A9 I (v:= .string (mg n)) ?_ (by simp[HG])
 simp only[execOp,ho,e,convert,Sem.run_bind,AJ hs,AJ hd,Result.andThen_ok]
 cases ds<;>rfl
theorem sim_mkif(I:Inv tb C)(F:BO C f a nt){o:Oper}{t:TypeId}{x:AO}{y:Operand}(ho:o.op= .makeInterface t y)(ht: ∀m,P.underlying t≠some (.interface m))(hs:(P.underlying t).isSome=true)(hx:BG x y=true):
  Yields tb C (.ifc 0 .junk,none) ((execOp a.eval o).run P C.w):=by
 obtain⟨ds,hs⟩:=bl.1 hs
 refine A9 I (v:= .iface t (a.eval y)) ?_ ⟨_,_,rfl,trivial⟩
 simp only[execOp,ho,Instr.makeInterface,Sem.run_bind,AJ hs,Result.andThen_ok]
 cases ds<;>first|rfl|exact absurd hs (ht _)
theorem sim_ext(I:Inv tb C)(F:BO C f a nt){o:Oper}{x:AO}{y:Operand}{i:Nat}(ho:o.op= .extract y i)(hx:BG x y=true){vs:List AV}(h:eval tb f x= .tup vs){v:AV}(hv:vs[i]? =some v):
  Yields tb C (v,none) ((execOp a.eval o).run P C.w):=by
 have r:=Be I F hx
 rw[h]at r
 obtain⟨us,e,hr⟩:=r
 obtain⟨u,hu,ru⟩:=hr.get hv
 refine A9 I (v:=u) ?_ ru
 simp only[execOp,ho,e,Instr.extract]
 simp[hu]
theorem FQ{o:Oper}{c:Call}{b:Builtin}(ho:o.op= .call c)(hc:c.callee= .builtin b){x:Result Next}
  (h: ∀q,(builtin b c.argTypes o.type q (c.args.map a.eval)).run P C.w=x):(execOp a.eval o).run P C.w=x:=by
 simp only[execOp,ho,resolve,hc,invoke,Sem.run_bind,Sem.run_pure,Result.andThen_ok]
 exact h _
theorem len?_rep{x:AV}{v:Value}{n:Nat}(r:HG C x v)(h:Pn x=some n): ∃p c,v= .slice p n c:=by
 cases x<;>simp only[Pn,reduceCtorEq,ae]at h
 case nils=>subst h;exact⟨none,0,r⟩
 case sl=>
  subst h
  rcases r with ⟨b,base,cap,vss,e,_⟩|⟨rfl,p,cap,e⟩
  ·exact⟨_,_,e⟩
  ·exact⟨_,_,e⟩
 case orow=>subst h;obtain⟨⟨p,c,e⟩,_⟩:=r;exact⟨_,_,e⟩
 case ocel=>subst h;obtain⟨_,o,c,e,_⟩:=r;exact⟨_,_,e⟩
theorem sim_len(I:Inv tb C)(F:BO C f a nt){o:Oper}{c:Call}{t e:TypeId}{x:AO}{y:Operand}(ho:o.op= .call c)(hc:c.callee= .builtin .len)(ht:c.argTypes[0]? =some t)(ha:c.args= #[y])
  (hx:BG x y=true) {n:Nat} (h:Pn (eval tb f x)=some n) (hu:P.underlying t=some (.slice e)):
  Yields tb C (.i .i64 n,none) ((execOp a.eval o).run P C.w):=by
 have r:=Be I F hx
 refine A9 I (v:= .int .i64 n) (FQ ho hc fun q=> ?_) rfl
 simp only[ha,gi,bn,ew,builtin,Sem.run_bind,pd,ht]
 obtain⟨p,cc,e⟩:=len?_rep r h
 simp[e,AJ hu,goInt]
theorem sim_lens(I:Inv tb C)(F:BO C f a nt){o:Oper}{c:Call}{t:TypeId}{x:AO}{y:Operand}(ho:o.op= .call c)(hc:c.callee= .builtin .len)(ht:c.argTypes[0]? =some t)(ha:c.args= #[y])
  (hx:BG x y=true) {l:List UInt8} (h:eval tb f x= .s l) (hu:P.underlying t=some .string):
  Yields tb C (.i .i64 (l.length:Nat),none) ((execOp a.eval o).run P C.w):=by
 have r:=Be I F hx
 rw[h]at r
 have r':a.eval y= .string ⟨l.toArray⟩:=r
 refine A9 I (v:= .int .i64 (l.length:Nat)) (FQ ho hc fun q=> ?_) rfl
 simp only[ha,gi,bn,ew,builtin,Sem.run_bind,pd,ht]
 simp[r',AJ hu,goInt,R8]
theorem dS{x y:AV}{v:Value}{off:Nat}(r:HG C x v)(h:shift off x=some y): ∃b q,v= .pointer (some ⟨b,q,none⟩)∧HG C y (.pointer (some ⟨b,q+off,none⟩))∨(∃p,v= .pointer (some p))∧ ∀u p,u=Value.pointer (some p)→HG C y u:=by
 cases x<;>simp only[shift,reduceCtorEq,ae]at h<;>subst h
 case ptr id o=>
  obtain⟨h1,e⟩:=r
  exact⟨_,_, .inl ⟨e,h1,rfl⟩⟩
 case pe id n i o=>
  obtain⟨⟨p,e⟩,fz,sz,els,hg,hl,k⟩:=r
  by_cases hn:n=els.length
  ·exact⟨_,_, .inl ⟨k hn,⟨_,rfl⟩,fz,sz,els,hg,hl,fun _=>by rw[gz]⟩⟩
  ·exact⟨0,0, .inr ⟨⟨p,e⟩,fun u p hu=>⟨⟨p,hu⟩,fz,sz,els,hg,hl,fun q=>absurd q hn⟩⟩⟩
 case ip cs o=>
  obtain⟨b,base,vs,e,h1⟩:=r
  exact⟨_,_, .inl ⟨e,b,base,vs,by rw[gz],h1⟩⟩
theorem sim_fa(I:Inv tb C)(F:BO C f a nt){o:Oper}{t:TypeId}{x:AO}{y:Operand}{i:Nat}{fs:Array Field}{fd:Field}(ho:o.op= .fieldAddr t y i)(hu:P.underlying t=some (.struct fs))(hf:fs[i]? =some fd)
  (hz:(P.info? fd.type).isSome=true) (hz0:P.cellsOf fd.type≠0) (hx:BG x y=true) {r:AV×Option Az} (h:val (shift fd.offset (eval tb f x))=some r):Yields tb C r ((execOp a.eval o).run P C.w):=by
 have hr:=Be I F hx
 simp only[val]at h
 cases hs:shift fd.offset (eval tb f x)with
 |none=>rw[hs]at h;simp at h
 |some y'=>
  rw[hs]at h
  obtain rfl:=bf h
  have run: ∀p:Addr,a.eval y= .pointer (some p)→(execOp a.eval o).run P C.w= .ok (.value (.pointer (some (p.add fd.offset)))) C.w:=by
   intro p hp
   simp only[execOp,ho,hp,Instr.fieldAt,Sem.run_bind,AJ hu,Result.andThen_ok,hf,jj,Sem.run_pure,fieldPlace,Cq hz,qo hz0]
  obtain⟨b,q,⟨e,r'⟩|⟨⟨p,e⟩,r'⟩⟩:=dS hr hs
  ·exact A9 I (run _ e) (by rw[G4];exact r')
  ·exact A9 I (run _ e) (r' _ _ rfl)
theorem sim_iaa(I:Inv tb C)(F:BO C f a nt){o:Oper}{t e:TypeId}{x i:AO}{y j:Operand}{len:Nat}(ho:o.op= .indexAddr t y j)(hu:P.underlying t=some (.array len e))
  (hz:(P.info? e).isSome=true) (hx:BG x y=true) (hi:BG i j=true) {n:Int} (hn:HE (eval tb f i)=some n) (h0:0≤n∧n<len) {r:AV×Option Az} (h:val (shift (n.toNat*P.cellsOf e) (eval tb f x))=some r):
  Yields tb C r ((execOp a.eval o).run P C.w):=by
 have hr:=Be I F hx
 obtain⟨k,_,ej⟩:=IC (Be I F hi) hn
 simp only[val]at h
 cases hs:shift (n.toNat*P.cellsOf e) (eval tb f x)with
 |none=>rw[hs]at h;simp at h
 |some y'=>
  rw[hs]at h
  obtain rfl:=bf h
  have run: ∀p:Addr,a.eval y= .pointer (some p)→(execOp a.eval o).run P C.w= .ok (.value (.pointer (some (p.add (n.toNat*P.cellsOf e))))) C.w:=by
   intro p hp
   simp only[execOp,ho,hp,ej,Instr.indexAt,asIntOf,Sem.run_bind,AJ hu,Result.andThen_ok,jj,Sem.run_pure,Cq hz,qn h0]
  obtain⟨b,q,⟨e',r'⟩|⟨⟨p,e'⟩,r'⟩⟩:=dS hr hs
  ·exact A9 I (run _ e') (by rw[G4];exact r')
  ·exact A9 I (run _ e') (r' _ _ rfl)
theorem run_part{t:TypeId}{cs:List AV}{vs:List Value}{off:Nat}{v:AV}(hu:(P.underlying t).isSome=true)(hs:cs.all scal=true)(r:B6 C cs vs)(_hle:off+P.cellsOf t≤cs.length)
  (h:Iq (G6 P t) (sub cs off (P.cellsOf t))=some v): ∃x,(part t vs.toArray off).run P C.w= .ok x C.w∧HG C v x:=by
 have hinfo:(P.info? t).isSome=true:=by
  obtain⟨d,hd⟩:=bl.1 hu
  exact info_of_underlying hd
 have hrl:B6 C (sub cs off (P.cellsOf t)) ((vs.drop off).take (P.cellsOf t)):=r.drop.take
 obtain⟨q1,q2⟩:=Wf h (PL hs off _) hrl
 cases hag:G6 P t with
 |true=>
  refine⟨.agg ((vs.drop off).take (P.cellsOf t)).toArray,?_,q1 hag⟩
  simp only[part,Sem.run_bind,Fu t C.w hu,hag,Result.andThen_ok,qt,Cq hinfo,Sem.run_pure]
  congr 2
  simp
 |false=>
  obtain⟨z,hz,rz⟩:=q2 hag
  refine⟨z,?_,rz⟩
  have:vs[off]? =some z:=by
   have:((vs.drop off).take (P.cellsOf t))[0]? =some z:=by rw[hz];rfl
   rw[dp]at this
   split at this
   ·simpa using this
   ·simp at this
  simp only[part,Sem.run_bind,Fu t C.w hu,hag,Result.andThen_ok,au,qu]
  simp[this]
theorem sim_ixa(I:Inv tb C)(F:BO C f a nt){o:Oper}{t e:TypeId}{x i:AO}{y j:Operand}{len:Nat}(ho:o.op= .index t y j)(hu:P.underlying t=some (.array len e))
  (hz:(P.underlying e).isSome=true) (hx:BG x y=true) (hi:BG i j=true) {n:Int} (hn:HE (eval tb f i)=some n) {cs:List AV} (hv:eval tb f x= .agg cs) (h0:0≤n∧n<len) (hle:len*P.cellsOf e≤cs.length)
  {v:AV} (h:Iq (G6 P e) (sub cs (n.toNat*P.cellsOf e) (P.cellsOf e))=some v):Yields tb C (v,none) ((execOp a.eval o).run P C.w):=by
 have hr:=Be I F hx
 obtain⟨k,_,ej⟩:=IC (Be I F hi) hn
 rw[hv]at hr
 obtain⟨vs,ey,hs,hl⟩:=hr
 have hle':n.toNat*P.cellsOf e+P.cellsOf e≤cs.length:=by
  have:(n.toNat+1)*P.cellsOf e≤len*P.cellsOf e:=cr _ (by omega)
  rw[ci]at this
  omega
 obtain⟨z,hz',rz⟩:=run_part hz hs hl hle' h
 have hinfo:(P.info? e).isSome=true:=by
  obtain⟨d,hd⟩:=bl.1 hz
  exact info_of_underlying hd
 refine A9 I (v:=z) ?_ rz
 simp only[execOp,ho,ey,ej,Instr.index,asIntOf,Sem.run_bind,AJ hu,Result.andThen_ok,Sem.run_pure,qn h0,Cq hinfo,hz']
theorem sim_ixs(I:Inv tb C)(F:BO C f a nt){o:Oper}{t:TypeId}{x i:AO}{y j:Operand}(ho:o.op= .index t y j)(hu:P.underlying t=some .string)(hx:BG x y=true)(hi:BG i j=true)
  {n:Int} (hn:HE (eval tb f i)=some n) {l:List UInt8} (hv:eval tb f x= .s l) (h0:0≤n) {c:UInt8} (h:l[n.toNat]? =some c):Yields tb C (.i .u8 c.toNat,none) ((execOp a.eval o).run P C.w):=by
 have hr:=Be I F hx
 obtain⟨k,_,ej⟩:=IC (Be I F hi) hn
 rw[hv]at hr
 have ey:a.eval y= .string ⟨l.toArray⟩:=hr
 refine A9 I (v:= .int .u8 c.toNat) ?_ rfl
 have:(⟨l.toArray⟩:ByteArray)[n.toNat]? =some c:=by
  have hlt:=Bl h
  have:n.toNat<(⟨l.toArray⟩:ByteArray).size:=by rw[R8];exact hlt
  rw[getElem?_pos (⟨l.toArray⟩:ByteArray) n.toNat this]
  congr 1
  exact(ca.1 h).2
 simp only[execOp,ho,ey,ej,Instr.index,asIntOf,Sem.run_bind,AJ hu,Result.andThen_ok,Sem.run_pure,qn h0,this]
theorem RB{x:AV}{v:Value}{m n:Nat}(r:HG C x v)(h:KP x m=some n)(code:BoundsCode)(w:World):(Instr.sliceBound v m code).run P w= .ok n w∧n≤m:=by
 simp only[KP]at h
 cases hi:HE x with
 |none=>rw[hi]at h;simp at h
 |some q=>
  rw[hi]at h
  simp only[aa]at h
  split at h
  ·rename_i hq
   obtain rfl:=bf h
   obtain⟨k,_,e⟩:=IC r hi
   refine⟨?_,by omega⟩
   simp only[Instr.sliceBound,e,asIntOf,Sem.run_bind,Sem.run_pure,Result.andThen_ok,qn hq]
  ·simp at h
theorem Td(I:Inv tb C)(F:BO C f a nt){lo hi:Option AO}{ylo yhi:Option Operand}(h1:eL lo ylo=true)(h2:eL hi yhi=true){len cap l m:Nat}(isS:Bool)(hlc:len≤cap)
  (h:Hz (eval tb f) len lo hi=some (l,m)) (w:World):(j0 isS len cap (ylo.map a.eval) (yhi.map a.eval) none).run P w= .ok (l,m,cap) w∧l≤m∧m≤len:=by
 simp only[Hz]at h
 cases hi with
 |none=>
  cases yhi with
  |some _=>simp[eL]at h2
  |none=>
   simp only[aa]at h
   cases lo with
   |none=>
    cases ylo with
    |some _=>simp[eL]at h1
    |none=>
     simp only[aa,ae,ch]at h
     obtain⟨rfl,rfl⟩:=h
     exact⟨by simp[j0],by omega,by omega⟩
   |some x=>
    cases ylo with
    |none=>simp[eL]at h1
    |some y=>
     cases hb:KP (eval tb f x) len with
     |none=>simp only[hb,mo,reduceCtorEq]at h
     |some q=>
      simp only[hb,aa,ae,ch]at h
      obtain⟨rfl,rfl⟩:=h
      have:=RB (P:=P) (Be I F h1) hb .sliceB w
      exact⟨by simp[j0,this.1],this.2,by omega⟩
 |some z=>
  cases yhi with
  |none=>simp[eL]at h2
  |some u=>
   cases hz:KP (eval tb f z) len with
   |none=>simp only[hz,mo,reduceCtorEq]at h
   |some m'=>
    simp only[hz,aa]at h
    obtain⟨k,hk⟩: ∃k,HE (eval tb f z)=some k:=by
     simp only[KP]at hz
     cases hi:HE (eval tb f z)with
     |none=>rw[hi]at hz;simp at hz
     |some k=>exact⟨k,rfl⟩
    have hzc:KP (eval tb f z) cap=some m':=by
     simp only[KP,hk,aa]at hz ⊢
     split at hz
     ·rename_i hq;rw[qn ⟨hq.1,by omega⟩];exact hz
     ·simp at hz
    have hm:m'≤len:=(RB (P:=P) (Be I F h2) hz .sliceB w).2
    have r1:=fun code=>(RB (P:=P) (Be I F h2) hzc code w).1
    cases lo with
    |none=>
     cases ylo with
     |some _=>simp[eL]at h1
     |none=>
      simp only[aa,ae,ch]at h
      obtain⟨rfl,rfl⟩:=h
      exact⟨by simp[j0,r1],by omega,hm⟩
    |some x=>
     cases ylo with
     |none=>simp[eL]at h1
     |some y=>
      cases hb:KP (eval tb f x) m' with
      |none=>simp only[hb,mo,reduceCtorEq]at h
      |some q=>
       simp only[hb,aa,ae,ch]at h
       obtain⟨rfl,rfl⟩:=h
       have:=RB (P:=P) (Be I F h1) hb .sliceB w
       exact⟨by simp[j0,r1,this.1],this.2,hm⟩
theorem ZI(l:List UInt8)(i j:Nat):(⟨l.toArray⟩:ByteArray).extract i j=⟨((l.take j).drop i).toArray⟩:=by
 apply kq
 simp[gb]
theorem sim_sls(I:Inv tb C)(F:BO C f a nt){o:Oper}{t:TypeId}{x:AO}{y:Operand}{lo hi:Option AO}{ylo yhi:Option Operand}(ho:o.op= .slice t y ylo yhi none)(hu:P.underlying t=some .string)(hx:BG x y=true)
  (h1:eL lo ylo=true) (h2:eL hi yhi=true) {s:List UInt8} (hv:eval tb f x= .s s) {l m:Nat} (h:Hz (eval tb f) s.length lo hi=some (l,m)):
  Yields tb C (.s ((s.take m).drop l),none) ((execOp a.eval o).run P C.w):=by
 have hr:=Be I F hx
 rw[hv]at hr
 have ey:a.eval y= .string ⟨s.toArray⟩:=hr
 obtain⟨hb,_,_⟩:=Td (P:=P) I F h1 h2 (cap:=s.length) false (be _) h C.w
 refine A9 I (v:= .string ⟨((s.take m).drop l).toArray⟩) ?_ rfl
 simp only[execOp,ho,ey,mj,df,Sem.run_bind,AJ hu,Result.andThen_ok,pr,Option.isSome_none,au,qu,R8,hb,ZI s l m,Sem.run_pure]
theorem Bk.sub{l:List (List AV)}{vss:List (List Value)}(r:Bk C l vss)(a b:Nat):Bk C ((l.take b).drop a) ((vss.take b).drop a):=r.take.drop
theorem FX{α:Type}{sz:Nat}: ∀(l:List (List α)) (n:Nat),(∀x∈l,x.length=sz)→(l.drop n).flatten=l.flatten.drop (n*sz)
 |_,0,_=>by simp
 |[],n+1,_=>by simp
 |x::l,n+1,h=>by
  have hx:=h x bj
  rw[jd,FX l n fun y hy=>h y (bg _ hy),bm,kf,ce (l:=x) (by rw[hx,ci];omega),dw]
  congr 1
  rw[hx,ci];omega
theorem Ff{α:Type}{sz:Nat}: ∀(l:List (List α)) (n:Nat),(∀x∈l,x.length=sz)→(l.take n).flatten=l.flatten.take (n*sz)
 |_,0,_=>by simp
 |[],n+1,_=>by simp
 |x::l,n+1,h=>by
  have hx:=h x bj
  rw[im,bm,Ff l n fun y hy=>h y (bg _ hy),bm,gw,av (l:=x) (by rw[hx,ci];omega)]
  congr 2
  rw[hx,ci];omega
theorem kC(I:Inv tb C){x:AV}{v:Value}{sz:Nat}{els:List (List AV)}(hsz:0<sz)(r:HG C x v)(h:E4 C.H sz x=some els):
  (els=[]∧v= .slice none 0 0)∨ ∃q cap vss,v= .slice (some q) els.length cap∧els.length≤cap∧(els≠[]→ ∃b base,q=⟨b,base,none⟩∧Ev C.w b base vss.flatten)∧(∀e∈els,e.length=sz∧e.all scal=true)∧Bk C els vss:=by
 cases x<;>simp only[E4,reduceCtorEq]at h
 case nils=>obtain rfl:=bf h;exact .inl ⟨rfl,r⟩
 case sl sz' els'=>
  split at h
  ·rename_i e
   subst e
   obtain rfl:=bf h
   rcases r with ⟨b,base,cap,vss,e,hl,_,_,hh,hs,hr⟩|⟨rfl,p,cap,e⟩
   ·exact .inr ⟨_,cap,vss,e,hl,fun _=>⟨b,base,rfl,hh⟩,hs,hr⟩
   ·exact .inr ⟨p,cap,[],e,ib _,fun h=>absurd rfl h,fun e he=>(by cases he),rfl⟩
  ·simp at h
 case orow id n lo len=>
  obtain⟨_,fz,sz',els',hg,hl,k⟩:=r
  simp only[hg,aa]at h
  split at h
  ·rename_i hc
   obtain⟨hn,rfl,hle⟩:=hc
   obtain rfl:=bf h
   obtain⟨_,off,cap,e,hlc,hoff,hsize⟩:=k hn
   obtain⟨tl,hg',hlab⟩:=KY hg
   obtain⟨vss,arr,et,fr,⟨h1,hfr0,hlb⟩,h2,h3,h4,h5,h6,h7,h8,h9⟩:=I.obj id _ hg'
   have hlen:((els'.drop lo).take len).length=len:=by simp only[a6,bh];omega
   refine .inr ⟨_,cap,(vss.drop lo).take len,by rw[hlen];exact e,by rw[hlen];exact hlc,?_,fun x hx=>h4 x (cu (dc hx)),h5.drop.take⟩
   intro hne
   have hpos:0<len:=by
    rcases d7 len with h0|h0
    ·rw[h0]at hne;simp at hne
    ·exact h0
   have hlens:=i6 (fun x hx=>(h4 x hx).1) h5
   refine⟨_,_,rfl,?_⟩
   rw[Ff (sz:=sz') _ _ fun x hx=>hlens x (cu hx),FX _ _ hlens,hoff hpos]
   exact h7.sub _ _
  ·simp at h
 case ocel sz' id off len=>
  obtain⟨⟨ob,hg,hf⟩,q,cap,e,hlc,hq,hz⟩:=r
  unfold C3 at h
  split at h
  ·rename_i t' cs hc
   simp only[aa]at h
   split at h
   ·rename_i hcond
    obtain⟨rfl,hle⟩:=hcond
    obtain rfl:=bf h
    obtain⟨vs,arr,et,fr,⟨h1,hlb⟩,h2,h3,h4,h5,h6⟩:=I.obj id _ hc
    have chunk: ∀(n:Nat) (cs:List AV) (vs:List Value) (base:Nat),cs.all scal=true→B6 C cs vs→Ev C.w (C.φ id).blk base vs→n*sz'≤cs.length→
      (BR sz' n cs).length=n∧(∀e∈BR sz' n cs,e.length=sz'∧e.all scal=true)∧ ∃vss,Ev C.w (C.φ id).blk base vss.flatten∧Bk C (BR sz' n cs) vss:=by
     intro n
     induction n with
     |zero=>intro cs vs base _ _ _ _;exact⟨rfl,fun e he=>(by cases he),[],fun j v hj=>(by simp at hj),rfl⟩
     |succ n ih=>
      intro cs vs base hs hr hh hn
      rw[ci]at hn
      have hdrop:(cs.drop sz').all scal=true:=by
       simp only[cd]at hs ⊢
       exact fun x hx=>hs x (cu hx)
      obtain⟨h1,h2,vss,h3,h4⟩:=ih (cs.drop sz') (vs.drop sz') (base+sz') hdrop hr.drop (by
       have:=hh.sub sz' (vs.drop sz').length
       rwa [av (be _)]at this) (by simp only[bh];omega)
      have htake:(vs.take sz').length=sz':=by rw[a6,hr.length];omega
      refine⟨by simp[BR,h1],?_,vs.take sz'::vss,?_,⟨_,_,rfl,hr.take,h4⟩⟩
      ·intro x hx
       rcases bu.1 hx with e|hx
       ·subst e
        refine⟨by simp only[a6];omega,?_⟩
        simp only[cd]at hs ⊢
        exact fun y hy=>hs y (dc hy)
       ·exact h2 x hx
      ·intro j v hj0
       have hj:(vs.take sz'++vss.flatten)[j]? =some v:=hj0
       rcases dq j sz' with hlt|hge
       ·rw[br (by omega)]at hj
        rw[dp,qn hlt]at hj
        exact hh j v hj
       ·rw[bo (by omega)]at hj
        have:=h3 _ v hj
        rw[htake]at this
        rwa [show base+sz'+(j-sz')=base+j by omega]at this
    obtain⟨c1,c2,vss,c3,c4⟩:=chunk len (cs.drop off) (vs.drop off) off (by
     simp only[cd]at h3 ⊢
     exact fun x hx=>h3 x (cu hx)) h4.drop (by
     have:=h5.sub off (vs.drop off).length
     rw[av (be _)]at this
     simpa using this) (by simp only[bh];omega)
    refine .inr ⟨_,cap,vss,by rw[c1];exact e,by rw[c1];exact hlc,?_,c2,c4⟩
    intro hne
    have hpos:0<len:=by
     rcases d7 len with h0|h0
     ·rw[h0]at hne;simp[BR]at hne
     ·exact h0
    rw[hq hpos]
    exact⟨_,_,rfl,c3⟩
   ·simp at h
  ·simp at h
theorem nZ{α:Type}{sz:Nat}{l:List (List α)}{i:Nat}{x:List α}(h: ∀y∈l,y.length=sz)(hi:l[i]? =some x):(l.flatten.drop (i*sz)).take sz=x:=by
 rw[←FX l i h]
 have hlt:=Bl hi
 rw[bk hlt,bm]
 have e:l[i]=x:=(ca.1 hi).2
 rw[e,d8 (by rw[h x (cq hi)];omega),av (by rw[h x (cq hi)];omega)]
theorem sim_ias(I:Inv tb C)(F:BO C f a nt){o:Oper}{t e:TypeId}{x i:AO}{y j:Operand}(ho:o.op= .indexAddr t y j)(hu:P.underlying t=some (.slice e))(hz:(P.info? e).isSome=true)
  (hx:BG x y=true) (hi:BG i j=true) {n:Int} (hn:HE (eval tb f i)=some n) (h0:0≤n) {r:AV×Option Az} (h:val (SD C.H (P.cellsOf e) (eval tb f x) n.toNat)=some r):
  Yields tb C r ((execOp a.eval o).run P C.w):=by
 have hr:=Be I F hx
 obtain⟨k,_,ej⟩:=IC (Be I F hi) hn
 generalize eval tb f x=v at*
 simp only[SD]at h
 cases hels:E4 C.H (P.cellsOf e) v with
 |none=>rw[hels]at h;simp[val]at h
 |some els=>
  rw[hels]at h
  simp only[aa]at h
  split at h
  ·rename_i hlt
   have run: ∀(b off len cap:Nat),a.eval y= .slice (some ⟨b,off,none⟩) len cap→n.toNat<len→(execOp a.eval o).run P C.w= .ok (.value (.pointer (some ⟨b,off+n.toNat*P.cellsOf e,none⟩))) C.w:=by
    intro b off len cap hp hl
    have hc:0≤n∧n<(len:Int):=by omega
    simp only[execOp,ho,hp,ej,Instr.indexAt,asIntOf,Sem.run_bind,AJ hu,Result.andThen_ok,Sem.run_pure,Cq hz,qn hc,G4]
   have gen: ∀(w:AV),(els[n.toNat]?).map (fun cs=>AV.ip cs 0)=some w→(∃b base cap vss,a.eval y= .slice (some ⟨b,base,none⟩) els.length cap∧b<C.w.heap.size∧ ¬C.own b∧Ev C.w b base vss.flatten∧(∀e'∈els,e'.length=P.cellsOf e∧e'.all scal=true)∧Bk C els vss)→
     Yields tb C (w,none) ((execOp a.eval o).run P C.w):=by
    rintro w hw ⟨b,base,cap,vss,e',hb,hown,hh,hs,hrr⟩
    cases hi:els[n.toNat]? with
    |none=>rw[hi]at hw;simp at hw
    |some cs=>
     rw[hi]at hw
     obtain rfl:=bf hw
     obtain⟨vs,hv,rv⟩:=Bk.get hrr hi
     have hlens:=i6 (fun x hx=>(hs x hx).1) hrr
     have:=hh.sub (n.toNat*P.cellsOf e) (P.cellsOf e)
     rw[nZ hlens hv]at this
     exact A9 I (run b base _ cap e' hlt) ⟨b,base+n.toNat*P.cellsOf e,vs,rfl,hb,hown,this,(hs cs (cq hi)).2,rv⟩
   cases v
   case orow id k lo len=>
    simp only[val,an,ae]at h
    subst h
    obtain⟨_,fz,sz,els',hg,hl,kk⟩:=hr
    simp only[E4,hg,aa]at hels
    split at hels
    ·rename_i hc
     obtain⟨hk,hsz,hle⟩:=hc
     obtain rfl:=bf hels
     obtain⟨_,off,cap,e',hlc,hoff,_⟩:=kk hk
     have hnl:n.toNat<len:=by simp only[a6,bh]at hlt;omega
     refine A9 I (run _ _ _ _ e' hnl) ⟨⟨_,rfl⟩,fz,sz,els',hg,hl,fun _=> ?_⟩
     rw[hoff (by omega),←hsz,fx,gz]
     rfl
    ·simp at hels
   case ocel sz id off len=>
    simp only[val,an,ae]at h
    subst h
    obtain⟨hobj,q,cap,e',hlc,hq,_⟩:=hr
    simp only[E4]at hels
    cases hc:C3 C.H id with
    |none=>rw[hc]at hels;simp at hels
    |some cs=>
     rw[hc]at hels
     simp only[aa]at hels
     split at hels
     ·rename_i hcond
      obtain⟨rfl,_⟩:=hcond
      obtain rfl:=bf hels
      have hnl:n.toNat<len:=by
       have: ∀(m:Nat) (cs:List AV),(BR (P.cellsOf e) m cs).length=m:=by
        intro m;induction m with
        |zero=>intro cs;rfl
        |succ m ih=>intro cs;simp[BR,ih]
       rwa [this]at hlt
      refine A9 I (run _ _ _ _ e' hnl) ⟨hobj,?_⟩
      rw[hq (by omega)]
     ·simp at hels
   case nils=>
    simp only[E4,ae]at hels
    subst hels
    simp at hlt
   case sl sz els'=>
    simp only[E4]at hels
    split at hels
    ·rename_i e'
     subst e'
     obtain rfl:=bf hels
     rcases hr with ⟨b,base,cap,vss,e',hl,hb,hown,hh,hs,hrr⟩|⟨rfl,_⟩
     case inr=>simp at hlt
     simp only[val,Option.map_map]at h
     cases hi:els'[n.toNat]? with
     |none=>rw[hi]at h;simp at h
     |some cs=>
      rw[hi]at h
      obtain rfl:=bf h
      exact gen _ (by rw[hi];rfl) ⟨b,base,cap,vss,e',hb,hown,hh,hs,hrr⟩
    ·simp at hels
   all_goals simp[E4]at hels
  ·simp[val]at h
theorem sim_sll(I:Inv tb C)(F:BO C f a nt){o:Oper}{t e:TypeId}{x:AO}{y:Operand}{lo hi:Option AO}{ylo yhi:Option Operand}(ho:o.op= .slice t y ylo yhi none)(hu:P.underlying t=some (.slice e))(hz:(P.info? e).isSome=true)
  (hx:BG x y=true) (h1:eL lo ylo=true) (h2:eL hi yhi=true) {len l m:Nat} (hl:Pn (eval tb f x)=some len) (h:Hz (eval tb f) len lo hi=some (l,m)) {r:AV×Option Az}
  (hv:val (resl C.H (P.cellsOf e) (eval tb f x) l m)=some r):Yields tb C r ((execOp a.eval o).run P C.w):=by
 have hr:=Be I F hx
 have run: ∀(p:Option Addr) (cap:Nat),len≤cap→a.eval y= .slice p len cap→(execOp a.eval o).run P C.w= .ok (.value (.slice (if cap=l then p else p.map (·.add (l*P.cellsOf e))) (m-l) (cap-l))) C.w∧l≤m∧m≤len:=by
  intro p cap hlc hp
  obtain⟨hb,q1,q2⟩:=Td (P:=P) I F h1 h2 (cap:=cap) true hlc h C.w
  refine⟨?_,q1,q2⟩
  simp only[execOp,ho,hp,mj,df,Sem.run_bind,AJ hu,Result.andThen_ok,pr,hb,Cq hz,Sem.run_pure]
 generalize eval tb f x=v at*
 cases v<;>simp only[resl,val,df,reduceCtorEq]at hv
 case nils=>
  simp only[an,ae]at hv
  subst hv
  simp only[Pn,ae]at hl
  subst hl
  obtain⟨q,q1,q2⟩:=run none 0 (be _) hr
  obtain rfl:m=0:=by omega
  obtain rfl:l=0:=by omega
  exact A9 I q rfl
 case sl sz els=>
  split at hv
  ·rename_i e'
   subst e'
   simp only[an,ae]at hv
   subst hv
   simp only[Pn,ae]at hl
   subst hl
   rcases hr with ⟨b,base,cap,vss,e',hlc,hb,hown,hh,hs,hrr⟩|⟨rfl,p,cap,e'⟩
   case inr=>
    obtain⟨q,q1,q2⟩:=run _ cap (ib _) e'
    simp only[bz]at q2
    obtain rfl:m=0:=by omega
    obtain rfl:l=0:=by omega
    by_cases hc:cap=0
    ·rw[qn hc]at q
     exact A9 I q (.inr ⟨by simp,_,_,rfl⟩)
    ·rw[qo hc]at q
     exact A9 I q (.inr ⟨by simp,_,_,rfl⟩)
   obtain⟨q,q1,q2⟩:=run _ _ hlc e'
   have hlens:=i6 (fun x hx=>(hs x hx).1) hrr
   have hlen:((els.take m).drop l).length=m-l:=by simp only[bh,a6];omega
   by_cases hc:cap=l
   ·have hm:m=l:=by omega
    rw[qn hc]at q
    refine A9 I q<| .inl ⟨b,base,cap-l,[],?_,by omega,hb,hown,fun j v hj=>(by simp at hj),?_,?_⟩
    ·rw[hlen]
    ·intro x hx
     rw[cj (l:=(els.take m).drop l) (by rw[hlen];omega)]at hx
     cases hx
    ·rw[cj (l:=(els.take m).drop l) (by rw[hlen];omega)]
     rfl
   ·rw[qo hc]at q
    simp only[an,G4]at q
    refine A9 I q<| .inl ⟨b,base+l*P.cellsOf e,cap-l,(vss.take m).drop l,by rw[hlen],by rw[hlen];omega,hb,hown,?_,?_,hrr.sub _ _⟩
    ·rw[FX (sz:=P.cellsOf e) _ _ fun x hx=>hlens x (dc hx),Ff _ _ hlens]
     have:=hh.sub (l*P.cellsOf e) (m*P.cellsOf e-l*P.cellsOf e)
     rwa [←gb]at this
    ·exact fun x hx=>hs x (dc (cu hx))
  ·simp at hv
 case orow id n l' len'=>
  simp only[Pn,ae]at hl
  subst hl
  obtain⟨_,fz,sz,els,hg,hle,k⟩:=hr
  simp only[hg,aa]at hv
  split at hv
  ·rename_i hc
   obtain⟨hn,hsz,hle'⟩:=hc
   simp only[an,ae]at hv
   subst hv
   obtain⟨_,off,cap,e',hlc,hoff,hsize,hbo⟩:=k hn
   obtain⟨q,q1,q2⟩:=run _ _ hlc e'
   by_cases hc:cap=l
   ·rw[qn hc]at q
    refine A9 I q ⟨⟨_,_,rfl⟩,fz,sz,els,hg,hle,fun _=>⟨by omega,off,_,rfl,by omega,fun hp=>by omega,?_,hbo⟩⟩
    have:(cap-l)*sz≤cap*sz:=cr _ (by omega)
    omega
   ·rw[qo hc]at q
    simp only[an,G4]at q
    refine A9 I q ⟨⟨_,_,rfl⟩,fz,sz,els,hg,hle,fun _=>⟨by omega,off+l*P.cellsOf e,_,rfl,by omega,fun hp=> ?_,?_,by omega⟩⟩
    ·rw[hoff (by omega),hsz,fx];omega
    ·rw[hsz]at hsize ⊢
     rw[Nat.sub_mul]
     have:l*P.cellsOf e≤cap*P.cellsOf e:=cr _ (by omega)
     omega
  ·simp at hv
 case ocel sz id off len'=>
  simp only[Pn,ae]at hl
  subst hl
  split at hv
  ·rename_i hsz
   subst hsz
   simp only[an,ae]at hv
   subst hv
   obtain⟨hobj,q0,cap,e',hlc,hoff,hz'⟩:=hr
   obtain⟨q,q1,q2⟩:=run _ _ hlc e'
   by_cases hc:cap=l
   ·rw[qn hc]at q
    exact A9 I q ⟨hobj,q0,_,rfl,by omega,fun hp=>by omega,hz'⟩
   ·rw[qo hc]at q
    simp only[an,G4]at q
    exact A9 I q ⟨hobj,_,_,rfl,by omega,fun hp=>by rw[hoff (by omega)],hz'⟩
  ·simp at hv
theorem WV(sz:Nat): ∀(n:Nat) (cs:List AV) (vs:List Value) (w:World) (b base:Nat),cs.all scal=true→B6 C cs vs→Ev w b base vs→n*sz≤cs.length→
  (BR sz n cs).length=n∧(∀e∈BR sz n cs,e.length=sz∧e.all scal=true)∧ ∃vss,Ev w b base vss.flatten∧Bk C (BR sz n cs) vss:=by
 intro n
 induction n with
 |zero=>intro cs vs w b base _ _ _ _;exact⟨rfl,fun e he=>(by cases he),[],fun j v hj=>(by simp at hj),rfl⟩
 |succ n ih=>
  intro cs vs w b base hs hr hh hn
  rw[ci]at hn
  have hdrop:(cs.drop sz).all scal=true:=by
   simp only[cd]at hs ⊢
   exact fun x hx=>hs x (cu hx)
  obtain⟨h1,h2,vss,h3,h4⟩:=ih (cs.drop sz) (vs.drop sz) w b (base+sz) hdrop hr.drop (by
   have:=hh.sub sz (vs.drop sz).length
   rwa [av (be _)]at this) (by simp only[bh];omega)
  have htake:(vs.take sz).length=sz:=by rw[a6,hr.length];omega
  refine⟨by simp[BR,h1],?_,vs.take sz::vss,?_,⟨_,_,rfl,hr.take,h4⟩⟩
  ·intro x hx
   rcases bu.1 hx with e|hx
   ·subst e
    refine⟨by simp only[a6];omega,?_⟩
    simp only[cd]at hs ⊢
    exact fun y hy=>hs y (dc hy)
   ·exact h2 x hx
  ·intro j v hj0
   have hj:(vs.take sz++vss.flatten)[j]? =some v:=hj0
   rcases dq j sz with hlt|hge
   ·rw[br (by omega)]at hj
    rw[dp,qn hlt]at hj
    exact hh j v hj
   ·rw[bo (by omega)]at hj
    have:=h3 _ v hj
    rw[htake]at this
    rwa [show base+sz+(j-sz)=base+j by omega]at this
theorem sim_sla(I:Inv tb C)(F:BO C f a nt){o:Oper}{t e:TypeId}{n:Nat}{x:AO}{y:Operand}{lo hi:Option AO}{ylo yhi:Option Operand}(ho:o.op= .slice t y ylo yhi none)(hz:(P.info? e).isSome=true)(hz0:0<P.cellsOf e)
  (hu:P.underlying t=some (.array n e)∨ ∃u,P.underlying t=some (.pointer u)∧P.underlying u=some (.array n e))
  (hx:BG x y=true) (h1:eL lo ylo=true) (h2:eL hi yhi=true) {l m:Nat} (h:Hz (eval tb f) n lo hi=some (l,m)) {r:AV×Option Az}
  (hv:val (pV C.H n (P.cellsOf e) (eval tb f x) l m)=some r):Yields tb C r ((execOp a.eval o).run P C.w):=by
 have hr:=Be I F hx
 obtain⟨hb,q1,q2⟩:=Td (P:=P) I F h1 h2 (cap:=n) false (be _) h C.w
 have run: ∀(p:Addr),a.eval y= .pointer (some p)→(execOp a.eval o).run P C.w= .ok (.value (.slice (some (if n=l then p else p.add (l*P.cellsOf e))) (m-l) (n-l))) C.w:=by
  intro p hp
  rcases hu with hu|⟨u,hu,hu'⟩
  ·simp only[execOp,ho,hp,mj,df,Sem.run_bind,AJ hu,Result.andThen_ok,jj,hb,Cq hz,Sem.run_pure]
  ·simp only[execOp,ho,hp,mj,df,Sem.run_bind,AJ hu,AJ hu',Result.andThen_ok,pr,asAddr,hb,Cq hz,Sem.run_pure]
 generalize eval tb f x=v at*
 cases v<;>simp only[pV,val,df,reduceCtorEq]at hv
 case ptr id off=>
  cases hc:C3 C.H id with
  |none=>rw[hc]at hv;simp at hv
  |some cs=>
   rw[hc]at hv
   simp only[aa]at hv
   split at hv
   ·simp only[an,ae]at hv
    subst hv
    obtain⟨hobj,e'⟩:=hr
    have q:=run _ e'
    by_cases hc:n=l
    ·rw[qn hc]at q
     exact A9 I q ⟨hobj,off,_,rfl,by omega,fun hp=>by omega,hz0⟩
    ·rw[qo hc,G4]at q
     exact A9 I q ⟨hobj,_,_,rfl,by omega,fun hp=>rfl,hz0⟩
   ·simp at hv
 case ip cs off=>
  split at hv
  ·rename_i hle
   simp only[an,ae]at hv
   subst hv
   obtain⟨b,base,vs,e',hlt,hown,hh,hs,hrr⟩:=hr
   have q:=run _ e'
   obtain⟨c1,c2,vss,c3,c4⟩:=WV (C:=C) (P.cellsOf e) n (cs.drop off) (vs.drop off) C.w b (base+off) (by
    simp only[cd]at hs ⊢
    exact fun x hx=>hs x (cu hx)) hrr.drop (by
    have:=hh.sub off (vs.drop off).length
    rwa [av (be _)]at this) (by simp only[bh];omega)
   have hlens:=i6 (fun x hx=>(c2 x hx).1) c4
   have hlen:(((BR (P.cellsOf e) n (cs.drop off)).take m).drop l).length=m-l:=by simp only[bh,a6,c1];omega
   by_cases hc:n=l
   ·rw[qn hc]at q
    refine A9 I q<| .inl ⟨b,base+off,n-l,[],by rw[hlen],by omega,hlt,hown,fun j v hj=>(by simp at hj),?_,?_⟩
    ·intro x hx
     rw[cj (l:=((BR (P.cellsOf e) n (cs.drop off)).take m).drop l) (by rw[hlen];omega)]at hx
     cases hx
    ·rw[cj (l:=((BR (P.cellsOf e) n (cs.drop off)).take m).drop l) (by rw[hlen];omega)]
     rfl
   ·rw[qo hc,G4]at q
    refine A9 I q<| .inl ⟨b,base+off+l*P.cellsOf e,n-l,(vss.take m).drop l,by rw[hlen],by rw[hlen];omega,hlt,hown,?_,fun x hx=>c2 x (dc (cu hx)),c4.sub _ _⟩
    rw[FX (sz:=P.cellsOf e) _ _ fun x hx=>hlens x (dc hx),Ff _ _ hlens]
    have:=c3.sub (l*P.cellsOf e) (m*P.cellsOf e-l*P.cellsOf e)
    rwa [←gb]at this
  ·simp at hv
theorem Ux{w:World}{b o:Nat}{v:Value}{arr:Array Value}{e:TypeId}{fr:Nat×Nat}(h:w.heap[b]? =some (.cells arr e fr)):
  (w.setCell ⟨b,o,none⟩ v).heap[b]? =some (.cells (arr.setIfInBounds o v) e fr):=by
 simp[World.setCell,jw,h]
theorem heap_setCell_other{w:World}{b o c:Nat}{v:Value}(h:c≠b):(w.setCell ⟨b,o,none⟩ v).heap[c]? =w.heap[c]? :=by
 simp[World.setCell,jw,jz h]
theorem Hw{b:Nat}: ∀(vs:List Value) (o:Nat) {w:World} {arr:Array Value} {e:TypeId} {fr:Nat×Nat},w.heap[b]? =some (.cells arr e fr)→
  ∃arr',(w.setCells b o vs).heap[b]? =some (.cells arr' e fr)∧arr'.size=arr.size
 |[],_,_,arr,_,_,h=>⟨arr,h,rfl⟩
 |v::r,o,w,arr,e,fr,h=>by
  obtain⟨arr',h1,h2⟩:=Hw r (o+1) (Ux (o:=o) (v:=v) h)
  exact⟨arr',h1,by rw[h2];simp⟩
theorem Et{b c:Nat}(hc:c≠b): ∀(vs:List Value) (o:Nat) {w:World},(w.setCells b o vs).heap[c]? =w.heap[c]?
 |[],_,_=>rfl
 |_::r,o,w=>by rw[World.setCells,Et hc r (o+1),heap_setCell_other hc]
theorem Hq{b:Nat}: ∀(vs:List Value) (o:Nat) {w:World},(w.setCells b o vs).heap.size=w.heap.size
 |[],_,_=>rfl
 |_::r,o,w=>by rw[World.setCells,Hq r (o+1)];simp
theorem Hr{b:Nat}: ∀(vs:List Value) (o:Nat) {w:World},Rest w (w.setCells b o vs)
 |[],_,_=>⟨rfl,rfl,rfl⟩
 |v::r,o,w=>Hr (b:=b) r (o+1) (w:=w.setCell ⟨b,o,none⟩ v)
theorem XQ{w:World}{b o:Nat}{arr:Array Value}{e:TypeId}{fr:Nat×Nat}(h:w.heap[b]? =some (.cells arr e fr)){vs:List Value}(hle:o+vs.length≤arr.size)
  (hf: ∀j,j<vs.length→w.frozen? ⟨b,o+j,none⟩=false) (h1: ∀v∈vs,v.oneCell'=true):(storeCells ⟨b,o,none⟩ vs).run P w= .ok () (w.setCells b o vs):=by
 have:=run_storeCells_cells (P:=P) b o vs 0 w (fun j hj=>by
  simp only[f7,h,ja]
  simp[fi (show o+j<arr.size by omega)]) (fun j hj=>by simpa using hf j hj) h1
 simpa using this
theorem Ev.put{w:World}{b o base:Nat}{arr:Array Value}{e:TypeId}{fr:Nat×Nat}(h:w.heap[b]? =some (.cells arr e fr)){vs us:List Value}(hh:Ev w b base us)
  (hle:o+vs.length≤us.length) (hsz:base+us.length≤arr.size):Ev (w.setCells b (base+o) vs) b base (us.take o++vs++us.drop (o+vs.length)):=by
 intro j v hj
 rcases dq j o with hlt|hge
 ·rw[World.cell?_setCells_out b vs (base+o) w _ (fun _ _=> .inl (by simp;omega))]
  rw[dl,br (by simp only[a6];omega),dp,qn hlt]at hj
  exact hh j v hj
 ·rcases dq j (o+vs.length)with hlt|hge'
  ·have hjv:vs[j-o]? =some v:=by
    rw[dl,bo (by simp only[a6];omega)]at hj
    simp only[a6]at hj
    rw[show min o us.length=o by omega,br (by omega)]at hj
    exact hj
   have hlt':j-o<vs.length:=by omega
   have:=World.cell?_setCells_in b vs (base+o) w (fun i hi=>by
    simp only[f7,h]
    simp[fi (show base+o+i<arr.size by omega)]) (j-o) hlt'
   rw[show base+o+(j-o)=base+j by omega]at this
   rw[this,←hjv,ad hlt']
  ·rw[World.cell?_setCells_out b vs (base+o) w _ (fun _ _=> .inr (by simp;omega))]
   rw[bo (by simp only[aw,a6];omega),eo]at hj
   simp only[aw,a6]at hj
   rw[show o+vs.length+(j-(min o us.length+vs.length))=j by omega]at hj
   exact hh j v hj
theorem HP{w:World}{b o c q:Nat}{vs:List Value}:(w.setCells b o vs).frozen? ⟨c,q,none⟩=w.frozen? ⟨c,q,none⟩:=World.frozen?_setCells b vs o w _
theorem OM{cs new:List AV}{vs us:List Value}{off:Nat}(r:B6 C cs vs)(q:B6 C new us):B6 C (BA cs off new) (vs.take off++us++vs.drop (off+us.length)):=by
 rw[q.length]
 exact ou (ou r.take q) r.drop
theorem Ns{cs new:List AV}{off:Nat}(r:cs.all scal=true)(q:new.all scal=true):(BA cs off new).all scal=true:=by
 simp only[BA,jt,af,cd]at*
 exact⟨⟨fun x hx=>r x (dc hx),q⟩,fun x hx=>r x (cu hx)⟩
theorem I2{cs new:List AV}{off:Nat}(h:off+new.length≤cs.length):(BA cs off new).length=cs.length:=by
 simp only[BA,aw,a6,bh];omega
theorem Uc{t:TypeId}{b o:Nat}{v:Value}{w:World}{arr:Array Value}{e:TypeId}{fr:Nat×Nat}(hz:(P.info? t).isSome=true)(hsz:v.cells.size=P.cellsOf t)(h:w.heap[b]? =some (.cells arr e fr))
  (hle:o+P.cellsOf t≤arr.size) (hf: ∀j,j<P.cellsOf t→w.frozen? ⟨b,o+j,none⟩=false) (h1: ∀x∈v.cells.toList,x.oneCell'=true):
  (storeVar t ⟨b,o,none⟩ v).run P w= .ok () (w.setCells b o v.cells.toList):=by
 have hne: ¬(v.cells.size≠P.cellsOf t):=by omega
 have hp:=XQ (P:=P) h (vs:=v.cells.toList) (by simpa [hsz]using hle) (fun j hj=>hf j (by simpa [hsz]using hj)) h1
 simp only[storeVar,Sem.run_bind,Cq hz,Result.andThen_ok,qo hne]
 simpa using hp
theorem sim_st(I:Inv tb C)(F:BO C f a nt){o:Oper}{t:TypeId}{x z:AO}{y u:Operand}(ho:o.op= .store t y u)(hx:BG x y=true)(hzu:BG z u=true)(hz:(P.info? t).isSome=true)(hz0:0<P.cellsOf t)
  {H':Az} (h:store C.H (P.cellsOf t) (eval tb f x) (eval tb f z)=some H'):Yields tb C (.junk,some H') ((execOp a.eval o).run P C.w):=by
 have hr:=Be I F hx
 have hv:=Be I F hzu
 generalize eval tb f x=v at*
 generalize eval tb f z=q at*
 cases v<;>simp only[store,reduceCtorEq]at h
 case ptr id off=>
  cases hc:C3 C.H id with
  |none=>rw[hc]at h;simp at h
  |some cs=>
   rw[hc]at h
   simp only[aa]at h
   split at h
   ·rename_i hcond
    obtain⟨hn,hle⟩:=hcond
    obtain rfl:=bf h
    obtain⟨tl,hg,hlab⟩:=OF hc
    obtain⟨_,e'⟩:=hr
    obtain⟨vs,arr,et,fr,⟨h1,hlb⟩,h2,h3,h4,h5,h6⟩:=I.obj id _ hg
    obtain⟨c1,c2⟩:=OE hv (by omega)
    have hsz:(a.eval u).cells.size=P.cellsOf t:=by have:=c1.length;rw[hn]at this;simpa using this
    have run:=Uc (P:=P) (t:=t) (o:=off) hz hsz h1 (by omega) (fun j hj=>h6 _ (by omega)) (Oz c2 c1)
    obtain⟨arr',g1,g2⟩:=Hw (a.eval u).cells.toList off h1
    have hvl:(a.eval u).cells.toList.length=P.cellsOf t:=by simpa using hsz
    obtain⟨X,hI⟩:=upd (D:=⟨C.φ,C.H.set id (CB.cells (ED C.H id) (BA cs off (cellsOf q))),C.w.setCells (C.φ id).blk off (a.eval u).cells.toList⟩) I (Hr _ _) hg rfl (fun _ _=>rfl) (by simp only[Hq];omega)
     (fun b hb hne=>Et hne _ _) (.inl rfl) (fun _=>⟨rfl,rfl⟩) (fun _ _ _ _ e=>by cases e)
    refine⟨_,X,hI ?_,rfl, .inr ⟨?_,trivial⟩⟩
    ·refine⟨_,arr',et,fr,⟨g1,by rw[hlab];exact hlb⟩,by rw[g2,h2,I2 (by rw[hn];exact hle)],Ns h3 c2,OM (h4.ext X) (c1.ext X),?_,?_⟩
     ·have:=Ev.put (base:=0) (o:=off) h1 h5 (vs:=(a.eval u).cells.toList) (by rw[hvl,h4.length];exact hle) (by rw[h4.length];omega)
      simpa using this
     ·intro j hj
      rw[I2 (by rw[hn];exact hle)]at hj
      rw[HP]
      exact h6 j hj
    ·simp only[execOp,ho,e',Instr.storeAt,jj,Sem.run_bind,Sem.run_pure,Result.andThen_ok,run]
   ·simp at h
 case pe id n i off=>
  obtain⟨_,fz,sz,els,hg,hl,k⟩:=hr
  simp only[hg,aa]at h
  split at h
  ·rename_i hcond
   obtain⟨hfz,hn,hcl⟩:=hcond
   cases hi:els[i]? with
   |none=>rw[hi]at h;simp at h
   |some cs=>
    rw[hi]at h
    simp only[aa]at h
    split at h
    ·rename_i hle
     obtain rfl:=bf h
     have e':=k hn
     obtain⟨tl,hg',hlab⟩:=KY hg
     obtain⟨vss,arr,et,fr,⟨h1,hfr0,hlb⟩,h2,h3,h4,h5,h6,h7,h8,h9⟩:=I.obj id _ hg'
     obtain⟨c1,c2⟩:=OE hv (by omega)
     have hsz:(a.eval u).cells.size=P.cellsOf t:=by have:=c1.length;rw[hcl]at this;simpa using this
     have hvl:(a.eval u).cells.toList.length=P.cellsOf t:=by simpa using hsz
     have hcs:=(h4 cs (cq hi)).1
     have hilt:=Bl hi
     have hin:i*sz+sz≤els.length*sz:=by
      have:(i+1)*sz≤els.length*sz:=cr _ (by omega)
      rwa [ci]at this
     have hfr: ∀j,j<P.cellsOf t→C.w.frozen? ⟨(C.φ id).blk,(C.φ id).base+i*sz+off+j,none⟩=false:=fun j hj=>h8 hfz _ (by omega)
     have run:=Uc (P:=P) (t:=t) (o:=(C.φ id).base+i*sz+off) hz hsz h1 (by omega) hfr (Oz c2 c1)
     obtain⟨arr',g1,g2⟩:=Hw (a.eval u).cells.toList ((C.φ id).base+i*sz+off) h1
     obtain⟨X,hI⟩:=upd (D:=⟨C.φ,C.H.set id (CB.row (ED C.H id) false sz (els.set i (BA cs off (cellsOf q)))),C.w.setCells (C.φ id).blk ((C.φ id).base+i*sz+off) (a.eval u).cells.toList⟩) I (Hr _ _) hg' rfl (fun _ _=>rfl) (by simp only[Hq];omega)
      (fun b hb hne=>Et hne _ _) (.inl rfl) (fun e=>by cases e) (fun _ fz' sz' els' e=>by cases e;exact⟨_,_,_,rfl,by simp,fun _=>rfl⟩)
     refine⟨_,X,hI ?_,rfl, .inr ⟨?_,trivial⟩⟩
     ·obtain⟨vs,hv',rv⟩:=Bk.get h5 hi
      have hlens:=i6 (fun x hx=>(h4 x hx).1) h5
      refine⟨vss.set i (vs.take off++(a.eval u).cells.toList++vs.drop (off+(a.eval u).cells.toList.length)),arr',et,fr,⟨g1,hfr0,by rw[hlab];exact hlb⟩,by rw[g2];exact h2,h3,?_,?_,by simpa using h6,?_,?_,?_⟩
      ·intro x hx
       rcases me hx with hx|hx
       ·exact h4 x hx
       ·subst hx
        exact⟨by rw[I2 (by omega)];exact hcs,Ns (h4 cs (cq hi)).2 c2⟩
      ·exact Bk.set (OM (rv.ext X) (c1.ext X)) (h5.ext X)
      ·have hfl:(vss.set i (vs.take off++(a.eval u).cells.toList++vs.drop (off+(a.eval u).cells.toList.length))).flatten=
         vss.flatten.take (i*sz+off)++(a.eval u).cells.toList++vss.flatten.drop (i*sz+off+(a.eval u).cells.toList.length):=by
        have hvs:vs.length=sz:=hlens vs (cq hv')
        have: ∀(l:List (List Value)) (i:Nat),(∀y∈l,y.length=sz)→l[i]? =some vs→(l.set i (vs.take off++(a.eval u).cells.toList++vs.drop (off+(a.eval u).cells.toList.length))).flatten=
          l.flatten.take (i*sz+off)++(a.eval u).cells.toList++l.flatten.drop (i*sz+off+(a.eval u).cells.toList.length):=by
         intro l
         induction l with
         |nil=>intro i _ e;simp at e
         |cons y l ih=>
          intro i hy e
          cases i with
          |zero=>
           simp at e;subst e
           simp only[ir,bm,jb,da]
           rw[d8 (by omega),dn (by omega)]
           simp
          |succ i=>
           have hyl:=hy y bj
           simp only[jo,bm]
           rw[ih i (fun z hz=>hy z (bg _ hz)) (by simpa using e)]
           rw[ci,gw,av (l:=y) (by omega),kf,ce (l:=y) (by omega),dw]
           rw[show i*sz+sz+off-y.length=i*sz+off by omega,show i*sz+sz+off+(a.eval u).cells.toList.length-y.length=i*sz+off+(a.eval u).cells.toList.length by omega]
           simp
        exact this vss i hlens hv'
       rw[hfl]
       have hfll:vss.flatten.length=els.length*sz:=by
        have:=(n7 h5).length
        rw[this]
        clear this hfl
        have: ∀(l:List (List AV)),(∀x∈l,x.length=sz)→l.flatten.length=l.length*sz:=by
         intro l
         induction l with
         |nil=>intro _;simp
         |cons y l ih=>intro hy;rw[bm,aw,ih fun z hz=>hy z (bg _ hz),hy y bj,bb,ci];omega
        exact this els fun x hx=>(h4 x hx).1
       have:=Ev.put (base:=(C.φ id).base) (o:=i*sz+off) h1 h7 (vs:=(a.eval u).cells.toList) (by omega) (by omega)
       rwa [←gz]at this
      ·intro _ j hj
       rw[HP]
       exact h8 hfz j hj
      ·intro _ j hj hj'
       rw[HP]
       exact h9 hfz j (by simpa using hj) hj'
     ·simp only[execOp,ho,e',Instr.storeAt,jj,Sem.run_bind,Sem.run_pure,Result.andThen_ok,run]
    ·simp at h
  ·simp at h
end
end
section
section
variable{cl:Nat→List AV→Az→Mb}{P:Program}{tb:Di}{C:DR}{f:Fr}{a:Act}{nt:Nat}
theorem FY{α:Type}{sz:Nat}: ∀(l:List (List α)),(∀x∈l,x.length=sz)→l.flatten.length=l.length*sz
 |[],_=>by simp
 |y::l,h=>by
  rw[bm,aw,FY l fun z hz=>h z (bg _ hz),h y bj,bb,ci];omega
theorem O8: ∀{l:List (List AV)},(∀x∈l,x.all scal=true)→l.flatten.all scal=true
 |[],_=>rfl
 |y::l,h=>by
  rw[bm,jt,h y bj,O8 fun z hz=>h z (bg _ hz)]
  rfl
theorem zR(l:List UInt8):Bk C (BQ l) (l.map fun c=>[Value.int .u8 c.toNat])∧(∀x∈BQ l,x.length=1∧x.all scal=true):=by
 induction l with
 |nil=>exact⟨rfl,fun x hx=>by cases hx⟩
 |cons c l ih=>
  refine⟨⟨_,_,rfl,⟨_,_,rfl,rfl,rfl⟩,ih.1⟩,fun x hx=> ?_⟩
  rcases bu.1 hx with e|hx
  ·subst e;exact⟨rfl,rfl⟩
  ·exact ih.2 x hx
theorem mV(I:Inv tb C){x:AV}{v:Value}{sz:Nat}{els:List (List AV)}(hsz:0<sz)(r:HG C x v)(h:mW C.H sz x=some els):
  (lg v).run P C.w= .ok els.length C.w∧ ∃vss,Bk C els vss∧(∀e∈els,e.length=sz∧e.all scal=true)∧
   ∀(m:Nat) (w:World),m≤els.length→w.heap=C.w.heap→(dz sz m v).run P w= .ok (vss.take m).flatten.toArray w:=by
 have slc:E4 C.H sz x=some els→(lg v).run P C.w= .ok els.length C.w∧ ∃vss,Bk C els vss∧(∀e∈els,e.length=sz∧e.all scal=true)∧
   ∀(m:Nat) (w:World),m≤els.length→w.heap=C.w.heap→(dz sz m v).run P w= .ok (vss.take m).flatten.toArray w:=by
  intro h
  rcases kC I hsz r h with ⟨rfl,e⟩|⟨q,cap,vss,e,hlc,hh,hs,hr⟩
  ·subst e
   refine⟨rfl,[],rfl,fun e he=>(by cases he),fun m w _ _=> ?_⟩
   simp[dz]
  ·subst e
   refine⟨rfl,vss,hr,hs,fun m w hm hw=> ?_⟩
   have hlens:=i6 (fun x hx=>(hs x hx).1) hr
   have hlen:(vss.take m).flatten.length=m*sz:=by
    rw[FY _ fun x hx=>hlens x (dc hx),a6,hr.length];congr 1;omega
   by_cases hne:els=[]
   ·subst hne
    have hv:vss=[]:=cj (by rw[hr.length];rfl)
    subst hv
    have hm0:m=0:=by simpa using hm
    subst hm0
    simp only[dz,jb,List.take_nil,mq]
    rfl
   obtain⟨b,base,rfl,hh2⟩:=hh hne
   have hh':Ev w b base (vss.take m).flatten:=by
    intro j u hj
    rw[Ff _ _ hlens,dp]at hj
    split at hj
    ·have:=hh2 j u hj
     rwa [P2 (w:=C.w) (w':=w) (by rw[hw])]
    ·cases hj
   have:=HJ (P:=P) hh'
   rw[hlen]at this
   simpa [dz]using this
 cases x<;>simp only[mW]at h<;>try exact slc h
 case s l=>
  split at h
  ·rename_i e
   subst e
   obtain rfl:=bf h
   have ev:v= .string ⟨l.toArray⟩:=r
   subst ev
   obtain⟨h1,h2⟩:=zR (C:=C) l
   refine⟨by simp[lg,R8,BQ],_,h1,h2,fun m w hm hw=> ?_⟩
   simp only[dz,Sem.run_pure]
   congr 1
   rw[ZI]
   have: ∀(l:List UInt8) (m:Nat),pn m (List.map (fun b:UInt8=>Value.int .u8 b.toNat) l)=(pn m (List.map (fun c:UInt8=>[Value.int .u8 c.toNat]) l)).flatten:=by
    intro l
    induction l with
    |nil=>intro m;simp
    |cons c l ih=>
     intro m
     cases m with
     |zero=>simp
     |succ m=>simp[ih]
   simp[oo,this]
  ·simp at h
theorem OS{t u ty e:TypeId}(ht:P.underlying t=some (.slice e))(hu: ∃d,P.underlying u=some d∧ ∀k,d≠ .int k)(hz:(P.info? e).isSome=true){p:Option Addr}{n cap m:Nat}{x:Value}{w:World}{us:List Value}
  (hl:(lg x).run P w= .ok m w) (hc:(dz (P.cellsOf e) m x).run P w= .ok us.toArray w) (hroom:n+m≤cap):
  (ku #[t,u] ty #[.slice p n cap,x]).run P w=(match p with
   |some q=>(storeCells (q.add (n*P.cellsOf e)) us).run P w
   |none=> .ok () w).andThen fun _ w'=> .ok (.slice p (n+m) cap) w':=by
 obtain⟨d,hu,hk⟩:=hu
 have hd:(match d with| .int _=>true|_=>false)=false:=by cases d<;>first|rfl|exact absurd rfl (hk _)
 simp only[ku,jx,bx,c0,Sem.run_bind,AJ ht,AJ hu,Result.andThen_ok,Cq hz,Sem.run_pure]
 cases p with
 |none=>cases d<;>first|exact absurd rfl (hk _)|simp[hl,hc,hroom]
 |some q=>cases d<;>first|exact absurd rfl (hk _)|simp[hl,hc,hroom]
theorem Ud{t u ty e:TypeId}(ht:P.underlying t=some (.slice e))(hu: ∃d,P.underlying u=some d∧ ∀k,d≠ .int k){i:TypeInfo}(hi:P.info? e=some i){z:Value}(hzz:i.zero=some z){p:Option Addr}{n cap m:Nat}{x:Value}{w:World}
  {us olds:List Value} (hl:(lg x).run P w= .ok m w) (hc: ∀w',w'.heap=w.heap→(dz (P.cellsOf e) m x).run P w'= .ok us.toArray w')
  (ho: ∀w',w'.heap=w.heap→(dz (P.cellsOf e) n (.slice p n cap)).run P w'= .ok olds.toArray w') (hroom:cap<n+m) (hb:(n+m)*i.bytes≤140737488355328) (hbz:0<i.bytes):
  ∃K,n+m≤K∧(ku #[t,u] ty #[.slice p n cap,x]).run P w=
   .ok (.slice (some ⟨w.heap.size,0,none⟩) (n+m) K) ({w with drawn:=w.drawn+1}.alloc (.cells (olds.toArray++us.toArray++j1 z.cells (K-(n+m))) e)):=by
 obtain⟨d,hu,hk⟩:=hu
 have hz:(P.info? e).isSome=true:=by rw[hi];rfl
 have hcells:P.cellsOf e=i.size:=by simp[kt,hi]
 have hch:(choose (.appendCap (n+m) cap e)).run P w= .ok (grownCap w (n+m) cap e) {w with drawn:=w.drawn+1}:=by
  simp[Question.forced,grownCap]
 have hnr: ¬(n+m≤cap):=by omega
 have hfit:=growslice_fits (bytes:=i.bytes) hroom hb
 have hfit': ¬(Builtin.nextslicecap (n+m) cap*i.bytes>2^48):=by omega
 refine⟨grownCap w (n+m) cap e,grownCap_ge w (n+m) cap e,?_⟩
 have h1:=hc {w with drawn:=w.drawn+1} rfl
 have h2:=ho {w with drawn:=w.drawn+1} rfl
 have hbz':i.bytes≠0:=by omega
 simp only[ku,jx,bx,c0,Sem.run_bind,AJ ht,AJ hu,Result.andThen_ok,Cq hz,Sem.run_pure]
 cases d<;>first
  |exact absurd rfl (hk _)
  |(simp only[au,qu,hl,Result.andThen_ok,Sem.run_bind,Sem.run_pure,qo hnr,Sem.run_ite,KX hi,hbz',or_self,and_false,hfit',hch,run_askRoom,h1,h2,zeroValue,hzz,newRow,run_newObj,gt_iff_lt]
    rfl)
theorem vE{fz:Bool}{sz:Nat}{els:List (List AV)}{vss:List (List Value)}{arr:Array Value}{e:TypeId}{w:World}(hw:w.heap=C.w.heap)(hsz:0<sz)(hs: ∀x∈els,x.length=sz∧x.all scal=true)(hr:Bk C els vss)
  (harr: ∀(j:Nat) (v:Value),vss.flatten[j]? =some v→arr[j]? =some v) (hle:els.length*sz≤arr.size):let p:Place:=⟨C.w.heap.size,0,arr.size⟩
  let w':=w.alloc (.cells arr e)
  C.w.heap.size<w'.heap.size∧(∀b,b<C.w.heap.size→w'.heap[b]? =C.w.heap[b]?)∧ ∀D:DR,LH C D→D.w=w'→Obj D p (CB.row (some e) fz sz els):=by
 have hsize:w.heap.size=C.w.heap.size:=by rw[hw]
 have hn:(w.alloc (.cells arr e)).heap[C.w.heap.size]? =some (.cells arr e):=by rw[←hsize];exact Jy _ _
 refine⟨by rw[HY,hsize];omega,fun b hb=>by rw[alloc_old _ _ (by omega),hw],?_⟩
 intro D X hD
 refine⟨vss,arr,e,(0,0),⟨by rw[hD];exact hn,be _,fun k hk=>by cases hk;rfl⟩,rfl,hsz,hs,nr X hr,by simpa using hle,?_,?_,?_⟩
 ·intro j v hj
  rw[hD]
  simp only[f7,hn,da]
  simpa using harr j v hj
 ·intro _ o _
  rw[hD]
  simp only[jc,hn]
  simp
 ·intro _ o _ _
  rw[hD]
  simp only[jc,hn]
  simp
theorem SP(I:Inv tb C){fz:Bool}{sz:Nat}{els:List (List AV)}{vss:List (List Value)}{arr:Array Value}{e:TypeId}{w:World}(hrest:Rest C.w w)(hw:w.heap=C.w.heap)(hsz:0<sz)(hs: ∀x∈els,x.length=sz∧x.all scal=true)(hr:Bk C els vss)
  (harr: ∀(j:Nat) (v:Value),vss.flatten[j]? =some v→arr[j]? =some v) {K:Nat} (hK:els.length≤K) (hle:K*sz≤arr.size) {x:Result Next}
  (h:x= .ok (.value (.slice (some ⟨C.w.heap.size,0,none⟩) els.length K)) (w.alloc (.cells arr e))):
  Yields tb C (.orow C.H.length els.length 0 els.length,some (C.H++[CB.row (some e) fz sz els])) x:=by
 have hle':els.length*sz≤arr.size:=dy (cr _ hK) hle
 obtain⟨h1,h2,h3⟩:=vE (fz:=fz) (e:=e) hw hsz hs hr harr hle'
 refine SQ (w:=w.alloc (.cells arr e)) I (p:=⟨C.w.heap.size,0,arr.size⟩) hrest h h1 rfl h2 (h3 _ (more (w:=w.alloc (.cells arr e)) I hrest h1 rfl h2).1 rfl) ?_
 intro hφ
 refine⟨⟨_,_,rfl⟩,fz,sz,els,by simp[o5,rowAt],be _,fun _=>⟨by omega,0,K,by rw[hφ],hK,fun _=>by rw[hφ];simp,by rw[hφ];simpa using hle,by rw[hφ];exact ib _⟩⟩
theorem Tp{vss:List (List Value)}{us:List Value}{rest:Array Value}(j:Nat)(v:Value)(h:vss.flatten[j]? =some v)(e:us=vss.flatten):(#[]++us.toArray++rest)[j]? =some v:=by
 subst e
 have:=Bl h
 rw[j6 (by simpa using this)]
 simpa using h
theorem sim_app(I:Inv tb C)(F:BO C f a nt){o:Oper}{c:Call}{t u e:TypeId}{s x:AO}{y1 y2:Operand}(ho:o.op= .call c)(hc:c.callee= .builtin .append)(hargs:c.args= #[y1,y2])(htys:c.argTypes= #[t,u])
  (ht:P.underlying t=some (.slice e)) (hu: ∃d,P.underlying u=some d∧ ∀k,d≠ .int k) {i:TypeInfo} (hi:P.info? e=some i) {z:Value} (hzz:i.zero=some z) (hzs:z.cells.size=P.cellsOf e) (hz0:0<P.cellsOf e) (hbz:0<i.bytes)
  (h1:BG s y1=true) (h2:BG x y2=true) {new:List (List AV)} (hn:mW C.H (P.cellsOf e) (eval tb f x)=some new) {r:AV×Option Az} (h:Wg C.H e (P.cellsOf e) i.bytes (eval tb f s) new=some r):
  Yields tb C r ((execOp a.eval o).run P C.w):=by
 have hz:(P.info? e).isSome=true:=by rw[hi];rfl
 have r1:=Be I F h1
 obtain⟨hl,vss,hrr,hs,hfc⟩:=mV (P:=P) I hz0 (Be I F h2) hn
 have hlens:=i6 (fun x hx=>(hs x hx).1) hrr
 have hfc': ∀w',w'.heap=C.w.heap→(dz (P.cellsOf e) new.length (a.eval y2)).run P w'= .ok vss.flatten.toArray w':=by
  intro w' hw
  have:=hfc new.length w' (be _) hw
  rwa [av (by rw[hrr.length];omega)]at this
 have hul:vss.flatten.length=new.length*P.cellsOf e:=by rw[FY _ hlens,hrr.length]
 have run: ∀{v w'},(ku #[t,u] o.type #[a.eval y1,a.eval y2]).run P C.w= .ok v w'→(execOp a.eval o).run P C.w= .ok (.value v) w':=by
  intro v w' hv
  refine FQ ho hc fun q=> ?_
  simp only[hargs,htys,gi,bn,ew,builtin,Sem.run_bind,hv,Result.andThen_ok,Sem.run_pure]
 generalize eval tb f s=v at*
 cases v<;>simp only[Wg,reduceCtorEq]at h
 case nils=>
  have e1:a.eval y1= .slice none 0 0:=r1
  split at h
  ·rename_i h0
   obtain rfl:=bf h
   have:=OS (P:=P) (ty:=o.type) ht hu hz (p:=none) (n:=0) (cap:=0) hl (hfc' C.w rfl) (by omega)
   refine A9 I (v:= .slice none 0 0) (run ?_) rfl
   rw[e1,this]
   simp[h0]
  ·rename_i h0
   split at h
   ·rename_i hb
    obtain rfl:=bf h
    obtain⟨K,hK,hrun⟩:=Ud (P:=P) (ty:=o.type) (p:=none) (n:=0) (cap:=0) (olds:=[]) ht hu hi hzz hl hfc' (fun w' _=>by simp[dz]) (by omega) (by rw[da];unfold Bs at hb;omega) hbz
    rw[←e1]at hrun
    simp only[da]at hrun hK
    refine SP (w:={C.w with drawn:=C.w.drawn+1}) I ⟨rfl,rfl,rfl⟩ rfl hz0 hs hrr (fun j v hj=>Tp j v hj rfl) hK ?_ (run hrun)
    simp only[Array.size_append,j2,size_zeroCells,hzs,hul,bz,da]
    rw[←fx,show new.length+(K-new.length)=K by omega]
    exact be _
   ·simp at h
 case orow id n lo len=>
  obtain⟨_,fz,sz,els,hg,hle,k⟩:=r1
  simp only[hg,aa]at h
  split at h
  ·rename_i hcond
   obtain⟨rfl,hn',rfl,hsz,hb,hfz⟩:=hcond
   obtain⟨_,off,cap,e1,hlc,hoff,hsize,hbo⟩:=k hn'
   subst hsz
   subst hn'
   obtain⟨tl,hg',hlab⟩:=KY hg
   obtain⟨ws,arr,et,fr,⟨g1,hfr0,hlb⟩,g2,g3,g4,g5,g6,g7,g8,g9⟩:=I.obj id _ hg'
   have hwl:=i6 (fun x hx=>(g4 x hx).1) g5
   have hwfl:ws.flatten.length=els.length*P.cellsOf e:=by rw[FY _ hwl,g5.length]
   split at h
   ·rename_i h0
    obtain rfl:=bf h
    have:=OS (P:=P) (ty:=o.type) ht hu hz (p:=some ⟨(C.φ id).blk,off,none⟩) (n:=els.length) (cap:=cap) hl (hfc' C.w rfl) (by omega)
    have hv0:vss.flatten=[]:=cj (by rw[hul,h0];simp)
    rw[hv0]at this
    refine A9 I (v:= .slice (some ⟨(C.φ id).blk,off,none⟩) els.length cap) (run ?_) ⟨⟨_,_,rfl⟩,fz,_,els,hg,be _,fun _=>⟨by omega,off,cap,rfl,hlc,hoff,hsize,hbo⟩⟩
    rw[e1,this]
    simp[h0,storeCells]
   ·rename_i h0
    obtain rfl:=bf h
    have hpos:0<new.length:=by omega
    by_cases hroom:els.length+new.length≤cap
    ·
     have hcap:(els.length+new.length)*P.cellsOf e≤cap*P.cellsOf e:=cr _ hroom
     rw[fx]at hcap
     have hoffs:off=(C.φ id).base∨els.length=0:=by
      rcases d7 els.length with h|h
      ·exact .inr h
      ·exact .inl (by rw[hoff h];simp)
     have hst:=XQ (P:=P) (o:=off+els.length*P.cellsOf e) (vs:=vss.flatten) g1 (by rw[hul];omega) (fun j hj=>g9 hfz _ (by
       rcases hoffs with h|h
       ·omega
       ·rw[h];omega) (by rw[hul]at hj;omega)) (Oz (O8 fun x hx=>(hs x hx).2) hrr.flat)
     have:=OS (P:=P) (ty:=o.type) ht hu hz (p:=some ⟨(C.φ id).blk,off,none⟩) (n:=els.length) (cap:=cap) hl (hfc' C.w rfl) hroom
     simp only[G4,hst,Result.andThen_ok]at this
     obtain⟨arr',q1,q2⟩:=Hw vss.flatten (off+els.length*P.cellsOf e) g1
     obtain⟨X,hI⟩:=upd (D:=⟨fun j=>if j=id then⟨(C.φ id).blk,off,(C.φ id).size⟩else C.φ j,C.H.set id (CB.row (W9 (ED C.H id) e) fz (P.cellsOf e) (els++new)),C.w.setCells (C.φ id).blk (off+els.length*P.cellsOf e) vss.flatten⟩) I (Hr _ _) hg' rfl
      (fun j hj=>qo hj) (by simp only[Hq];omega) (fun b hb hne=>Et hne _ _) (.inl (by simp)) (fun e=>by cases e)
      (fun _ fz' sz' els' e=>by cases e;exact⟨_,_,_,rfl,by simp,fun e=>absurd e (by rw[aw];omega)⟩)
     refine⟨_,X,hI ?_,rfl, .inl ⟨.slice (some ⟨(C.φ id).blk,off,none⟩) (els.length+new.length) cap,run (by rw[e1,this]),?_⟩⟩
     ·simp only[qt]
      refine⟨ws++vss,arr',et,fr,⟨q1,hfr0,fun k hk=>by
       unfold W9 at hk
       split at hk
       ·rename_i hl';rw[hlab]at hl';cases hk;exact hlb _ hl'
       ·cases hk⟩,by rw[q2];exact g2,g3,?_,p0 (nr X g5) (nr X hrr),?_,?_,?_,?_⟩
      ·intro y hy
       rcases go.1 hy with hy|hy
       ·exact g4 y hy
       ·exact hs y hy
      ·simp only[aw];rw[fx];omega
      ·intro j v hj
       rw[f6]at hj
       rcases dq j ws.flatten.length with hlt|hge
       ·rw[br hlt]at hj
        rw[World.cell?_setCells_out _ _ _ _ _ fun _ _=> .inl (by simp;omega)]
        have hoff':off=(C.φ id).base:=hoffs.resolve_right fun h0=>by rw[h0]at hwfl;omega
        rw[hoff']
        exact g7 j v hj
       ·rw[bo hge]at hj
        have hlt':=Bl hj
        have:=World.cell?_setCells_in (C.φ id).blk vss.flatten (off+els.length*P.cellsOf e) C.w (fun q hq=>by
         simp only[f7,g1]
         simp[fi (show off+els.length*P.cellsOf e+q<arr.size by omega)]) (j-ws.flatten.length) hlt'
        rw[show off+els.length*P.cellsOf e+(j-ws.flatten.length)=off+j by omega]at this
        rw[this,←hj,ad hlt']
      ·intro hf j hj
       rw[HP]
       exact g8 hf j hj
      ·intro _ j hj hj'
       simp only[aw]at hj
       rw[fx]at hj
       rw[HP]
       refine g9 hfz j ?_ hj'
       rcases hoffs with h|h
       ·omega
       ·rw[h];omega
     ·exact⟨⟨_,_,rfl⟩,fz,P.cellsOf e,els++new,qY (dg (Bl hg')),by simp,fun _=>⟨by simp,off,cap,by simp,by omega,fun _=>by simp,by simpa using hsize,by simp⟩⟩
    ·
     have hold: ∀w',w'.heap=C.w.heap→(dz (P.cellsOf e) els.length (.slice (some ⟨(C.φ id).blk,off,none⟩) els.length cap)).run P w'= .ok ws.flatten.toArray w':=by
      intro w' hw
      have hh:Ev w' (C.φ id).blk off ws.flatten:=by
       intro j v hj
       have hlt:=Bl hj
       have hoff':off=(C.φ id).base:=by
        rcases d7 els.length with h|h
        ·rw[h]at hwfl;omega
        ·rw[hoff h];simp
       rw[P2 (w:=C.w) (w':=w') (by rw[hw]),hoff']
       exact g7 j v hj
      have:=HJ (P:=P) hh
      rw[hwfl]at this
      simpa [dz]using this
     obtain⟨K,hK,hrun⟩:=Ud (P:=P) (ty:=o.type) (p:=some ⟨(C.φ id).blk,off,none⟩) (n:=els.length) (cap:=cap) (olds:=ws.flatten) ht hu hi hzz hl hfc' hold (by omega) (by unfold Bs at hb;omega) hbz
     rw[←e1]at hrun
     have hall: ∀x∈els++new,x.length=P.cellsOf e∧x.all scal=true:=by
      intro y hy
      rcases go.1 hy with hy|hy
      ·exact g4 y hy
      ·exact hs y hy
     have hsize':(ws.flatten.toArray++vss.flatten.toArray++j1 z.cells (K-(els.length+new.length))).size=K*P.cellsOf e:=by
      simp only[Array.size_append,j2,size_zeroCells,hzs,hul,hwfl]
      rw[←fx,←fx]
      congr 1
      omega
     obtain⟨w1,w2,w3⟩:=vE (fz:=fz) (e:=e) (w:={C.w with drawn:=C.w.drawn+1}) (vss:=ws++vss) (arr:=ws.flatten.toArray++vss.flatten.toArray++j1 z.cells (K-(els.length+new.length))) rfl hz0 hall (p0 g5 hrr)
      (fun j v hj=>by
       rw[f6]at hj
       have:=Bl hj
       rw[j6 (by simpa using this)]
       simpa using hj) (by rw[hsize',aw];exact cr _ hK)
     obtain⟨X,hI⟩:=upd (D:=⟨fun j=>if j=id then⟨C.w.heap.size,0,(ws.flatten.toArray++vss.flatten.toArray++j1 z.cells (K-(els.length+new.length))).size⟩else C.φ j,C.H.set id (CB.row (W9 (ED C.H id) e) fz (P.cellsOf e) (els++new)),{C.w with drawn:=C.w.drawn+1}.alloc (.cells (ws.flatten.toArray++vss.flatten.toArray++j1 z.cells (K-(els.length+new.length))) e)⟩) I ⟨rfl,rfl,rfl⟩ hg' rfl
      (fun j hj=>qo hj) (Nat.le_of_lt w1) (fun b hb _=>w2 b hb) (.inr ⟨by simp,by simp⟩) (fun e=>by cases e)
      (fun _ fz' sz' els' e=>by cases e;exact⟨_,_,_,rfl,by simp,fun e=>absurd e (by rw[aw];omega)⟩)
     refine⟨_,X,hI ?_,rfl, .inl ⟨_,run hrun,?_⟩⟩
     ·simp only[qt]
      obtain⟨vss',arr'',e'',fr'',⟨y1,y2,y3⟩,yy⟩:=w3 _ X rfl
      exact⟨vss',arr'',e'',fr'',⟨y1,y2,fun k hk=>by
       unfold W9 at hk
       split at hk
       ·cases hk;exact y3 _ rfl
       ·cases hk⟩,yy⟩
     ·exact⟨⟨_,_,rfl⟩,fz,P.cellsOf e,els++new,qY (dg (Bl hg')),by simp,fun _=>⟨by simp,0,K,by simp,hK,fun _=>by simp,by simp only[qt,hsize'];omega,by simp⟩⟩
  ·simp at h
theorem cG{sz m:Nat}{l:List (List AV)}(h: ∀x∈l,x.length=sz)(hm:m≤l.length):(l.take m).flatten.length=m*sz:=by
 rw[FY _ fun x hx=>h x (dc hx),a6,f3 hm]
theorem sim_cpy(I:Inv tb C)(F:BO C f a nt){o:Oper}{c:Call}{t e:TypeId}{ts:Array TypeId}{d x:AO}{y1 y2:Operand}(ho:o.op= .call c)(hc:c.callee= .builtin .copy)(hargs:c.args= #[y1,y2])(htys:c.argTypes=ts)(ht0:ts[0]? =some t)
  (ht:P.underlying t=some (.slice e)) (hz:(P.info? e).isSome=true) (hz0:0<P.cellsOf e) (h1:BG d y1=true) (h2:BG x y2=true) {src:List (List AV)} (hn:mW C.H (P.cellsOf e) (eval tb f x)=some src) {r:AV×Option Az}
  (h:kF C.H (P.cellsOf e) (eval tb f d) src=some r):Yields tb C r ((execOp a.eval o).run P C.w):=by
 have r1:=Be I F h1
 obtain⟨hl,vss,hrr,hs,hfc⟩:=mV (P:=P) I hz0 (Be I F h2) hn
 have hlens:=i6 (fun x hx=>(hs x hx).1) hrr
 have run: ∀{v w'},(ml ts o.type #[a.eval y1,a.eval y2]).run P C.w= .ok v w'→(execOp a.eval o).run P C.w= .ok (.value v) w':=by
  intro v w' hv
  refine FQ ho hc fun q=> ?_
  simp only[hargs,htys,gi,bn,ew,builtin,Sem.run_bind,hv,Result.andThen_ok,Sem.run_pure]
 have body: ∀{p:Option Addr} {len cap:Nat},a.eval y1= .slice p len cap→(ml ts o.type #[a.eval y1,a.eval y2]).run P C.w=
   (match p with
    |some q=>(storeCells q (vss.take (min src.length len)).flatten).run P C.w
    |none=> .ok () C.w).andThen fun _ w'=> .ok (goInt ((min src.length len:Nat):Int)) w':=by
  intro p len cap he
  have hm:min src.length len≤src.length:=Nat.min_le_left _ _
  have hf:=hfc (min src.length len) C.w hm rfl
  have hmin:Nat.min src.length len=min src.length len:=rfl
  simp only[ml,ht0,jx,bx,c0,Sem.run_bind,AJ ht,Result.andThen_ok,he,hl,Cq hz,hmin,hf]
  cases p<;>simp
 have hvt: ∀m,m≤src.length→B6 C (src.take m).flatten (vss.take m).flatten∧(src.take m).flatten.all scal=true∧(src.take m).flatten.length=m*P.cellsOf e∧(vss.take m).flatten.length=m*P.cellsOf e:=by
  intro m hm
  have hr:=n7 (o4 (n:=m) hrr)
  have hlen:=cG (m:=m) (fun x hx=>(hs x hx).1) hm
  exact⟨hr,O8 fun x hx=>(hs x (dc hx)).2,hlen,by rw[hr.length,hlen]⟩
 generalize eval tb f d=v at*
 cases v<;>simp only[kF,reduceCtorEq]at h
 case nils=>
  obtain rfl:=bf h
  have e1:a.eval y1= .slice none 0 0:=r1
  refine A9 I (v:=goInt 0) (run ?_) rfl
  rw[body e1]
  simp
 case ocel sz id off len=>
  obtain⟨_,o',cap,e1,hlc,hoff,_⟩:=r1
  cases hcs:C3 C.H id with
  |none=>rw[hcs]at h;simp at h
  |some cs=>
   rw[hcs]at h
   simp only[aa]at h
   split at h
   ·rename_i hcond
    obtain⟨hsz,hle⟩:=hcond
    obtain rfl:=bf h
    obtain⟨tl,hg,hlab⟩:=OF hcs
    obtain⟨vs,arr,et,fr,⟨g1,hlb⟩,g2,g3,g4,g5,g6⟩:=I.obj id _ hg
    generalize hm:min src.length len=m at*
    have hms:m≤src.length:=by omega
    have hml:m*P.cellsOf e≤len*P.cellsOf e:=cr _ (by omega)
    obtain⟨q1,q2,q3,q4⟩:=hvt m hms
    have hsp:cs.take off++(src.take m).flatten++cs.drop (off+m*P.cellsOf e)=BA cs off (src.take m).flatten:=by simp only[BA,q3]
    have hst:(storeCells ⟨(C.φ id).blk,o',none⟩ (vss.take m).flatten).run P C.w= .ok () (C.w.setCells (C.φ id).blk off (vss.take m).flatten):=by
     by_cases h0:0<len
     ·rw[hoff h0]
      exact XQ g1 (by rw[q4,g2];omega) (fun j hj=>g6 _ (by rw[q4]at hj;omega)) (Oz q2 q1)
     ·have:m=0:=by omega
      subst this
      simp[storeCells,World.setCells]
    obtain⟨arr',k1,k2⟩:=Hw (vss.take m).flatten off g1
    obtain⟨X,hI⟩:=upd (D:=⟨C.φ,C.H.set id (CB.cells (ED C.H id) (BA cs off (src.take m).flatten)),C.w.setCells (C.φ id).blk off (vss.take m).flatten⟩) I (Hr _ _) hg rfl (fun _ _=>rfl) (by simp only[Hq];omega)
     (fun b hb hne=>Et hne _ _) (.inl rfl) (fun _=>⟨rfl,rfl⟩) (fun _ _ _ _ e=>by cases e)
    refine⟨_,X,hI ?_,by simp only[iq,hsp], .inl ⟨goInt m,run ?_,rfl⟩⟩
    ·refine⟨_,arr',et,fr,⟨k1,by rw[hlab];exact hlb⟩,by rw[k2,g2,I2 (by rw[q3];omega)],Ns g3 q2,OM (g4.ext X) (q1.ext X),?_,?_⟩
     ·have:=Ev.put (base:=0) (o:=off) g1 g5 (vs:=(vss.take m).flatten) (by rw[q4,g4.length];omega) (by rw[g4.length];omega)
      simpa using this
     ·intro j hj
      rw[I2 (by rw[q3];omega)]at hj
      rw[HP]
      exact g6 j hj
    ·rw[body e1]
     simp only[hm,hst,Result.andThen_ok]
   ·simp at h
 case orow id n lo len=>
  obtain⟨_,fz,sz,els,hg,hle,k⟩:=r1
  simp only[hg,aa]at h
  split at h
  ·rename_i hcond
   obtain⟨hfz,hn',hsz,hlo⟩:=hcond
   obtain rfl:=bf h
   subst hsz
   obtain⟨_,off,cap,e1,hlc,hoff,hsize,hbo⟩:=k hn'
   obtain⟨tl,hg',hlab⟩:=KY hg
   obtain⟨ws,arr,et,fr,⟨g1,hfr0,hlb⟩,g2,g3,g4,g5,g6,g7,g8,g9⟩:=I.obj id _ hg'
   generalize hm:min src.length len=m at*
   have hms:m≤src.length:=by omega
   obtain⟨q1,q2,q3,q4⟩:=hvt m hms
   have hwl:=i6 (fun x hx=>(g4 x hx).1) g5
   have hwfl:ws.flatten.length=els.length*P.cellsOf e:=by rw[FY _ hwl,g5.length]
   have hb1:lo*P.cellsOf e+m*P.cellsOf e≤els.length*P.cellsOf e:=by
    rw[←fx];exact cr _ (by omega)
   have hst:(storeCells ⟨(C.φ id).blk,off,none⟩ (vss.take m).flatten).run P C.w= .ok () (C.w.setCells (C.φ id).blk ((C.φ id).base+lo*P.cellsOf e) (vss.take m).flatten):=by
    by_cases h0:0<len
    ·rw[hoff h0]
     exact XQ g1 (by rw[q4,g2];omega) (fun j hj=>g8 hfz _ (by rw[q4]at hj;omega)) (Oz q2 q1)
    ·have:m=0:=by omega
     subst this
     simp[storeCells,World.setCells]
   obtain⟨arr',k1,k2⟩:=Hw (vss.take m).flatten ((C.φ id).base+lo*P.cellsOf e) g1
   obtain⟨X,hI⟩:=upd (D:=⟨C.φ,C.H.set id (CB.row (ED C.H id) false (P.cellsOf e) (els.take lo++src.take m++els.drop (lo+m))),C.w.setCells (C.φ id).blk ((C.φ id).base+lo*P.cellsOf e) (vss.take m).flatten⟩) I (Hr _ _) hg' rfl (fun _ _=>rfl) (by simp only[Hq];omega)
    (fun b hb hne=>Et hne _ _) (.inl rfl) (fun e=>by cases e) (fun _ fz' sz' els' e=>by cases e;exact⟨_,_,_,rfl,by simp only[aw,a6,bh];omega,fun _=>rfl⟩)
   have hnl:(els.take lo++src.take m++els.drop (lo+m)).length=els.length:=by simp only[aw,a6,bh];omega
   refine⟨_,X,hI ?_,rfl, .inl ⟨goInt m,run ?_,rfl⟩⟩
   ·refine⟨ws.take lo++vss.take m++ws.drop (lo+m),arr',et,fr,⟨k1,hfr0,by rw[hlab];exact hlb⟩,by rw[k2];exact g2,g3,?_,?_,by rw[hnl];exact g6,?_,?_,?_⟩
    ·intro y hy
     simp only[go]at hy
     rcases hy with (hy|hy)|hy
     ·exact g4 y (dc hy)
     ·exact hs y (dc hy)
     ·exact g4 y (cu hy)
    ·exact p0 (p0 (o4 (g5.ext X)) (o4 (hrr.ext X))) (Bk.drop (g5.ext X))
    ·have hfl:(ws.take lo++vss.take m++ws.drop (lo+m)).flatten=ws.flatten.take (lo*P.cellsOf e)++(vss.take m).flatten++ws.flatten.drop (lo*P.cellsOf e+(vss.take m).flatten.length):=by
      rw[f6,f6,Ff _ _ hwl,FX _ _ hwl,q4,←fx]
     rw[hfl]
     exact Ev.put (base:=(C.φ id).base) (o:=lo*P.cellsOf e) g1 g7 (vs:=(vss.take m).flatten) (by omega) (by omega)
    ·intro _ j hj
     rw[HP]
     exact g8 hfz j hj
    ·intro _ j hj hj'
     rw[HP]
     exact g9 hfz j (by rwa [hnl]at hj) hj'
   ·rw[body e1]
    simp only[hm,hst,Result.andThen_ok]
  ·simp at h
end
end
section
def shpF(P:Program)(sh:TypeId→Option (List CK)):Nat→List Field→Option (List CK)
 |_,[]=>some []
 |pos,f::fs=>(sh f.type).bind fun l=>if f.offset=pos∧f.name≠ "_" ∧l.length=P.cellsOf f.type then(shpF P sh (pos+l.length) fs).map (l++ ·)else none
def lF(P:Program):Nat→TypeId→Option (List CK)
 |0,_=>none
 |d+1,t=>
  match P.underlying t with
  |some .bool=>some [.b]
  |some (.int k)=>some [.i k]
  |some .string=>some [.s]
  |some (.struct fs)=>if P.stoodInHeld t then none else shpF P (lF P d) 0 fs.toList
  |some (.array n e)=>(lF P d e).bind fun l=>if l.length=P.cellsOf e then some (aq n l).flatten else none
  |_=>none
theorem KJ: ∀{l:List CK} {x y:List AV} {b:Bool},QZ l x y=some b→x.length=l.length∧y.length=l.length
 |[],[],[],_,_=>⟨rfl,rfl⟩
 |[],[],_::_,_,h=>by simp[QZ]at h
 |[],_::_,_,_,h=>by simp[QZ]at h
 |_::_,[],_,_,h=>by simp[QZ]at h
 |_::_,_::_,[],_,h=>by simp[QZ]at h
 |c::l,v::x,u::y,b,h=>by
  simp only[QZ]at h
  obtain⟨a,_,h⟩:=ab.1 h
  obtain⟨d,h,_⟩:=aj.1 h
  obtain⟨h1,h2⟩:=KJ h
  simp[h1,h2]
theorem Tu: ∀{l m:List CK} {x y:List AV} {b:Bool},QZ (l++m) x y=some b→ ∃a c,QZ l (x.take l.length) (y.take l.length)=some a∧QZ m (x.drop l.length) (y.drop l.length)=some c∧b=(a&&c)
 |[],m,x,y,b,h=>⟨true,b,by simp[QZ],by simpa using h,by simp⟩
 |c::l,m,[],_,_,h=>by simp[QZ]at h
 |c::l,m,_::_,[],_,h=>by simp[QZ]at h
 |c::l,m,v::x,u::y,b,h=>by
  simp only[dt,QZ]at h
  obtain⟨a,ha,h⟩:=ab.1 h
  obtain⟨d,h',hd⟩:=aj.1 h
  subst hd
  obtain⟨p,q,h1,h2,hpq⟩:=Tu h'
  subst hpq
  refine⟨a&&p,q,?_,by simpa using h2,by simp[Bool.and_assoc]⟩
  simp only[bb,im,QZ,ha,aa,h1,an]
section
variable{cl:Nat→List AV→Az→Mb}{P:Program}{tb:Di}{C:DR}{f:Fr}{a:Act}{nt:Nat}
def qN(P:Program)(t:TypeId)(cs:List Value)(v:Value):Prop:=if G6 P t=true then v= .agg cs.toArray else cs=[v]
theorem R9{d:Nat}{t:TypeId}{l:List CK}(h:lF P d t=some l)(ha:G6 P t=false):l.length=1:=by
 cases d with
 |zero=>simp[lF]at h
 |succ d=>
  simp only[lF]at h
  simp only[G6]at ha
  split at h<;>simp_all
  all_goals (subst h;rfl)
theorem Q5{d:Nat}{t:TypeId}{l:List CK}(h:lF P d t=some l):(P.underlying t).isSome=true:=by
 cases d with
 |zero=>simp[lF]at h
 |succ d=>
  simp only[lF]at h
  cases hu:P.underlying t with
  |none=>rw[hu]at h;simp at h
  |some _=>rfl
theorem Q6{d:Nat}{t:TypeId}{l:List CK}(h:lF P d t=some l)(hc:l.length=P.cellsOf t){cs:List Value}{off:Nat}(hle:off+l.length≤cs.length)(w:World):
  ∃v,(part t cs.toArray off).run P w= .ok v w∧qN P t ((cs.drop off).take l.length) v:=by
 have hu:=Q5 h
 have hi:(P.info? t).isSome=true:=by
  obtain⟨d,hd⟩:=bl.1 hu
  exact info_of_underlying hd
 cases ha:G6 P t with
 |true=>
  refine⟨.agg (cs.toArray.extract off (off+P.cellsOf t)),?_,?_⟩
  ·simp only[part,Sem.run_bind,Fu t w hu,ha,Result.andThen_ok,qt,Cq hi,Sem.run_pure]
  ·simp only[qN,ha,qt]
   congr 1
   rw[←jk,j7,hc]
   simp[m8]
 |false=>
  have h1:=R9 h ha
  have hlt:off<cs.length:=by omega
  refine⟨cs[off],?_,?_⟩
  ·simp only[part,Sem.run_bind,Fu t w hu,ha,Result.andThen_ok,au,qu]
   simp[hlt]
  ·simp only[qN,ha,au,qu,h1]
   rw[bk hlt]
   rfl
def ckT:CK→TypeDesc
 | .b=> .bool
 | .i k=> .int k
 | .s=> .string
theorem vA{c:CK}{x y:AV}{v u:Value}{b:Bool}(h:eq1 c x y=some b)(rx:HG C x v)(ry:HG C y u):
  (∃p q,c= .b∧v= .bool p∧u= .bool q∧b=(p==q))∨(∃k p q,c= .i k∧v= .int k p∧u= .int k q∧b=(p==q))∨ ∃p q:List UInt8,c= .s∧v= .string ⟨p.toArray⟩∧u= .string ⟨q.toArray⟩∧b=(p==q):=by
 unfold eq1 at h
 split at h
 ·rename_i p q
  simp only[ae]at h
  exact .inl ⟨p,q,rfl,rx,ry,h.symm⟩
 ·rename_i k k1 p k2 q
  split at h
  ·rename_i hk
   obtain⟨rfl,rfl⟩:=hk
   simp only[ae]at h
   exact .inr (.inl ⟨_,p,q,rfl,rx,ry,h.symm⟩)
  ·cases h
 ·rename_i p q
  simp only[ae]at h
  exact .inr (.inr ⟨p,q,rfl,rx,ry,h.symm⟩)
 ·cases h
theorem qX(d:Nat){c:CK}{t:TypeId}{x y:AV}{v u:Value}{b:Bool}(h:eq1 c x y=some b)(rx:HG C x v)(ry:HG C y u)(w:World)
  (ht:P.underlying t=some (ckT c)):(du (d+1) t v u).run P w= .ok b w:=by
 rcases vA h rx ry with ⟨p,q,rfl,rfl,rfl,rfl⟩|⟨k,p,q,rfl,rfl,rfl,rfl⟩|⟨p,q,rfl,rfl,rfl,rfl⟩
 ·exact run_equalIn_bool' w d t p q ht
 ·exact run_equalIn_int w d t k k p q ht
 ·rw[run_equalIn_string w d t _ _ ht,PI,PI]
theorem one_of{x y:List AV}{cx cy:List Value}{c:CK}{b:Bool}(h:QZ [c] x y=some b)(rx:B6 C x cx)(ry:B6 C y cy): ∃a e v u,x=[a]∧y=[e]∧cx=[v]∧cy=[u]∧HG C a v∧HG C e u∧eq1 c a e=some b:=by
 obtain⟨h1,h2⟩:=KJ h
 match x,y,h1,h2 with
 |[p],[q],_,_=>
  obtain⟨v,r,e1,rv,e2⟩:=rx
  obtain⟨u,r',e3,ru,e4⟩:=ry
  simp only[QZ]at h
  obtain⟨b',hb,h⟩:=ab.1 h
  simp only[an,ae,kp]at h
  subst h
  exact⟨p,q,v,u,rfl,rfl,by rw[e1,show r=[]from e2],by rw[e3,show r'=[]from e4],rv,ru,hb⟩
def EqFor(P:Program)(C:DR)(dd:Nat)(t:TypeId)(l:List CK):Prop:=
 ∀(ax ay:List AV) (cx cy:List Value) (b:Bool) (x y:Value) (w:World),B6 C ax cx→B6 C ay cy→QZ l ax ay=some b→qN P t cx x→qN P t cy y→(du dd t x y).run P w= .ok b w
theorem Tc(dd d:Nat)(IH: ∀t l,lF P d t=some l→EqFor P C dd t l): ∀(fs:List Field) (pos:Nat) (l:List CK),shpF P (lF P d) pos fs=some l→ ∀(ax ay:List AV) (cx cy:List Value) (b:Bool) (w:World),
  B6 C ax (cx.drop pos)→B6 C ay (cy.drop pos)→QZ l ax ay=some b→(Op.eqFields dd cx.toArray cy.toArray fs).run P w= .ok b w
 |[],pos,l,h,ax,ay,cx,cy,b,w,rx,ry,e=>by
  simp only[shpF,ae]at h
  subst h
  obtain⟨h1,h2⟩:=KJ e
  match ax,ay,h1,h2 with
  |[],[],_,_=>
   simp only[QZ,ae]at e
   subst e
   simp[Op.eqFields]
 |f::fs,pos,l,h,ax,ay,cx,cy,b,w,rx,ry,e=>by
  simp only[shpF]at h
  obtain⟨m,hm,h⟩:=ab.1 h
  split at h
  ·rename_i hc
   obtain⟨hoff,hname,hcells⟩:=hc
   obtain⟨r,hr,rfl⟩:=aj.1 h
   obtain⟨p,q,e1,e2,rfl⟩:=Tu e
   obtain⟨n1,n2⟩:=KJ e
   rw[aw]at n1 n2
   have lx:=rx.length
   have ly:=ry.length
   rw[bh]at lx ly
   by_cases h0:m.length=0
   ·
    obtain⟨v,hv,iv⟩: ∃v,(part f.type cx.toArray f.offset).run P w= .ok v w∧qN P f.type ((cx.drop f.offset).take m.length) v:=by
     cases ha:G6 P f.type with
     |false=>have:=R9 hm ha;omega
     |true=>
      have hu:=Q5 hm
      have hi:(P.info? f.type).isSome=true:=by
       obtain⟨d,hd⟩:=bl.1 hu
       exact info_of_underlying hd
      refine⟨.agg (cx.toArray.extract f.offset (f.offset+P.cellsOf f.type)),?_,?_⟩
      ·simp only[part,Sem.run_bind,Fu f.type w hu,ha,Result.andThen_ok,qt,Cq hi,Sem.run_pure]
      ·simp only[qN,ha,qt]
       congr 1
       rw[←jk,j7,hcells]
       simp[m8]
    obtain⟨u,hu',iu⟩: ∃v,(part f.type cy.toArray f.offset).run P w= .ok v w∧qN P f.type ((cy.drop f.offset).take m.length) v:=by
     cases ha:G6 P f.type with
     |false=>have:=R9 hm ha;omega
     |true=>
      have hu:=Q5 hm
      have hi:(P.info? f.type).isSome=true:=by
       obtain⟨d,hd⟩:=bl.1 hu
       exact info_of_underlying hd
      refine⟨.agg (cy.toArray.extract f.offset (f.offset+P.cellsOf f.type)),?_,?_⟩
      ·simp only[part,Sem.run_bind,Fu f.type w hu,ha,Result.andThen_ok,qt,Cq hi,Sem.run_pure]
      ·simp only[qN,ha,qt]
       congr 1
       rw[←jk,j7,hcells]
       simp[m8]
    have hq:=IH f.type m hm _ _ _ _ _ v u w (by rw[hoff];exact rx.take) (by rw[hoff];exact ry.take) e1 iv iu
    simp only[Op.eqFields,hname,ne_eq,not_false_eq_true,qt,Sem.run_bind,hv,hu',hq,Result.andThen_ok]
    cases p
    ·simp
    ·simp only[kr,au,qu,oq]
     exact Tc dd d IH fs _ r hr _ _ cx cy q w (by rw[←ck];exact rx.drop) (by rw[←ck];exact ry.drop) e2
   ·obtain⟨v,hv,iv⟩:=Q6 (P:=P) hm hcells (cs:=cx) (off:=f.offset) (by omega) w
    obtain⟨u,hu,iu⟩:=Q6 (P:=P) hm hcells (cs:=cy) (off:=f.offset) (by omega) w
    have hq:=IH f.type m hm _ _ _ _ _ v u w (by rw[hoff];exact rx.take) (by rw[hoff];exact ry.take) e1 iv iu
    simp only[Op.eqFields,hname,ne_eq,not_false_eq_true,qt,Sem.run_bind,hv,hu,hq,Result.andThen_ok]
    cases p
    ·simp
    ·simp only[kr,au,qu,oq]
     exact Tc dd d IH fs _ r hr _ _ cx cy q w (by rw[←ck];exact rx.drop) (by rw[←ck];exact ry.drop) e2
  ·cases h
theorem dT(dd:Nat){e:TypeId}{d:Nat}{m:List CK}(hm:lF P d e=some m)(hc:m.length=P.cellsOf e)(hz:G6 P e=true∨0<m.length)(IH:EqFor P C dd e m): ∀(n pos:Nat) (ax ay:List AV) (cx cy:List Value) (b:Bool) (w:World),
  B6 C ax (cx.drop (pos*m.length))→B6 C ay (cy.drop (pos*m.length))→QZ (aq n m).flatten ax ay=some b→(Op.eqItems dd e (P.cellsOf e) cx.toArray cy.toArray (fh pos n)).run P w= .ok b w
 |0,pos,ax,ay,cx,cy,b,w,rx,ry,h=>by
  simp only[List.replicate_zero,mq]at h
  obtain⟨h1,h2⟩:=KJ h
  match ax,ay,h1,h2 with
  |[],[],_,_=>
   simp only[QZ,ae]at h
   subst h
   simp[Op.eqItems]
 |n+1,pos,ax,ay,cx,cy,b,w,rx,ry,h=>by
  rw[jg,bm]at h
  obtain⟨p,q,e1,e2,rfl⟩:=Tu h
  obtain⟨n1,n2⟩:=KJ h
  rw[aw]at n1 n2
  have lx:=rx.length
  have ly:=ry.length
  rw[bh]at lx ly
  have prt: ∀cs:List Value,pos*m.length+m.length≤cs.length∨(m.length=0∧G6 P e=true)→ ∃v,(part e cs.toArray (pos*P.cellsOf e)).run P w= .ok v w∧qN P e ((cs.drop (pos*m.length)).take m.length) v:=by
   intro cs hcs
   rw[←hc]
   rcases hcs with hcs|⟨h0,ha⟩
   ·exact Q6 (P:=P) hm hc hcs w
   ·have hu:=Q5 hm
    have hi:(P.info? e).isSome=true:=by
     obtain⟨d,hd⟩:=bl.1 hu
     exact info_of_underlying hd
    refine⟨.agg (cs.toArray.extract (pos*m.length) (pos*m.length+P.cellsOf e)),?_,?_⟩
    ·simp only[part,Sem.run_bind,Fu e w hu,ha,Result.andThen_ok,qt,Cq hi,Sem.run_pure]
    ·simp only[qN,ha,qt]
     congr 1
     rw[←jk,j7,←hc]
     simp[m8]
  obtain⟨v,hv,iv⟩:=prt cx (by
   rcases d7 m.length with h0|h0
   ·exact .inr ⟨h0,hz.resolve_right (by omega)⟩
   ·left;omega)
  obtain⟨u,hu,iu⟩:=prt cy (by
   rcases d7 m.length with h0|h0
   ·exact .inr ⟨h0,hz.resolve_right (by omega)⟩
   ·left;omega)
  have hq:=IH _ _ _ _ _ v u w rx.take ry.take e1 iv iu
  simp only[kg,Op.eqItems,Sem.run_bind,hv,hu,hq,Result.andThen_ok]
  cases p
  ·simp
  ·simp only[kr,au,qu,oq]
   refine dT dd hm hc hz IH n (pos+1) _ _ cx cy q w ?_ ?_ e2
   ·rw[ci,←ck];exact rx.drop
   ·rw[ci,←ck];exact ry.drop
theorem ZK(k:Nat): ∀(d:Nat) (t:TypeId) (l:List CK),lF P d t=some l→EqFor P C (k+d) t l
 |0,_,_,h=>by simp[lF]at h
 |d+1,t,l,h=>by
  intro ax ay cx cy b x y w rx ry e ix iy
  simp only[lF]at h
  have plain: ∀c:CK,l=[c]→P.underlying t=some (ckT c)→(du (k+(d+1)) t x y).run P w= .ok b w:=by
   intro c hl hu
   subst hl
   obtain⟨p,q,v,u,rfl,rfl,rfl,rfl,rv,ru,h1⟩:=one_of e rx ry
   have hag:G6 P t=false:=by
    simp only[G6,hu]
    cases c<;>rfl
   simp only[qN,hag,au,qu,lj,and_true]at ix iy
   subst ix;subst iy
   exact qX (k+d) h1 rv ru w hu
  split at h
  ·rename_i hu;exact plain .b (by simpa using h.symm) hu
  ·rename_i q hu;exact plain (.i q) (by simpa using h.symm) hu
  ·rename_i hu;exact plain .s (by simpa using h.symm) hu
  ·rename_i fs hu
   split at h
   ·cases h
   ·rename_i hst
    have hag:G6 P t=true:=by simp only[G6,hu]
    simp only[qN,hag,qt]at ix iy
    subst ix;subst iy
    have hf:P.fieldsOf t=fs:=by simp only[Program.fieldsOf,hu]
    rw[show k+(d+1)=(k+d)+1 from rfl,run_equalIn_struct w (k+d) t _ _ (by rw[hf];exact hu) (by simpa using hst),hf]
    exact Tc (k+d) d (fun t l=>ZK k d t l) fs.toList 0 l h _ _ cx cy b w (by simpa using rx) (by simpa using ry) e
  ·rename_i n el hu
   obtain⟨m,hm,h⟩:=ab.1 h
   split at h
   ·rename_i hc
    obtain rfl:=bf h
    have hag:G6 P t=true:=by simp only[G6,hu]
    simp only[qN,hag,qt]at ix iy
    subst ix;subst iy
    obtain⟨i,hi⟩: ∃i,P.info? el=some i:=by
     obtain⟨dd,hd⟩:=bl.1 (Q5 hm)
     exact bl.1 (info_of_underlying hd)
    rw[show k+(d+1)=(k+d)+1 from rfl,run_equalIn_array w (k+d) _ _ hu hi,lh]
    refine dT (k+d) hm hc ?_ (ZK k d el m hm) n 0 _ _ cx cy b w (by simpa using rx) (by simpa using ry) e
    cases ha:G6 P el with
    |true=>exact .inl rfl
    |false=>right;have:=R9 hm ha;omega
   ·cases h
  ·cases h
end
end
section
section
variable{cl:Nat→List AV→Az→Mb}{P:Program}{tb:Di}{C:DR}{f:Fr}{a:Act}{nt:Nat}
def okEK(P:Program)(ek:EK)(t:TypeId):Bool:=
 match ek,P.underlying t with
 | .one .b,some .bool=>true
 | .agg l,some (.struct _)=>decide (lF P 50 t=some l)&& !P.eqGuardType P.depth t
 | .agg l,some (.array _ _)=>decide (lF P 50 t=some l)&& !P.eqGuardType P.depth t
 | .p,some (.pointer _)=>true
 | .m,some (.map _ _)=>true
 | .f,some (.func _ _ _)=>true
 | .n,some (.interface _)=>true
 | .sl,some (.slice _)=>true
 |_,_=>false
theorem FP{op:BinOp}{t:TypeId}{x y:Value}{b:Bool}{w:World}(h:(du 10000 t x y).run P w= .ok b w)(hb:(∃p q,x= .bool p∧y= .bool q)∨(∃p q,x= .agg p∧y= .agg q)∨(∃p q,x= .pointer p∧y= .pointer q)∨
  (∃p q,x= .map p∧y= .map q)∨(x= .nilFunc∨y= .nilFunc)∧(∀k n,x≠ .int k n∧y≠ .int k n)∨(x= .nilIface∨y= .nilIface)∧(∀k n,x≠ .int k n∧y≠ .int k n)∨(∃p l c q l' c',x= .slice p l c∧y= .slice q l' c')):
  (op= .eql→(d4 op t x y).run P w= .ok (.bool b) w)∧(op= .neq→(d4 op t x y).run P w= .ok (.bool (!b)) w):=by
 have h':(Op.equal t x y).run P w= .ok b w:=h
 constructor<;>rintro rfl
 ·rcases hb with ⟨p,q,rfl,rfl⟩|⟨p,q,rfl,rfl⟩|⟨p,q,rfl,rfl⟩|⟨p,q,rfl,rfl⟩|⟨rfl|rfl,_⟩|⟨rfl|rfl,_⟩|⟨p,l,c,q,l',c',rfl,rfl⟩<;>
   first
   |(simp only[d4,Sem.run_bind,h',Result.andThen_ok,Sem.run_pure];done)
   |(cases x<;>simp only[d4,Sem.run_bind,h',Result.andThen_ok,Sem.run_pure])
   |(cases y<;>simp only[d4,Sem.run_bind,h',Result.andThen_ok,Sem.run_pure])
 ·rcases hb with ⟨p,q,rfl,rfl⟩|⟨p,q,rfl,rfl⟩|⟨p,q,rfl,rfl⟩|⟨p,q,rfl,rfl⟩|⟨rfl|rfl,_⟩|⟨rfl|rfl,_⟩|⟨p,l,c,q,l',c',rfl,rfl⟩<;>
   first
   |(simp only[d4,Sem.run_bind,h',Result.andThen_ok,Sem.run_pure];done)
   |(cases x<;>simp only[d4,Sem.run_bind,h',Result.andThen_ok,Sem.run_pure])
   |(cases y<;>simp only[d4,Sem.run_bind,h',Result.andThen_ok,Sem.run_pure])
theorem fU{t:TypeId}{l:List CK}{x y:List AV}{v u:Value}{b:Bool}(hu:G6 P t=true)(hk:lF P 50 t=some l)(hg:P.eqGuardType P.depth t=false)(h:QZ l x y=some b)(rx:HG C (.agg x) v)(ry:HG C (.agg y) u)(p q:Operand)(w:World):
  (∀op,(eqGuard op t p q v u).run P w= .ok () w)∧ ∀op,(op= .eql→(d4 op t v u).run P w= .ok (.bool b) w)∧(op= .neq→(d4 op t v u).run P w= .ok (.bool (!b)) w):=by
 obtain⟨cx,rfl,_,r1⟩:=rx
 obtain⟨cy,rfl,_,r2⟩:=ry
 refine⟨fun op=>run_eqGuard_agg w op t p q _ _ hg,fun op=>FP (ZK (C:=C) 9950 50 t l hk _ _ cx cy b _ _ w r1 r2 h ?_ ?_) (.inr (.inl ⟨_,_,rfl,rfl⟩))⟩
 ·simp only[qN,hu,qt]
 ·simp only[qN,hu,qt]
theorem O5{t:TypeId}{v u:Value}(p q:Operand)(w:World)(h1: ∀l,v≠ .agg l)(h2:v≠ .nilIface∨u≠ .nilIface): ∀op,(eqGuard op t p q v u).run P w= .ok () w:=by
 intro op
 cases v<;>first
  |exact absurd rfl (h1 _)
  |(simp only[eqGuard];split<;>rfl)
  |(cases u<;>first
    |exact absurd rfl (h2.resolve_left fun h=>h rfl)
    |(simp only[eqGuard];split<;>rfl))
theorem eqIn_ptr(d:Nat){t e:TypeId}(hu:P.underlying t=some (.pointer e)){o1 o2:Option Addr}{b:Bool}(h:(o1=none∧b=o2.isNone)∨(o2=none∧o1.isSome=true∧b=false))(w:World):
  (du (d+1) t (.pointer o1) (.pointer o2)).run P w= .ok b w:=by
 rcases h with ⟨rfl,rfl⟩|⟨rfl,h1,rfl⟩
 ·simp only[du,Sem.run_bind,AJ hu,Result.andThen_ok,Sem.run_pure]
 ·cases o1 with
  |none=>cases h1
  |some a=>simp only[du,Sem.run_bind,AJ hu,Result.andThen_ok,Sem.run_pure]
theorem eqIn_map(d:Nat){t k e:TypeId}(hu:P.underlying t=some (.map k e)){o1 o2:Option Nat}{b:Bool}(h:(o1=none∧b=o2.isNone)∨(o2=none∧o1.isSome=true∧b=false))(w:World):
  (du (d+1) t (.map o1) (.map o2)).run P w= .ok b w:=by
 rcases h with ⟨rfl,rfl⟩|⟨rfl,h1,rfl⟩
 ·simp only[du,Sem.run_bind,AJ hu,Result.andThen_ok,Sem.run_pure]
 ·cases o1 with
  |none=>cases h1
  |some a=>simp only[du,Sem.run_bind,AJ hu,Result.andThen_ok,Sem.run_pure]
theorem eqIn_fnn(d:Nat){t:TypeId}{x1 x2 x3}(hu:P.underlying t=some (.func x1 x2 x3))(w:World):(du (d+1) t .nilFunc .nilFunc).run P w= .ok true w:=by
 simp only[du,Sem.run_bind,AJ hu,Result.andThen_ok,Sem.run_pure]
theorem eqIn_fnf(d:Nat){t:TypeId}{x1 x2 x3}(hu:P.underlying t=some (.func x1 x2 x3)){p q r}(w:World):(du (d+1) t .nilFunc (.func p q r)).run P w= .ok false w:=by
 simp only[du,Sem.run_bind,AJ hu,Result.andThen_ok,Sem.run_pure]
theorem eqIn_ffn(d:Nat){t:TypeId}{x1 x2 x3}(hu:P.underlying t=some (.func x1 x2 x3)){p q r}(w:World):(du (d+1) t (.func p q r) .nilFunc).run P w= .ok false w:=by
 simp only[du,Sem.run_bind,AJ hu,Result.andThen_ok,Sem.run_pure]
theorem eqIn_ni(d:Nat){t:TypeId}{x1}(hu:P.underlying t=some (.interface x1)){p q}(w:World):(du (d+1) t .nilIface (.iface p q)).run P w= .ok false w:=by
 simp only[du,Sem.run_bind,AJ hu,Result.andThen_ok,Sem.run_pure]
theorem vV(d:Nat){t:TypeId}{x1}(hu:P.underlying t=some (.interface x1)){p q}(w:World):(du (d+1) t (.iface p q) .nilIface).run P w= .ok false w:=by
 simp only[du,Sem.run_bind,AJ hu,Result.andThen_ok,Sem.run_pure]
theorem eqIn_sl(d:Nat){t e:TypeId}(hu:P.underlying t=some (.slice e)){o1 o2:Option Addr}{l c l' c':Nat}{b:Bool}(h:(o1=none∧b=o2.isNone)∨(o2=none∧o1.isSome=true∧b=false))(w:World):
  (du (d+1) t (.slice o1 l c) (.slice o2 l' c')).run P w= .ok b w:=by
 rcases h with ⟨rfl,rfl⟩|⟨rfl,h1,rfl⟩
 ·simp only[du,Sem.run_bind,AJ hu,Result.andThen_ok,Sem.run_pure]
 ·cases o1 with
  |none=>cases h1
  |some a=>simp only[du,Sem.run_bind,AJ hu,Result.andThen_ok,Sem.run_pure]
theorem zM{ek:EK}{t:TypeId}{x y:AV}{v u:Value}{b:Bool}(hk:okEK P ek t=true)(h:qL ek x y=some b)(rx:HG C x v)(ry:HG C y u)(p q:Operand)(w:World):
  (∀op,(eqGuard op t p q v u).run P w= .ok () w)∧ ∀op,(op= .eql→(d4 op t v u).run P w= .ok (.bool b) w)∧(op= .neq→(d4 op t v u).run P w= .ok (.bool (!b)) w):=by
 unfold okEK at hk
 split at hk
 ·rename_i hu
  simp only[qL]at h
  rcases vA h rx ry with ⟨p,q,_,rfl,rfl,rfl⟩|⟨k,p,q,e,_⟩|⟨p,q,e,_⟩
  ·exact⟨fun op=>by cases op<;>rfl,fun op=>FP (run_equalIn_bool' w 9999 t p q hu) (.inl ⟨_,_,rfl,rfl⟩)⟩
  ·cases e
  ·cases e
 ·rename_i l fs hu
  simp only[af,qp,cg]at hk
  unfold qL at h
  split at h<;>first|contradiction|skip
  rename_i l' cx cy e
  cases e
  exact fU (by simp only[G6,hu]) hk.1 hk.2 h rx ry p q w
 ·rename_i l n e hu
  simp only[af,qp,cg]at hk
  unfold qL at h
  split at h<;>first|contradiction|skip
  rename_i l' cx cy e
  cases e
  exact fU (by simp only[G6,hu]) hk.1 hk.2 h rx ry p q w
 ·rename_i e hu
  have fin: ∀(o1 o2:Option Addr),v= .pointer o1→u= .pointer o2→((o1=none∧b=o2.isNone)∨(o2=none∧o1.isSome=true∧b=false))→
    (∀op,(eqGuard op t p q v u).run P w= .ok () w)∧ ∀op,(op= .eql→(d4 op t v u).run P w= .ok (.bool b) w)∧(op= .neq→(d4 op t v u).run P w= .ok (.bool (!b)) w):=by
   rintro o1 o2 rfl rfl hh
   refine⟨O5 p q w (fun l e=>by cases e) (.inl fun e=>by cases e),fun op=>FP ?_ (.inr (.inr (.inl ⟨_,_,rfl,rfl⟩)))⟩
   exact eqIn_ptr 9999 hu hh w
  unfold qL at h
  split at h<;>first|contradiction|(simp only[ae]at h;subst h)
  ·exact fin none none rx ry (.inl ⟨rfl,rfl⟩)
  ·exact fin none _ rx ry.2 (.inl ⟨rfl,rfl⟩)
  ·obtain⟨⟨a,e⟩,_⟩:=ry;exact fin none _ rx e (.inl ⟨rfl,rfl⟩)
  ·obtain⟨_,_,_,e,_⟩:=ry;exact fin none _ rx e (.inl ⟨rfl,rfl⟩)
  ·exact fin _ none rx.2 ry (.inr ⟨rfl,rfl,rfl⟩)
  ·obtain⟨⟨a,e⟩,_⟩:=rx;exact fin _ none e ry (.inr ⟨rfl,rfl,rfl⟩)
  ·obtain⟨_,_,_,e,_⟩:=rx;exact fin _ none e ry (.inr ⟨rfl,rfl,rfl⟩)
 ·rename_i k e hu
  have fin: ∀(o1 o2:Option Nat),v= .map o1→u= .map o2→((o1=none∧b=o2.isNone)∨(o2=none∧o1.isSome=true∧b=false))→
    (∀op,(eqGuard op t p q v u).run P w= .ok () w)∧ ∀op,(op= .eql→(d4 op t v u).run P w= .ok (.bool b) w)∧(op= .neq→(d4 op t v u).run P w= .ok (.bool (!b)) w):=by
   rintro o1 o2 rfl rfl hh
   refine⟨O5 p q w (fun l e=>by cases e) (.inl fun e=>by cases e),fun op=>FP ?_ (.inr (.inr (.inr (.inl ⟨_,_,rfl,rfl⟩))))⟩
   exact eqIn_map 9999 hu hh w
  unfold qL at h
  split at h<;>first|contradiction|(simp only[ae]at h;subst h)
  ·exact fin none none rx ry (.inl ⟨rfl,rfl⟩)
  ·exact fin none _ rx ry.2 (.inl ⟨rfl,rfl⟩)
  ·exact fin _ none rx.2 ry (.inr ⟨rfl,rfl,rfl⟩)
 ·rename_i x1 x2 x3 hu
  have fin:(du 10000 t v u).run P w= .ok b w→(v= .nilFunc∨u= .nilFunc)∧(∀k n,v≠ .int k n∧u≠ .int k n)→(∀l,v≠ .agg l)→v≠ .nilIface→
    (∀op,(eqGuard op t p q v u).run P w= .ok () w)∧ ∀op,(op= .eql→(d4 op t v u).run P w= .ok (.bool b) w)∧(op= .neq→(d4 op t v u).run P w= .ok (.bool (!b)) w):=
   fun h1 h2 h3 h4=>⟨O5 p q w h3 (.inl h4),fun op=>FP h1 (.inr (.inr (.inr (.inr (.inl h2)))))⟩
  unfold qL at h
  split at h<;>first|contradiction|(simp only[ae]at h;subst h)
  ·obtain rfl:=show v= .nilFunc from rx
   obtain rfl:=show u= .nilFunc from ry
   exact fin (eqIn_fnn 9999 hu w) ⟨.inl rfl,fun _ _=>⟨fun e=>(by cases e),fun e=>(by cases e)⟩⟩ (fun _ e=>by cases e) (fun e=>by cases e)
  ·obtain rfl:=show v= .nilFunc from rx
   obtain⟨_,_,rfl,_⟩:=ry
   exact fin (eqIn_fnf 9999 hu w) ⟨.inl rfl,fun _ _=>⟨fun e=>(by cases e),fun e=>(by cases e)⟩⟩ (fun _ e=>by cases e) (fun e=>by cases e)
  ·obtain rfl:=show u= .nilFunc from ry
   obtain⟨_,_,rfl,_⟩:=rx
   exact fin (eqIn_ffn 9999 hu w) ⟨.inr rfl,fun _ _=>⟨fun e=>(by cases e),fun e=>(by cases e)⟩⟩ (fun _ e=>by cases e) (fun e=>by cases e)
 ·rename_i x1 hu
  have fin:(du 10000 t v u).run P w= .ok b w→(v= .nilIface∨u= .nilIface)∧(∀k n,v≠ .int k n∧u≠ .int k n)→(∀l,v≠ .agg l)→(v≠ .nilIface∨u≠ .nilIface)→
    (∀op,(eqGuard op t p q v u).run P w= .ok () w)∧ ∀op,(op= .eql→(d4 op t v u).run P w= .ok (.bool b) w)∧(op= .neq→(d4 op t v u).run P w= .ok (.bool (!b)) w):=
   fun h1 h2 h3 h4=>⟨O5 p q w h3 h4,fun op=>FP h1 (.inr (.inr (.inr (.inr (.inr (.inl h2))))))⟩
  unfold qL at h
  split at h<;>first|contradiction|(simp only[ae]at h;subst h)
  ·obtain rfl:=show v= .nilIface from rx
   obtain⟨_,_,rfl,_⟩:=ry
   exact fin (eqIn_ni 9999 hu w) ⟨.inl rfl,fun _ _=>⟨fun e=>(by cases e),fun e=>(by cases e)⟩⟩ (fun _ e=>by cases e) (.inr fun e=>by cases e)
  ·obtain rfl:=show u= .nilIface from ry
   obtain⟨_,_,rfl,_⟩:=rx
   exact fin (vV 9999 hu w) ⟨.inr rfl,fun _ _=>⟨fun e=>(by cases e),fun e=>(by cases e)⟩⟩ (fun _ e=>by cases e) (.inl fun e=>by cases e)
 ·rename_i x1 hu
  have fin: ∀(o1 o2:Option Addr) (l c l' c':Nat),v= .slice o1 l c→u= .slice o2 l' c'→((o1=none∧b=o2.isNone)∨(o2=none∧o1.isSome=true∧b=false))→
    (∀op,(eqGuard op t p q v u).run P w= .ok () w)∧ ∀op,(op= .eql→(d4 op t v u).run P w= .ok (.bool b) w)∧(op= .neq→(d4 op t v u).run P w= .ok (.bool (!b)) w):=by
   rintro o1 o2 l c l' c' rfl rfl hh
   refine⟨O5 p q w (fun l e=>by cases e) (.inl fun e=>by cases e),fun op=>FP ?_ (.inr (.inr (.inr (.inr (.inr (.inr ⟨_,_,_,_,_,_,rfl,rfl⟩))))))⟩
   exact eqIn_sl 9999 hu hh w
  have some_sl: ∀{sz els y},HG C (.sl sz els) y→ ∃o l c,y= .slice (some o) l c:=by
   intro sz els y r
   rcases r with ⟨_,_,_,_,e,_⟩|⟨_,_,_,e⟩<;>exact⟨_,_,_,e⟩
  have some_or: ∀{id n lo len y},HG C (.orow id n lo len) y→ ∃o l c,y= .slice (some o) l c:=by
   intro id n lo len y r
   obtain⟨⟨_,_,e⟩,_⟩:=r
   exact⟨_,_,_,e⟩
  have some_oc: ∀{id n lo len y},HG C (.ocel id n lo len) y→ ∃o l c,y= .slice (some o) l c:=by
   intro id n lo len y r
   obtain⟨_,_,_,e,_⟩:=r
   exact⟨_,_,_,e⟩
  unfold qL at h
  split at h<;>first|contradiction|(simp only[ae]at h;subst h)
  ·exact fin none none _ _ _ _ rx ry (.inl ⟨rfl,rfl⟩)
  ·obtain⟨o,l,c,e⟩:=some_sl rx;exact fin _ none _ _ _ _ e ry (.inr ⟨rfl,rfl,rfl⟩)
  ·obtain⟨o,l,c,e⟩:=some_or rx;exact fin _ none _ _ _ _ e ry (.inr ⟨rfl,rfl,rfl⟩)
  ·obtain⟨o,l,c,e⟩:=some_oc rx;exact fin _ none _ _ _ _ e ry (.inr ⟨rfl,rfl,rfl⟩)
  ·obtain⟨o,l,c,e⟩:=some_sl ry;exact fin none _ _ _ _ _ rx e (.inl ⟨rfl,rfl⟩)
  ·obtain⟨o,l,c,e⟩:=some_or ry;exact fin none _ _ _ _ _ rx e (.inl ⟨rfl,rfl⟩)
  ·obtain⟨o,l,c,e⟩:=some_oc ry;exact fin none _ _ _ _ _ rx e (.inl ⟨rfl,rfl⟩)
 ·cases hk
theorem sim_eq(I:Inv tb C)(F:BO C f a nt){o:Oper}{op:BinOp}{t u:TypeId}{ek:EK}{neg:Bool}{x1 x2:AO}{y1 y2:Operand}(ho:o.op= .binOp op t y1 y2 u)(hop:op=if neg then .neq else .eql)(hk:okEK P ek t=true)
  (h1:BG x1 y1=true) (h2:BG x2 y2=true) {b:Bool} (h:qL ek (eval tb f x1) (eval tb f x2)=some b):Yields tb C (.b (if neg then !b else b),none) ((execOp a.eval o).run P C.w):=by
 obtain⟨q1,q2⟩:=zM hk h (Be I F h1) (Be I F h2) y1 y2 C.w
 cases neg with
 |true=>
  simp only[qt]at hop
  refine A9 I (v:= .bool (!b)) ?_ rfl
  simp only[execOp,ho,Sem.run_bind,q1 op,Result.andThen_ok,(q2 op).2 hop,Sem.run_pure]
 |false=>
  simp only[au,qu]at hop
  refine A9 I (v:= .bool b) ?_ rfl
  simp only[execOp,ho,Sem.run_bind,q1 op,Result.andThen_ok,(q2 op).1 hop,Sem.run_pure]
end
end
section
section
variable{cl:Nat→List AV→Az→Mb}{P:Program}{tb:Di}{C:DR}{f:Fr}{a:Act}{nt:Nat}
theorem Uz: ∀(l:List Value) (off k:Nat) (cs:Array Value),off+k+l.length≤cs.size→
  ((l.zipIdx k).foldl (fun cs (p:Value×Nat)=>cs.setIfInBounds (off+p.2) p.1) cs).toList=cs.toList.take (off+k)++l++cs.toList.drop (off+k+l.length)
 |[],off,k,cs,_=>by simp
 |v::l,off,k,cs,h=>by
  simp only[bb]at h
  rw[ke,ll]
  rw[Uz l off (k+1) _ (by simp only[Array.size_setIfInBounds];omega)]
  simp only[l8]
  have hlt:off+k<cs.toList.length:=by simp only[kn];omega
  rw[←gz,List.take_set,List.drop_set_of_lt (by omega)]
  have ht:(cs.toList.take (off+k+1)).set (off+k) v=cs.toList.take (off+k)++[v]:=by
   rw[bd hlt,ni _ _ (by simp only[a6];omega)]
   simp only[a6]
   rw[show off+k-min (off+k) cs.toList.length=0 by omega]
   rfl
  rw[ht]
  simp only[bb]
  rw[show off+k+1+l.length=off+k+(l.length+1) by omega]
  simp
def Mh(place:Nat→Option (Nat×Nat)):List (Nat×Nat×AO)→List (Nat×Operand)→Bool
 |[],[]=>true
 |(off,n,x)::r,(i,y)::q=>(match place i with
  |some (off',n')=>fv off off'&&fv n n'
  |none=>false)&&je 0 n&&BG x y&&Mh place r q
 |_,_=>false
theorem iV{place:Nat→Option (Nat×Nat)}{off n i:Nat}{x:AO}{y:Operand}{r:List (Nat×Nat×AO)}{q:List (Nat×Operand)}(h:Mh place ((off,n,x)::r) ((i,y)::q)=true):
  place i=some (off,n)∧0<n∧BG x y=true∧Mh place r q=true:=by
 simp only[Mh,af]at h
 obtain⟨⟨⟨h1,h2⟩,h3⟩,h4⟩:=h
 refine⟨?_,by simpa using h2,h3,h4⟩
 split at h1
 ·rename_i o' n' hp
  simp only[af,j8]at h1
  rw[hp,h1.1,h1.2]
 ·cases h1
theorem fF{place:Nat→Option (Nat×Nat)}{cells:Array Value}{i off n:Nat}{v:Value}{rest:List (Nat×Value)}(hp:place i=some (off,n))(hn:v.cells.size=n)(hle:off+n≤cells.size):
  ∃cells':Array Value,lc place cells ((i,v)::rest)=lc place cells' rest∧cells'.toList=cells.toList.take off++v.cells.toList++cells.toList.drop (off+v.cells.toList.length):=by
 refine⟨v.cells.zipIdx.foldl (fun cs (c,j)=>cs.setIfInBounds (off+j) c) cells,?_,?_⟩
 ·simp only[lc,hp]
  rw[qo]
  simp
  omega
 ·rw[←Array.foldl_toList,Array.toList_zipIdx]
  have:=Uz v.cells.toList off 0 cells (by simp;omega)
  simpa using this
theorem oD(I:Inv tb C)(F:BO C f a nt){place:Nat→Option (Nat×Nat)}: ∀(ps:List (Nat×Nat×AO)) (ys:List (Nat×Operand)),Mh place ps ys=true→ ∀{cs cs':List AV} {cells:Array Value},B6 C cs cells.toList→cs.all scal=true→
  MP cs (eval tb f) ps=some cs'→ ∃cells',lc place cells (ys.map fun(i,y)=>(i,a.eval y))=some cells'∧B6 C cs' cells'.toList∧cs'.all scal=true
 |[],[],_,cs,cs',cells,hr,hs,h=>by
  simp only[MP,ae]at h
  subst h
  exact⟨cells,rfl,hr,hs⟩
 |[],_::_,h,_,_,_,_,_,_=>by simp[Mh]at h
 |(_,_,_)::_,[],h,_,_,_,_,_,_=>by simp[Mh]at h
 |(off,n,x)::ps,(i,y)::ys,hok,cs,cs',cells,hr,hs,h=>by
  obtain⟨h1,h2,h3,h4⟩:=iV hok
  simp only[MP]at h
  split at h
  ·rename_i hc
   obtain⟨hn,hle⟩:=hc
   obtain⟨c1,c2⟩:=OE (Be I F h3) (by omega)
   have hsz:(a.eval y).cells.size=n:=by have:=c1.length;rw[hn]at this;simpa using this
   have hcl:cells.size=cs.length:=by have:=hr.length;simpa using this
   obtain⟨cells1,e1,e2⟩:=fF (rest:=ys.map fun(i,y)=>(i,a.eval y)) h1 hsz (by omega:off+n≤cells.size)
   obtain⟨cells2,e3,e4,e5⟩:=oD I F ps ys h4 (cells:=cells1) (by rw[e2];exact OM hr c1) (Ns hs c2) h
   exact⟨cells2,by rw[bn,e1,e3],e4,e5⟩
  ·cases h
def plc?(P:Program)(t:TypeId):Option (Nat→Option (Nat×Nat)):=
 match P.underlying t with
 |some (.array _ e)=>if(P.info? e).isSome then some fun i=>some (i*P.cellsOf e,P.cellsOf e)else none
 |some (.struct fields)=>if fields.toList.all fun f=>(P.info? f.type).isSome then some fun i=>match fields[i]? with
  |some f=>some (f.offset,P.cellsOf f.type)
  |none=>none
  else none
 |_=>none
theorem eE: ∀(fs:List Field),fs.all (fun f=>(P.info? f.type).isSome)=true→fs.mapM (fun f=>(P.info? f.type).map fun i=>(f.offset,i.size))=some (fs.map fun f=>(f.offset,P.cellsOf f.type))
 |[],_=>by simp
 |f::fs,h=>by
  simp only[fc,af]at h
  obtain⟨i,hi⟩:=bl.1 h.1
  rw[nv,eE fs h.2]
  simp[hi,kt]
theorem built_of{t:TypeId}{place:Nat→Option (Nat×Nat)}{it:TypeInfo}{z:Value}(h:plc? P t=some place)(hi:P.info? t=some it)(hz:it.zero=some z)(parts:List (Nat×Value)):P.built t parts=lc place z.cells parts:=by
 unfold plc? at h
 unfold Program.built
 split at h
 ·rename_i n e hu
  split at h
  ·rename_i hs
   obtain⟨ie,he⟩:=bl.1 hs
   obtain rfl:=bf h
   simp only[hi,hu,hz,he,kt]
   simp
  ·cases h
 ·rename_i fs hu
  split at h
  ·rename_i hs
   obtain rfl:=bf h
   simp only[hi,hu,hz,eE fs.toList hs]
   congr 1
   funext i
   simp only[jx,ff,nj]
   cases fs[i]? <;>rfl
  ·cases h
 ·cases h
theorem sim_bld(I:Inv tb C)(F:BO C f a nt){o:Oper}{t:TypeId}{zero:List AV}{ps:List (Nat×Nat×AO)}{ys:Array (Nat×Operand)}(ho:o.op= .build t ys){place:Nat→Option (Nat×Nat)}{it:TypeInfo}{z:Value}(h:plc? P t=some place)
  (hi:P.info? t=some it) (hz:it.zero=some z) (hzs:QN zero z.cells.toList=true) (hp:Mh place ps ys.toList=true) {cs:List AV} (hv:MP zero (eval tb f) ps=some cs):Yields tb C (.agg cs,none) ((execOp a.eval o).run P C.w):=by
 obtain⟨r1,r2⟩:=O2 (C:=C) hzs
 obtain⟨cells,e1,e2,e3⟩:=oD I F ps ys.toList hp r1 r2 hv
 refine A9 I (v:= .agg cells) ?_ ⟨cells.toList,by simp,e3,e2⟩
 have hb:P.built t (ys.map fun(i,x)=>(i,a.eval x)).toList=some cells:=by
  rw[built_of h hi hz,mr]
  exact e1
 simp only[execOp,ho,Sem.run_bind,run_build C.w t _ cells hb,Result.andThen_ok,Sem.run_pure]
theorem WC{α:Type}{sz:Nat}(new:List α)(hn:new.length=sz): ∀(l:List (List α)) (i:Nat),(∀y∈l,y.length=sz)→i<l.length→
  (l.set i new).flatten=l.flatten.take (i*sz)++new++l.flatten.drop (i*sz+new.length)
 |[],_,_,h=>by simp at h
 |y::l,0,hy,_=>by
  have hyl:=hy y bj
  simp only[ir,bm,jb,da,j5,dw]
  rw[kf,ce (by omega),show new.length-y.length=0 by omega]
  simp
 |y::l,i+1,hy,h=>by
  have hyl:=hy y bj
  simp only[jo,bm]
  rw[WC new hn l i (fun z hz=>hy z (bg _ hz)) (by simpa using h)]
  rw[ci,gw,av (l:=y) (by omega),kf,ce (l:=y) (by omega),dw]
  rw[show i*sz+sz-y.length=i*sz by omega,show i*sz+sz+new.length-y.length=i*sz+new.length by omega]
  simp
def Mi(sz:Nat):List (Nat×AO)→List (Nat×Operand)→Bool
 |[],[]=>true
 |(i,x)::r,(j,y)::q=>i==j&&BG x y&&Mi sz r q
 |_,_=>false
theorem fG(I:Inv tb C)(F:BO C f a nt){sz:Nat}(hsz:0<sz): ∀(ps:List (Nat×AO)) (ys:List (Nat×Operand)),Mi sz ps ys=true→ ∀{els els':List (List AV)} {vss:List (List Value)} {cells:Array Value},Bk C els vss→
  (∀e∈els,e.length=sz∧e.all scal=true)→cells.toList=vss.flatten→LA els sz (eval tb f) ps=some els'→
  ∃cells' vss',lc (fun i=>some (i*sz,sz)) cells (ys.map fun(i,y)=>(i,a.eval y))=some cells'∧Bk C els' vss'∧(∀e∈els',e.length=sz∧e.all scal=true)∧cells'.toList=vss'.flatten∧els'.length=els.length
 |[],[],_,els,els',vss,cells,hr,hs,hc,h=>by
  simp only[LA,ae]at h
  subst h
  exact⟨cells,vss,rfl,hr,hs,hc,rfl⟩
 |[],_::_,h,_,_,_,_,_,_,_,_=>by simp[Mi]at h
 |(_,_)::_,[],h,_,_,_,_,_,_,_,_=>by simp[Mi]at h
 |(i,x)::ps,(j,y)::ys,hok,els,els',vss,cells,hr,hs,hc,h=>by
  simp only[Mi,af,beq_iff_eq]at hok
  obtain⟨⟨rfl,h3⟩,h4⟩:=hok
  simp only[LA]at h
  split at h
  ·rename_i hcc
   obtain⟨hn,hi⟩:=hcc
   obtain⟨c1,c2⟩:=OE (Be I F h3) (by omega)
   have hvl:(a.eval y).cells.toList.length=sz:=by rw[c1.length,hn]
   have hlens:=i6 (fun x hx=>(hs x hx).1) hr
   have hcl:cells.size=els.length*sz:=by
    rw[←kn,hc,FY _ hlens,hr.length]
   have hle:i*sz+sz≤cells.size:=by
    rw[hcl,←ci]
    exact cr _ hi
   obtain⟨cells1,e1,e2⟩:=fF (place:=fun i=>some (i*sz,sz)) (rest:=ys.map fun(i,y)=>(i,a.eval y)) rfl (by simpa using hvl) hle
   obtain⟨cells2,vss2,e3,e4,e5,e6,e7⟩:=fG I F hsz ps ys h4 (cells:=cells1) (Bk.set (i:=i) c1 hr) (fun e he=>by
    rcases me he with he|he
    ·exact hs e he
    ·subst he;exact⟨hn,c2⟩) (by rw[e2,hc,WC _ hvl _ _ hlens (by rw[hr.length];exact hi)]) h
   exact⟨cells2,vss2,by rw[bn,e1,e3],e4,e5,e6,by rw[e7];simp⟩
  ·cases h
theorem Yc(z:Array Value)(n:Nat):((pw (n*z.size)).map (z[· %z.size]!)).toList=(aq n z.toList).flatten:=by
 apply List.ext_getElem
 ·simp[List.length_flatten]
 ·intro i h1 h2
  have hi:i<n*z.size:=by simpa using h1
  have hpos:0<z.size:=by
   rcases d7 z.size with h|h
   ·rw[h]at hi;simp at hi
   ·exact h
  have hmod:i%z.size<z.size:=Nat.mod_lt _ hpos
  have key: ∀(n i:Nat),i<n*z.size→(aq n z.toList).flatten[i]? =z.toList[i%z.size]? :=by
   intro n
   induction n with
   |zero=>intro i h;simp at h
   |succ n ih=>
    intro i h
    rw[jg,bm]
    rcases dq i z.size with hlt|hge
    ·rw[br (by simpa using hlt),kh hlt]
    ·rw[bo (by simpa using hge)]
     simp only[kn]
     rw[ih (i-z.size) (by rw[ci]at h;omega),←Nat.mod_eq_sub_mod hge]
  have:=key n i hi
  rw[ad h2]at this
  simp only[mr,Array.toList_range,List.getElem_map,List.getElem_range]
  rw[getElem!_pos z (i%z.size) hmod]
  have h3:z.toList[i%z.size]? =some z[i%z.size]:=by simp[hmod]
  rw[h3]at this
  exact(bf this).symm
theorem wL(I:Inv tb C)(F:BO C f a nt){o:Oper}{t e:TypeId}{len:Nat}{zero:List (List AV)}{ps:List (Nat×AO)}{ys:Array (Nat×Operand)}(ho:o.op= .buildSlice t len ys)(hu:P.underlying t=some (.slice e)){i:TypeInfo}{z:Value}
  (hi:P.info? e=some i) (hz:i.zero=some z) (hzz:z.cells.size=P.cellsOf e) (hz0:0<P.cellsOf e) (hb:len*P.cellsOf e≤2^24) (hl:zero.length=len) (hzs:zero.all (QN · z.cells.toList)=true) (hp:Mi (P.cellsOf e) ps ys.toList=true)
  {els:List (List AV)} (hv:LA zero (P.cellsOf e) (eval tb f) ps=some els): ∃(cells:Array Value) (vss:List (List Value)),Bk C els vss∧(∀x∈els,x.length=P.cellsOf e∧x.all scal=true)∧
   cells.toList=vss.flatten∧els.length*P.cellsOf e≤cells.size∧(execOp a.eval o).run P C.w= .ok (.value (.slice (some ⟨C.w.heap.size,0,none⟩) els.length els.length)) (C.w.alloc (.cells cells e)):=by
 have hinfo:(P.info? e).isSome=true:=by rw[hi];rfl
 have hcells:P.cellsOf e=i.size:=by simp[kt,hi]
 have hz1: ∀l:List (List AV),l.all (QN · z.cells.toList)=true→Bk C l (aq l.length z.cells.toList)∧ ∀e'∈l,e'.length=P.cellsOf e∧e'.all scal=true:=by
  intro l
  induction l with
  |nil=>intro _;exact⟨rfl,fun e he=>by cases he⟩
  |cons x l ih=>
   intro h
   simp only[fc,af]at h
   obtain⟨r1,r2⟩:=O2 (C:=C) h.1
   obtain⟨q1,q2⟩:=ih h.2
   refine⟨⟨_,_,by rw[bb,jg],r1,q1⟩,fun e' he=> ?_⟩
   rcases bu.1 he with rfl|he
   ·exact⟨by rw[←r1.length];simpa using hzz,r2⟩
   ·exact q2 e' he
 obtain⟨q1,q2⟩:=hz1 zero hzs
 have hc:((pw (len*P.cellsOf e)).map (fun j=>(if len*P.cellsOf e=0 then(#[]:Array Value)else z.cells)[j%(if len*P.cellsOf e=0 then(#[]:Array Value)else z.cells).size]!)).toList=(aq zero.length z.cells.toList).flatten:=by
  by_cases h0:len*P.cellsOf e=0
  ·have hl0:len=0:=by
    rcases Nat.mul_eq_zero.1 h0 with h|h
    ·exact h
    ·omega
   rw[hl,hl0]
   simp
  ·simp only[qo h0]
   rw[hl,←hzz]
   exact Yc z.cells len
 obtain⟨cells,vss,e1,e2,e3,e4,e5⟩:=fG I F hz0 ps ys.toList hp q1 q2 hc hv
 have hel:els.length=len:=by rw[e5,hl]
 have hsize:cells.size=els.length*P.cellsOf e:=by
  rw[←kn,e4,FY _ (i6 (fun x hx=>(e3 x hx).1) e2),e2.length]
 refine⟨cells,vss,e2,e3,e4,by omega,?_⟩
 ·have hnb: ¬(len*P.cellsOf e>2^24):=by omega
  have e1':lc (fun i=>some (i*P.cellsOf e,P.cellsOf e)) ((pw (len*P.cellsOf e)).map (fun j=>(if len*P.cellsOf e=0 then(#[]:Array Value)else z.cells)[j%(if len*P.cellsOf e=0 then(#[]:Array Value)else z.cells).size]!))
    (ys.map fun x=>(x.fst,a.eval x.snd)).toList=some cells:=by
   rw[mr];exact e1
  by_cases h0:len*P.cellsOf e=0
  ·simp only[qn h0]at e1'
   simp only[execOp,ho,Instr.buildSlice,Sem.run_bind,AJ hu,Result.andThen_ok,Cq hinfo,qo hnb,Sem.run_pure,qn h0,e1',newRow,run_newObj,hel]
   rfl
  ·simp only[qo h0]at e1'
   simp only[execOp,ho,Instr.buildSlice,Sem.run_bind,AJ hu,Result.andThen_ok,Cq hinfo,qo hnb,Sem.run_pure,qo h0,zeroValue,KX hi,hz,e1',newRow,run_newObj,hel]
   rfl
theorem sim_bls(I:Inv tb C)(F:BO C f a nt){o:Oper}{t e:TypeId}{len:Nat}{zero:List (List AV)}{ps:List (Nat×AO)}{ys:Array (Nat×Operand)}(ho:o.op= .buildSlice t len ys)(hu:P.underlying t=some (.slice e)){i:TypeInfo}{z:Value}
  (hi:P.info? e=some i) (hz:i.zero=some z) (hzz:z.cells.size=P.cellsOf e) (hz0:0<P.cellsOf e) (hb:len*P.cellsOf e≤2^24) (hl:zero.length=len) (hzs:zero.all (QN · z.cells.toList)=true) (hp:Mi (P.cellsOf e) ps ys.toList=true)
  {els:List (List AV)} (hv:LA zero (P.cellsOf e) (eval tb f) ps=some els):Yields tb C (.orow C.H.length els.length 0 els.length,some (C.H++[CB.row (some e) false (P.cellsOf e) els])) ((execOp a.eval o).run P C.w):=by
 obtain⟨cells,vss,e2,e3,e4,e5,e6⟩:=wL I F ho hu hi hz hzz hz0 hb hl hzs hp hv
 refine SP (e:=e) (w:=C.w) (arr:=cells) (K:=els.length) I ⟨rfl,rfl,rfl⟩ rfl hz0 e3 e2 (fun j v hj=> ?_) (be _) e5 e6
 rw[←e4]at hj;simpa using hj
theorem sim_bll(I:Inv tb C)(F:BO C f a nt){o:Oper}{t e:TypeId}{len:Nat}{zero:List (List AV)}{ps:List (Nat×AO)}{ys:Array (Nat×Operand)}(ho:o.op= .buildSlice t len ys)(hu:P.underlying t=some (.slice e)){i:TypeInfo}{z:Value}
  (hi:P.info? e=some i) (hz:i.zero=some z) (hzz:z.cells.size=P.cellsOf e) (hz0:0<P.cellsOf e) (hb:len*P.cellsOf e≤2^24) (hl:zero.length=len) (hzs:zero.all (QN · z.cells.toList)=true) (hp:Mi (P.cellsOf e) ps ys.toList=true)
  {els:List (List AV)} (hv:LA zero (P.cellsOf e) (eval tb f) ps=some els):Yields tb C (.sl (P.cellsOf e) els,none) ((execOp a.eval o).run P C.w):=by
 obtain⟨cells,vss,e2,e3,e4,e5,e6⟩:=wL I F ho hu hi hz hzz hz0 hb hl hzs hp hv
 obtain⟨X,ID⟩:=grown (w:=C.w.alloc (.cells cells e)) I ⟨rfl,rfl,rfl⟩ (by rw[HY];omega) fun b hb=>alloc_old _ _ hb
 refine⟨_,X,ID,rfl, .inl ⟨_,e6, .inl ⟨C.w.heap.size,0,els.length,vss,rfl,be _,by rw[HY];omega,?_,fun j v hj=> ?_,e3,nr X e2⟩⟩⟩
 ·rintro⟨id,hid,e'⟩
  have:=I.lt id hid
  simp only at e'
  omega
 ·have hn:(C.w.alloc (.cells cells e)).heap[C.w.heap.size]? =some (.cells cells e):=Jy _ _
  simp only[f7,hn,da]
  rw[←e4]at hj
  simpa using hj
theorem sim_s2a(I:Inv tb C)(F:BO C f a nt){o:Oper}{t e:TypeId}{n:Nat}{x:AO}{y:Operand}(ho:o.op= .sliceToArrayPointer t y)(hu:P.underlying t=some (.array n e))(hn:0<n)(hx:BG x y=true){r:AV×Option Az}
  (h:val (Xa n (P.cellsOf e) (eval tb f x))=some r):Yields tb C r ((execOp a.eval o).run P C.w):=by
 have hr:=Be I F hx
 have run: ∀{p:Option Addr} {len cap:Nat},a.eval y= .slice p len cap→n≤len→(execOp a.eval o).run P C.w= .ok (.value (.pointer p)) C.w:=by
  intro p len cap he hle
  simp only[execOp,ho,he,Instr.arrayAt,Sem.run_bind,AJ hu,Result.andThen_ok,qo (show¬len<n by omega),Sem.run_pure]
 generalize eval tb f x=v at*
 cases v<;>simp only[Xa,val,df,reduceCtorEq]at h
 case ocel sz id off len=>
  split at h
  ·rename_i hc
   simp only[an,ae]at h
   subst h
   obtain⟨hobj,o',cap,e',hlc,hoff,hsz⟩:=hr
   refine A9 I (run e' hc.2) ⟨hobj,?_⟩
   rw[hoff (by omega)]
  ·simp at h
 case orow id k lo len=>
  split at h
  ·rename_i hc
   simp only[an,ae]at h
   subst h
   obtain⟨⟨p,c,e'⟩,fz,sz,els,hg,hl,hk⟩:=hr
   by_cases hkn:k=els.length
   ·obtain⟨hle,off,cap,e'',hlc,hoff,_⟩:=hk hkn
    refine A9 I (run e'' hc.1) ⟨⟨_,rfl⟩,fz,sz,els,hg,hl,fun _=> ?_⟩
    rw[hoff (by omega)]
    rfl
   ·exact A9 I (run e' hc.1) ⟨⟨_,rfl⟩,fz,sz,els,hg,hl,fun q=>absurd q hkn⟩
  ·simp at h
 case sl sz els=>
  split at h
  ·rename_i hc
   simp only[an,ae]at h
   subst h
   rcases hr with ⟨b,base,cap,vss,e',hlc,hlt,hown,hh,hs,hrr⟩|⟨rfl,_⟩
   case inr=>have:=hc.2;simp at this;omega
   refine A9 I (run e' hc.2) ⟨b,base,(vss.take n).flatten,by simp,hlt,hown,?_,O8 fun x hx=>(hs x (dc hx)).2,n7 hrr.take⟩
   have hlens:=i6 (fun x hx=>(hs x hx).1) hrr
   rw[Ff _ _ hlens]
   have:=hh.sub 0 (n*sz)
   simpa using this
  ·simp at h
theorem uY(I:Inv tb C)(F:BO C f a nt){o:Oper}{c:Call}{mx:Bool}{x1 x2:AO}{y1 y2:Operand}(ho:o.op= .call c)(hc:c.callee= .builtin (if mx then .max else .min))(ha:c.args= #[y1,y2])(h1:BG x1 y1=true)(h2:BG x2 y2=true)
  {k:IntKind} {p q:Int} (e1:eval tb f x1= .i k p) (e2:eval tb f x2= .i k q):Yields tb C (.i k (if mx then(if q>p then q else p)else(if q<p then q else p)),none) ((execOp a.eval o).run P C.w):=by
 have r1:=Be I F h1
 have r2:=Be I F h2
 rw[e1]at r1
 rw[e2]at r2
 have r1':a.eval y1= .int k p:=r1
 have r2':a.eval y2= .int k q:=r2
 refine A9 I (v:= .int k (if mx then(if q>p then q else p)else(if q<p then q else p))) (FQ ho hc fun qs=> ?_) rfl
 cases mx
 ·simp only[ha,gi,bn,ew,au,qu,builtin,Sem.run_bind,Builtin.min_,List.foldlM_cons,List.foldlM_nil,r1',r2',Builtin.min2]
  split<;>simp_all
 ·simp only[ha,gi,bn,ew,qt,builtin,Sem.run_bind,Builtin.max_,List.foldlM_cons,List.foldlM_nil,r1',r2',Builtin.max2]
  split<;>simp_all
end
end
section
section
variable{cl:Nat→List AV→Az→Mb}{P:Program}{tb:Di}{C:DR}{f:Fr}{a:Act}{nt:Nat}
end
end
section
section
variable{cl:Nat→List AV→Az→Mb}{P:Program}{tb:Di}{C:DR}{f:Fr}{a:Act}{nt:Nat}
theorem PV{x:List AV}{v:List Value}(h:B6 C x v): ∀n,Bk C (aq n x) (aq n v)
 |0=>rfl
 |n+1=>⟨v,_,rfl,h,PV h n⟩
theorem sim_mks(I:Inv tb C)(F:BO C f a nt){o:Oper}{t e:TypeId}{x1 x2:AO}{y1 y2:Operand}(ho:o.op= .makeSlice t y1 y2)(hu:P.underlying t=some (.slice e)){i:TypeInfo}{z:Value}(hi:P.info? e=some i)(hz:i.zero=some z)
  {zero:List AV} (hzs:QN zero z.cells.toList=true) (hsz:i.size=z.cells.size) (hz0:0<i.size) (h1:BG x1 y1=true) (h2:BG x2 y2=true) {l c:Int} (e1:HE (eval tb f x1)=some l) (e2:HE (eval tb f x2)=some c)
  (hc:0≤l∧l≤c∧c*i.bytes≤Bs) (hc63:c≤9223372036854775807):Yields tb C (.orow C.H.length l.toNat 0 l.toNat,some (C.H++[CB.row (some e) false i.size (aq l.toNat zero)])) ((execOp a.eval o).run P C.w):=by
 obtain⟨k1,_,r1⟩:=IC (Be I F h1) e1
 obtain⟨k2,_,r2⟩:=IC (Be I F h2) e2
 obtain⟨hr,hs⟩:=O2 (C:=C) hzs
 have hlen:zero.length=i.size:=by rw[←hr.length,hsz];simp
 have hrun:=run_make (P:=P) C.w t e i z hu hi hz k1 k2 l c hc.1 hc.2.1 (by have:=hc.2.2;unfold Bs at this;rw[Int.mul_comm];omega) hc63
 have hle:l.toNat≤c.toNat:=by have:=hc.2.1;omega
 have hy:=SP (fz:=false) (sz:=i.size) (els:=aq l.toNat zero) (vss:=aq l.toNat z.cells.toList) (arr:=madeCells z.cells (c.toNat*i.size)) (e:=e) (w:=C.w) (K:=c.toNat)
  (x:=(execOp a.eval o).run P C.w) I ⟨rfl,rfl,rfl⟩ rfl hz0 (fun x hx=>by rw[List.eq_of_mem_replicate hx];exact⟨hlen,hs⟩) (PV hr _) (fun j v hj=> ?_) (by simpa using hle) (by rw[size_madeCells];exact be _) ?_
 ·simpa using hy
 ·have hmade:(madeCells z.cells (c.toNat*i.size)).toList=(aq c.toNat z.cells.toList).flatten:=by
   rw[hsz];exact Yc z.cells c.toNat
  have hsplit:(aq c.toNat z.cells.toList).flatten=(aq l.toNat z.cells.toList).flatten++(aq (c.toNat-l.toNat) z.cells.toList).flatten:=by
   rw[←f6,List.replicate_append_replicate,show l.toNat+(c.toNat-l.toNat)=c.toNat by omega]
  rw[←nj,hmade,hsplit,br (Bl hj)]
  exact hj
 ·simp only[execOp,ho,r1,r2,Sem.run_bind,hrun,Result.andThen_ok,Sem.run_pure,k8]
theorem WZ: ∀{els:List (List AV)} {vss:List (List Value)} {l:List UInt8},Bk C els vss→EY els=some l→ ∃ns:List Int,vss.flatten=ns.map (Value.int .u8)∧l=ns.map fun n=>bc n.toNat
 |[],_,_,r,h=>by
  rw[show _=[]from r]
  simp only[EY,ae]at h
  subst h
  exact⟨[],rfl,rfl⟩
 |e::els,_,l,⟨v,q,e1,r1,r2⟩,h=>by
  unfold EY at h
  split at h
  ·rename_i he;cases he
  ·rename_i n r' he
   cases he
   obtain⟨l',hl,rfl⟩:=aj.1 h
   obtain⟨ns,h1,h2⟩:=WZ r2 hl
   obtain⟨u,us,e2,ru,e3⟩:=r1
   have e3':us=[]:=e3
   have ru':u= .int .u8 n:=ru
   subst e3';subst e2;subst ru'
   exact⟨n::ns,by rw[e1];simp[h1],by simp[h2]⟩
  ·cases h
theorem Z3: ∀(ns:List Int) (b:ByteArray),ns.foldl (fun r n=>r.push (bc n.toNat)) b=⟨b.data++(ns.map fun n=>bc n.toNat).toArray⟩
 |[],b=>by apply kq;simp
 |n::ns,b=>by
  rw[ll,Z3 ns]
  apply kq
  simp[nw]
theorem sim_cvs(I:Inv tb C)(F:BO C f a nt){o:Oper}{s d e:TypeId}{x:AO}{y:Operand}(ho:o.op= .convert s d y)(hs:P.underlying s=some (.slice e))(he:P.underlying e=some (.int .u8))(hd:P.underlying d=some .string)(hx:BG x y=true)
  {els:List (List AV)} {l:List UInt8} (h:E4 C.H 1 (eval tb f x)=some els) (hl:EY els=some l):Yields tb C (.s l,none) ((execOp a.eval o).run P C.w):=by
 have r:=Be I F hx
 refine A9 I (v:= .string ⟨l.toArray⟩) ?_ rfl
 rcases kC I (by omega) r h with ⟨rfl,ev⟩|⟨q,cap,vss,ev,hlc,hh,hsz,hr⟩
 ·simp only[EY,ae]at hl
  subst hl
  simp only[execOp,ho,ev,Sem.run_bind,run_convert_bytes_string C.w s d e _ _ _ hs he hd]
  rfl
 ·obtain⟨ns,h1,h2⟩:=WZ hr hl
  have hlen:ns.length=els.length:=by
   have:=qv f8 h1
   rw[FY _ (i6 (fun x hx=>(hsz x hx).1) hr),hr.length]at this
   simpa using this.symm
  have hload:(loadCells q els.length).run P C.w= .ok (ns.map (Value.int .u8)).toArray C.w:=by
   by_cases hne:els=[]
   ·subst hne
    have:ns=[]:=cj (by simpa using hlen)
    subst this
    rfl
   ·obtain⟨b,base,rfl,hh2⟩:=hh hne
    have:=HJ (P:=P) hh2
    rw[h1]at this
    simpa [hlen]using this
  have:=run_bytesToString (P:=P) C.w q els.length cap ns hload
  simp only[execOp,ho,ev,Sem.run_bind,run_convert_bytes_string C.w s d e _ _ _ hs he hd,this,Result.andThen_ok,Sem.run_pure]
  rw[Z3,h2]
  rw[show ByteArray.empty.data= #[]from rfl];simp
theorem sim_rng(I:Inv tb C)(F:BO C f a nt){o:Oper}{t:TypeId}{x:AO}{y:Operand}(ho:o.op= .range t y)(ht:P.underlying t=some .string)(hx:BG x y=true){l:List UInt8}(h:eval tb f x= .s l):
  Yields tb C (.ptr C.H.length 0,some (C.H++[CB.iter l 0])) ((execOp a.eval o).run P C.w):=by
 have r:=Be I F hx
 rw[h]at r
 have e1:a.eval y= .string ⟨l.toArray⟩:=r
 have hlt:C.w.heap.size<(C.w.alloc (.stringIter ⟨l.toArray⟩ 0)).heap.size:=by rw[HY];omega
 refine SQ (w:=C.w.alloc (.stringIter ⟨l.toArray⟩ 0)) (v:= .pointer (some ⟨C.w.heap.size,0,none⟩)) I (p:=⟨C.w.heap.size,0,0⟩) ⟨rfl,rfl,rfl⟩ ?_ hlt rfl (fun b hb=>alloc_old _ _ hb) ?_ ?_
 ·simp only[execOp,ho,e1,Instr.range,Sem.run_bind,AJ ht,Result.andThen_ok,Sem.run_pure,run_newObj]
  rfl
 ·exact Jy _ _
 ·intro hφ
  exact⟨⟨CB.iter l 0,by simp[o5],rfl⟩,by rw[hφ]⟩
theorem sim_nxt(I:Inv tb C)(F:BO C f a nt){o:Oper}{x:AO}{y:Operand}(ho:o.op= .next y true)(hx:BG x y=true){id:Nat}{l:List UInt8}{pos:Nat}(h:eval tb f x= .ptr id 0)(hi:Zt C.H id=some (l,pos)){r:AV×Option Az}
  (hr:(if pos<l.length then some (AV.tup [.b true, .i .i64 pos, .i .i32 (gg ⟨l.toArray⟩ pos).1],some (C.H.set id (CB.iter l (pos+(gg ⟨l.toArray⟩ pos).2))))else some (AV.tup [.b false],none))=some r):
  Yields tb C r ((execOp a.eval o).run P C.w):=by
 have rv:=Be I F hx
 rw[h]at rv
 obtain⟨_,e1⟩:=rv
 have hH:C.H[id]? =some (.iter l pos):=by
  simp only[Zt]at hi
  split at hi
  ·rename_i l' p' hg;cases hi;exact hg
  ·cases hi
 have hobj:C.w.heap[(C.φ id).blk]? =some (.stringIter ⟨l.toArray⟩ pos):=I.obj id _ hH
 have hsize:(⟨l.toArray⟩:ByteArray).size=l.length:=by simp[l9]
 have hget:(getObj (C.φ id).blk).run P C.w= .ok (.stringIter ⟨l.toArray⟩ pos) C.w:=by
  simp[getObj,py,hobj]
 by_cases hp:pos<l.length
 ·rw[qn hp]at hr
  cases hr
  have hlt:=I.lt id (Bl hH)
  have hset:(setObj (C.φ id).blk (.stringIter ⟨l.toArray⟩ (pos+(gg ⟨l.toArray⟩ pos).2))).run P C.w= .ok () {C.w with heap:=C.w.heap.setIfInBounds (C.φ id).blk (.stringIter ⟨l.toArray⟩ (pos+(gg ⟨l.toArray⟩ pos).2))}:=by
   simp[setObj,py,hobj]
  let D:DR:=⟨C.φ,C.H.set id (.iter l (pos+(gg ⟨l.toArray⟩ pos).2)),{C.w with heap:=C.w.heap.setIfInBounds (C.φ id).blk (.stringIter ⟨l.toArray⟩ (pos+(gg ⟨l.toArray⟩ pos).2))}⟩
  obtain⟨X,hI⟩:=upd (D:=D) I ⟨rfl,rfl,rfl⟩ hH rfl (fun _ _=>rfl) (by simp[D]) (fun b hb hne=>by simp only[D];rw[k7 (jz hne)]) (.inl rfl) (fun _=>⟨rfl,rfl⟩) (fun _ fz sz els h=>by cases h)
  refine⟨D,X,hI (by simp[Obj,D,hlt]),rfl, .inl ⟨.tuple #[.bool true, .int .i64 pos, .int .i32 (gg ⟨l.toArray⟩ pos).1],?_,⟨[.bool true, .int .i64 pos, .int .i32 (gg ⟨l.toArray⟩ pos).1],rfl,_,_,rfl,rfl,_,_,rfl,rfl,_,_,rfl,rfl,rfl⟩⟩⟩
  simp only[execOp,ho,e1,Instr.next,Sem.run_bind,hget,Result.andThen_ok,hsize,qn hp,hset,Sem.run_pure]
  rfl
 ·rw[qo hp]at hr
  cases hr
  refine A9 I (v:= .tuple #[.bool false]) ?_ ⟨[.bool false],rfl,_,_,rfl,rfl,rfl⟩
  simp only[execOp,ho,e1,Instr.next,Sem.run_bind,hget,Result.andThen_ok,hsize,qo hp,Sem.run_pure]
end
end
section
section
variable{cl:Nat→List AV→Az→Mb}{P:Program}{tb:Di}{C:DR}{f:Fr}{a:Act}{nt:Nat}
theorem sim_cvp(I:Inv tb C)(F:BO C f a nt){o:Oper}{s d t:TypeId}{j:TypeInfo}{x:AO}{y:Operand}(ho:o.op= .convert s d y)(hs:P.underlying s=some (.pointer t))(hd:P.underlying d=some .unsafePointer)(ht:P.info? t=some j)(hj:j.size≠0)
  (hx:BG x y=true) {r:AV×Option Az} (h:BC tb cl (eval tb f) C.H (.cvp x)=some r):Yields tb C r ((execOp a.eval o).run P C.w):=by
 have r1:=Be I F hx
 simp only[BC]at h
 split at h
 ·rename_i hv
  cases h
  rw[hv]at r1
  have e1:a.eval y= .pointer none:=r1
  have hrun:(convert s d (.pointer none)).run P C.w= .ok (.pointer none) C.w:=by
   simp[convert,AJ hs,AJ hd,ow]
  exact A9 I (v:= .pointer none) (by simp only[execOp,ho,e1,Sem.run_bind,hrun,Result.andThen_ok,Sem.run_pure]) rfl
 ·rename_i id off hv
  obtain⟨cs,hcs,h⟩:=ab.1 h
  split at h
  ·rename_i hlt
   cases h
   rw[hv]at r1
   have r0:=r1
   obtain⟨_,e1⟩:=r1
   obtain⟨tl,hg,_⟩:=OF hcs
   obtain⟨vs,arr,e,fr,⟨h1,_⟩,h2,_⟩:=I.obj id _ hg
   have hsh:C.w.shape? (C.φ id).blk=some (e,arr.size):=by simp only[pf,h1]
   have hrun:=Lib.run_to_unsafe (P:=P) C.w ⟨(C.φ id).blk,off,none⟩ hs hd ht hj hsh (by rw[h2];exact hlt)
   exact A9 I (v:= .pointer (some ⟨(C.φ id).blk,off,none⟩)) (by simp only[execOp,ho,e1,Sem.run_bind,hrun,Result.andThen_ok,Sem.run_pure]) (e1▸r0)
  ·cases h
 ·cases h
theorem sim_cvu(I:Inv tb C)(F:BO C f a nt){o:Oper}{s d u t n:Nat}{j:TypeInfo}{x:AO}{y:Operand}(ho:o.op= .convert s d y)(hs:P.underlying s=some .unsafePointer)(hd:P.underlying d=some (.pointer u))(hu:P.info? u=some j)
  (hl:liesAt P P.depth t (n/P.cellsOf t) 0 u 1=true) (hx:BG x y=true) {r:AV×Option Az} (h:BC tb cl (eval tb f) C.H (.cvu t n x)=some r):Yields tb C r ((execOp a.eval o).run P C.w):=by
 have r1:=Be I F hx
 simp only[BC]at h
 split at h
 ·rename_i hv
  cases h
  rw[hv]at r1
  have e1:a.eval y= .pointer none:=r1
  have hrun:(convert s d (.pointer none)).run P C.w= .ok (.pointer none) C.w:=by
   simp[convert,AJ hs,AJ hd,ow]
  exact A9 I (v:= .pointer none) (by simp only[execOp,ho,e1,Sem.run_bind,hrun,Result.andThen_ok,Sem.run_pure]) rfl
 ·rename_i id off hv
  obtain⟨cs,hcs,h⟩:=ab.1 h
  split at h
  ·rename_i hlt
   cases h
   obtain⟨rfl,hn,hlab⟩:=hlt
   rw[hv]at r1
   have r0:=r1
   obtain⟨_,e1⟩:=r1
   obtain⟨tl,hg,hlab'⟩:=OF hcs
   obtain⟨vs,arr,e,fr,⟨h1,hb⟩,h2,_⟩:=I.obj id _ hg
   have het:e=t:=hb t (by rw[←hlab',hlab])
   subst het
   have hsh:C.w.shape? (C.φ id).blk=some (e,arr.size):=by simp only[pf,h1]
   have hrun:=Lib.run_from_unsafe (P:=P) C.w ⟨(C.φ id).blk,0,none⟩ hs hd hu hsh (by rw[h2,hn];exact hl)
   exact A9 I (v:= .pointer (some ⟨(C.φ id).blk,0,none⟩)) (by simp only[execOp,ho,e1,Sem.run_bind,hrun,Result.andThen_ok,Sem.run_pure]) (e1▸r0)
  ·cases h
 ·cases h
theorem sim_capn(I:Inv tb C)(F:BO C f a nt){o:Oper}{c:Call}{t e:TypeId}{x:AO}{y:Operand}(ho:o.op= .call c)(hc:c.callee= .builtin .cap)(ht:c.argTypes[0]? =some t)(ha:c.args= #[y])
  (hx:BG x y=true) (h:eval tb f x= .nils) (hu:P.underlying t=some (.slice e)):Yields tb C (.i .i64 0,none) ((execOp a.eval o).run P C.w):=by
 have r:=Be I F hx
 rw[h]at r
 have r':a.eval y= .slice none 0 0:=r
 refine A9 I (v:= .int .i64 0) (FQ ho hc fun q=> ?_) rfl
 simp only[ha,gi,bn,ew,builtin,Sem.run_bind,Builtin.cap_,ht]
 simp[r',AJ hu,goInt]
theorem eqIn_nn(d:Nat){t:TypeId}{x1}(hu:P.underlying t=some (.interface x1))(w:World):(du (d+1) t .nilIface .nilIface).run P w= .ok true w:=by
 simp only[du,Sem.run_bind,AJ hu,Result.andThen_ok,Sem.run_pure]
theorem sim_isni(I:Inv tb C)(F:BO C f a nt){o:Oper}{op:BinOp}{t t':TypeId}{ms:Array (String×TypeId)}{neg:Bool}{x:AO}{p:Operand}(ho:o.op= .binOp op t p (.const .nilIface) t')(h0:op=if neg then .neq else .eql)(ht:P.underlying t=some (.interface ms))
  (hx:BG x p=true) {r:AV×Option Az} (h:BC tb cl (eval tb f) C.H (.isni neg x)=some r):Yields tb C r ((execOp a.eval o).run P C.w):=by
 have r1:=Be I F hx
 simp only[BC]at h
 have fin: ∀(v:Value) (b:Bool),a.eval p=v→r=(.b (if neg then !b else b),none)→(du 10000 t v .nilIface).run P C.w= .ok b C.w→(∀l,v≠ .agg l)→(∀k n,v≠ .int k n)→Yields tb C r ((execOp a.eval o).run P C.w):=by
  rintro v b e rfl hq h3 h4
  have hg:(eqGuard op t p (.const .nilIface) v .nilIface).run P C.w= .ok () C.w:=by
   cases v<;>first
    |exact absurd rfl (h3 _)
    |(simp only[eqGuard];split<;>rfl)
    |(simp only[eqGuard];cases p<;>(split<;>rfl))
  have q2: ∀op,(op= .eql→(d4 op t v .nilIface).run P C.w= .ok (.bool b) C.w)∧(op= .neq→(d4 op t v .nilIface).run P C.w= .ok (.bool (!b)) C.w):=
   fun op=>FP hq (.inr (.inr (.inr (.inr (.inr (.inl ⟨.inr rfl,fun k n=>⟨h4 k n,fun e=>(by cases e)⟩⟩))))))
  have ec:a.eval (.const .nilIface)= .nilIface:=rfl
  cases neg with
  |true=>
   simp only[qt]at h0
   refine A9 I (v:= .bool (!b)) ?_ rfl
   simp only[execOp,ho,e,ec,Sem.run_bind,hg,Result.andThen_ok,(q2 op).2 h0,Sem.run_pure]
  |false=>
   simp only[au,qu]at h0
   refine A9 I (v:= .bool b) ?_ rfl
   simp only[execOp,ho,e,ec,Sem.run_bind,hg,Result.andThen_ok,(q2 op).1 h0,Sem.run_pure]
 split at h
 ·rename_i hv
  rw[hv]at r1
  cases h
  refine fin .nilIface true r1 (by cases neg<;>rfl) ?_ (fun l e=>by cases e) (fun k n e=>by cases e)
  exact eqIn_nn 9999 ht C.w
 ·rename_i hv
  rw[hv]at r1
  cases h
  obtain⟨u,z,e,_⟩:=r1
  exact fin (.iface u z) false e (by cases neg<;>rfl) (vV 9999 ht C.w) (fun l e=>by cases e) (fun k n e=>by cases e)
 ·cases h
theorem sim_eqp(I:Inv tb C)(F:BO C f a nt){o:Oper}{op:BinOp}{t u t':TypeId}{j:TypeInfo}{neg:Bool}{x y:AO}{p q:Operand}(ho:o.op= .binOp op t p q t')(h0:op=if neg then .neq else .eql)(ht:P.underlying t=some (.pointer u))(hu:P.info? u=some j)
  (hx:BG x p=true) (hy:BG y q=true) {r:AV×Option Az} (h:BC tb cl (eval tb f) C.H (.eqp neg x y)=some r):Yields tb C r ((execOp a.eval o).run P C.w):=by
 have r1:=Be I F hx
 have r2:=Be I F hy
 simp only[BC]at h
 split at h
 ·rename_i i1 o1 i2 o2 hv1 hv2
  split at h
  ·rename_i hc
   obtain⟨rfl,rfl⟩:=hc
   cases h
   rw[hv1]at r1
   rw[hv2]at r2
   obtain⟨_,e1⟩:=r1
   obtain⟨_,e2⟩:=r2
   have hg:(eqGuard op t p q (.pointer (some ⟨(C.φ i1).blk,o1,none⟩)) (.pointer (some ⟨(C.φ i1).blk,o1,none⟩))).run P C.w= .ok () C.w:=O5 p q C.w (fun l e=>by cases e) (.inl fun e=>by cases e) op
   refine A9 I (v:= .bool (!neg)) ?_ rfl
   cases neg
   ·simp only[au,qu]at h0
    subst h0
    have:=run_eql_ptr_same (P:=P) C.w ⟨(C.φ i1).blk,o1,none⟩ ht hu
    simp only[execOp,ho,e1,e2,Sem.run_bind,hg,this,Result.andThen_ok,Sem.run_pure]
    rfl
   ·simp only[qt]at h0
    subst h0
    have:=Lib.run_neq_ptr_same (P:=P) C.w ⟨(C.φ i1).blk,o1,none⟩ ht hu
    simp only[execOp,ho,e1,e2,Sem.run_bind,hg,this,Result.andThen_ok,Sem.run_pure]
    rfl
  ·cases h
 ·cases h
theorem sim_usd(I:Inv tb C)(F:BO C f a nt){o:Oper}{c:Call}{x:AO}{y:Operand}(ho:o.op= .call c)(hc:c.callee= .builtin .unsafeSliceData)(ha:c.args= #[y])(hx:BG x y=true){r:AV×Option Az}(h:BC tb cl (eval tb f) C.H (.usd x)=some r):
  Yields tb C r ((execOp a.eval o).run P C.w):=by
 have r1:=Be I F hx
 have run: ∀{v},(Builtin.unsafeSliceData_ c.argTypes o.type #[a.eval y]).run P C.w= .ok v C.w→(execOp a.eval o).run P C.w= .ok (.value v) C.w:=by
  intro v hv
  refine FQ ho hc fun q=> ?_
  simp only[ha,gi,bn,ew,builtin,Sem.run_bind,hv,Result.andThen_ok,Sem.run_pure]
 simp only[BC]at h
 split at h
 ·rename_i hv
  cases h
  rw[hv]at r1
  have e1:a.eval y= .slice none 0 0:=r1
  exact A9 I (v:= .pointer none) (run (by rw[e1];rfl)) rfl
 ·rename_i id n lo len hv
  obtain⟨q,hq,h⟩:=ab.1 h
  split at h
  ·rename_i hcond
   obtain⟨hn,hle,hpos⟩:=hcond
   cases h
   rw[hv]at r1
   obtain⟨_,fz,sz,els,hg,hl,k⟩:=r1
   have hq':q=(fz,sz,els):=by rw[hg]at hq;exact(bf hq).symm
   subst hq'
   obtain⟨_,off,cap,e1,hlc,hoff,hsize,hbo⟩:=k hn
   have hrun:=Lib.run_unsafeSliceData_row (P:=P) C.w c.argTypes o.type ⟨(C.φ id).blk,off,none⟩ len cap (by omega)
   refine A9 I (v:= .pointer (some ⟨(C.φ id).blk,off,none⟩)) (run (by rw[e1];exact hrun)) ?_
   exact⟨⟨_,rfl⟩,fz,sz,els,hg,hl,fun _=>by rw[hoff hpos,ja]⟩
  ·cases h
 ·cases h
theorem nG{e:TypeId}(hc:P.cellsOf e=1)(count off n:Nat)(hn:off+n≤count):liesAt P P.depth e count off e n=true:=by
 have hd:P.depth=(2*(P.types.size+Made.depth)+1)+1:=rfl
 rw[hd]
 simp only[liesAt,gq]
 left
 rw[hd]
 simp[Go.rowAt,hc,hn,sameLayout,Nat.mod_one]
theorem S5(w:World)(b:Nat): ∀(els:List (List AV)) (vss:List (List Value)) (l:List UInt8) (o:Nat) (acc:ByteArray),Bk C els vss→EY els=some l→Ev w b o vss.flatten→
  (loadBytes ⟨b,o,none⟩ acc els.length).run P w= .ok ⟨acc.data++l.toArray⟩ w
 |[],_,l,o,acc,_,h,_=>by
  simp only[EY,ae]at h
  subst h
  simp[loadBytes]
 |e::els,vss,l,o,acc,r,h,hh=>by
  obtain⟨v,q,e1,r1,r2⟩:=r
  subst e1
  unfold EY at h
  split at h
  ·rename_i he;cases he
  ·rename_i n r' he
   cases he
   obtain⟨l',hl,rfl⟩:=aj.1 h
   obtain⟨u,us,e2,ru,e3⟩:=r1
   have e3':us=[]:=e3
   have ru':u= .int .u8 n:=ru
   subst e3';subst e2;subst ru'
   have h0:w.cell? ⟨b,o,none⟩=some (.int .u8 n):=by
    have:=hh 0 (.int .u8 n) rfl
    simpa using this
   have hh':Ev w b (o+1) q.flatten:=fun j v hj=>by
    have:=hh (j+1) v (by simpa using hj)
    rwa [show o+(j+1)=o+1+j by omega]at this
   have ih:=S5 w b els q l' (o+1) (acc.push n.toNat.toUInt8) r2 hl hh'
   simp only[bb,loadBytes,Sem.run_bind,run_load,h0,Result.andThen]
   have e4:(⟨b,o,none⟩:Addr).add 1=⟨b,o+1,none⟩:=rfl
   rw[e4,ih]
   congr 1
   apply kq
   simp[nw]
  ·cases h
theorem sim_ust(I:Inv tb C)(F:BO C f a nt){o:Oper}{c:Call}{pt it t:TypeId}{x n:AO}{y1 y2:Operand}(ho:o.op= .call c)(hc:c.callee= .builtin .unsafeString)(ha:c.args= #[y1,y2])(hty:c.argTypes= #[pt,it])(hp:P.underlying pt=some (.pointer t))(ht:P.cellsOf t=1)
  (hx:BG x y1=true) (hn:BG n y2=true) {r:AV×Option Az} (h:BC tb cl (eval tb f) C.H (.ust t x n)=some r):Yields tb C r ((execOp a.eval o).run P C.w):=by
 have r1:=Be I F hx
 simp only[BC]at h
 obtain⟨k,hk,h⟩:=ab.1 h
 obtain⟨k1,_,e2⟩:=IC (Be I F hn) hk
 have run: ∀{v w},(nk #[pt,it] o.type #[a.eval y1, .int k1 k]).run P C.w= .ok v w→(execOp a.eval o).run P C.w= .ok (.value v) w:=by
  intro v w hv
  refine FQ ho hc fun q=> ?_
  simp only[ha,hty,gi,bn,ew,builtin,Sem.run_bind,e2,hv,Result.andThen_ok,Sem.run_pure]
 have hmax:qm.max=9223372036854775807:=rfl
 have hdef: ∀q:Option Addr,nk #[pt,it] o.type #[.pointer q, .int k1 k]=
   (do
    let n←asInt (.int k1 k)
    if n<0 then runtimePanic (.error "unsafe.String: len out of range")
    if n>qm.max then unsupported (.unsafePointer "String: a length above the largest int")
    match q with
    |none=>
     if n=0 then pure (.string .empty)
     else runtimePanic (.error "unsafe.String: ptr is nil and len is not zero")
    |some a=>
     if n=0 then pure (.string .empty)
     else if←variablesAt a (←elemOf pt) n.toNat then do
      let s←loadBytes a .empty n.toNat
      freeze a n.toNat
      pure (.string s)
     else unsupported (.unsafePointer "String: not so many bytes at ptr")):=fun _=>rfl
 split at h
 ·rename_i hv
  split at h
  ·rename_i hk0
   subst hk0
   cases h
   rw[hv]at r1
   have e1:a.eval y1= .pointer none:=r1
   refine A9 I (v:= .string .empty) (run ?_) rfl
   rw[e1,hdef]
   simp[asInt,asIntOf,hmax]
  ·cases h
 ·rename_i id m i off hv
  obtain⟨q,hq,g⟩:=ab.1 h
  clear h
  split at g
  ·rename_i hcond
   obtain⟨hoff0,hpos,hm,hle,hsz,hlab,hmost⟩:=hcond
   subst hoff0
   obtain⟨l,hl,rfl⟩:=aj.1 g
   rw[hv]at r1
   obtain⟨_,fz,sz,els,hg,hl1,kk⟩:=r1
   have hq':q=(fz,sz,els):=by rw[hg]at hq;exact(bf hq).symm
   subst hq'
   simp only at hm hle hsz hl
   subst hsz
   have e1:=kk hm
   obtain⟨tl,hg',hlab'⟩:=KY hg
   obtain⟨vss,arr,et,fr,⟨h1,hfr0,hlb⟩,h2,h3,h4,h5,h6,h7,h8,h9⟩:=I.obj id _ hg'
   have het:et=t:=hlb t (by rw[←hlab',hlab])
   subst het
   have hlens:=i6 (fun x hx=>(h4 x hx).1) h5
   have hkn:((els.drop i).take k.toNat).length=k.toNat:=by simp only[a6,bh];omega
   have hh:Ev C.w (C.φ id).blk ((C.φ id).base+i) ((vss.drop i).take k.toNat).flatten:=by
    have:=h7.sub (i*1) (k.toNat*1)
    rw[nx]at this
    intro j v hj
    refine this j v ?_
    rw[Ff (sz:=1) _ _ (fun x hx=>hlens x (cu hx)),FX (sz:=1) _ _ hlens]at hj
    simpa using hj
   have hload:=S5 (P:=P) (C:=C) C.w (C.φ id).blk _ _ l ((C.φ id).base+i) .empty (o4 (n:=k.toNat) (Bk.drop (n:=i) h5)) hl hh
   rw[hkn]at hload
   have hsh:C.w.shape? (C.φ id).blk=some (et,arr.size):=by simp only[pf,h1]
   have hlies:=nG (P:=P) ht (arr.size/P.cellsOf et) ((C.φ id).base+i) k.toNat (by rw[ht,Nat.div_one,h2];omega)
   let w':=C.w.freeze ⟨(C.φ id).blk,(C.φ id).base+i,none⟩ k.toNat
   have hk0:k.toNat≠0:=by omega
   let fr':Nat×Nat:=if fr.1==fr.2 then((C.φ id).base+i,(C.φ id).base+i+k.toNat)else(min fr.1 ((C.φ id).base+i),max fr.2 ((C.φ id).base+i+k.toNat))
   have hnew:w'.heap[(C.φ id).blk]? =some (.cells arr et fr'):=by
    show(C.w.freeze ⟨(C.φ id).blk,(C.φ id).base+i,none⟩ k.toNat).heap[(C.φ id).blk]? =_
    unfold m9
    rw[qo hk0]
    simp only[jw,qt,h1,an]
    rfl
   have hother: ∀b,b≠(C.φ id).blk→w'.heap[b]? =C.w.heap[b]? :=fun b hb=>by
    show(C.w.freeze ⟨(C.φ id).blk,(C.φ id).base+i,none⟩ k.toNat).heap[b]? =_
    unfold m9
    rw[qo hk0]
    simp only[jw,qo (jz hb)]
   have hsz':w'.heap.size=C.w.heap.size:=by
    show(C.w.freeze ⟨(C.φ id).blk,(C.φ id).base+i,none⟩ k.toNat).heap.size=_
    unfold m9
    rw[qo hk0]
    simp
   have hfr1:fr'.1≤fr'.2:=by
    show(if fr.1==fr.2 then((C.φ id).base+i,(C.φ id).base+i+k.toNat)else(min fr.1 ((C.φ id).base+i),max fr.2 ((C.φ id).base+i+k.toNat))).1≤(if fr.1==fr.2 then((C.φ id).base+i,(C.φ id).base+i+k.toNat)else(min fr.1 ((C.φ id).base+i),max fr.2 ((C.φ id).base+i+k.toNat))).2
    split
    ·simp
    ·simp only;omega
   have hrest:Rest C.w w':=by
    show Rest C.w (C.w.freeze ⟨(C.φ id).blk,(C.φ id).base+i,none⟩ k.toNat)
    unfold m9
    rw[qo hk0]
    exact⟨rfl,rfl,rfl⟩
   obtain⟨X,hI⟩:=upd (D:=⟨C.φ,C.H.set id (CB.row tl true 1 els),w'⟩) I hrest hg' (o':=CB.row tl true 1 els) rfl (fun _ _=>rfl) (by show C.w.heap.size≤w'.heap.size;omega) (fun b _ hne=>hother b hne) (.inl rfl) (fun e=>by cases e)
    (fun _ fz' sz' els' e=>by cases e;exact⟨_,_,_,rfl,be _,fun _=>rfl⟩)
   have hcell: ∀q,w'.cell? ⟨(C.φ id).blk,q,none⟩=C.w.cell? ⟨(C.φ id).blk,q,none⟩:=fun q=>by simp only[f7,hnew,h1]
   refine⟨_,X,hI ⟨vss,arr,et,fr',⟨hnew,hfr1,hlb⟩,h2,h3,h4,nr X h5,h6,fun j v hj=>by rw[hcell];exact h7 j v hj,fun f=>(by cases f),fun f=>(by cases f)⟩,by simp only[iq,hlab'], .inl ⟨.string ⟨l.toArray⟩,run ?_,rfl⟩⟩
   rw[e1,nx,ja]
   have h63: ¬k>qm.max:=by rw[hmax];unfold Bs at hmost;omega
   have hneg: ¬k<0:=by omega
   have hk00: ¬k=0:=by omega
   rw[hdef]
   have h63': ¬(9223372036854775807:Int)<k:=by rw[hmax]at h63;exact h63
   simp[asInt,asIntOf,hmax,h63',hneg,hk00,variablesAt,hsh,elemOf,AJ hp,hlies,hload]
   rfl
  ·cases g
 ·cases h
end
end
section
def wS(tb:Di)(C:DR)(r:AV×Option Az)(e:Ending)(w:World):Prop:=
 ∃(v:Value) (D:DR),e= .returned v∧LH C D∧Inv tb D∧D.w=w∧D.H=r.2.getD C.H∧HG D r.1 v
def Lands(P:Program)(tb:Di)(C:DR)(r:AV×Option Az)(x:Result Next):Prop:=
 Yields tb C r x∨ ∃(g:Nat) (vs:Array Value),x= .ok (.enter g vs) C.w∧Calls P g vs C.w (wS tb C r)
def Fh(P:Program)(tb:Di)(cl:Nat→List AV→Az→Mb):Prop:=
 ∀(g:Nat) (C:DR) (args:List AV) (vs:List Value) (r:AV×Option Az),Inv tb C→B6 C args vs→cl g args C.H=some r→Lands P tb C r ((callFunc g vs.toArray).run P C.w)
def wQ(P:Program)(tb:Di):Prop:= ∀g p,tb.prim g=some p→Fh P tb fun g' args h=>if g'=g then p args h else none
theorem Qe{P:Program}{tb:Di}{cl:Nat→List AV→Az→Mb}(hp:wQ P tb)(hc:Fh P tb cl):Fh P tb fun g args h=>BK tb cl h g args:=by
 intro g C args vs r I hr h
 simp only[BK]at h
 split at h
 ·rename_i p hpg
  exact hp g p hpg g C args vs r I hr (by simpa using h)
 ·exact hc g C args vs r I hr h
theorem Wn{P:Program}{tb:Di}{C:DR}{a:Act}{o:Oper}{r:AV×Option Az}(h:Lands P tb C r ((execOp a.eval o).run P C.w)){next:Act→World→Prop}{Q:Exit→Act→World→Prop}
  (k: ∀(v:Value) (D:DR),LH C D→Inv tb D→D.H=r.2.getD C.H→HG D r.1 v→next (a.put o.dst v) D.w):o.wp P a C.w next Q:=by
 rcases h with h|⟨g,vs,e,hc⟩
 ·exact gB h k
 ·unfold Oper.wp
  rw[e]
  refine hc.mono fun e w' ⟨v,D,he,X,I,hw,hH,hr⟩=> ?_
  subst he
  subst hw
  exact k v D X I hH hr
def EN(P:Program)(tb:Di)(ao:HB)(o:Oper):Prop:=
 ∀{cl:Nat→List AV→Az→Mb} {C:DR} {f:Fr} {a:Act} {nt:Nat} {r:AV×Option Az},Fh P tb (fun g args h=>BK tb cl h g args)→Inv tb C→BO C f a nt→
  BC tb cl (eval tb f) C.H ao=some r→Lands P tb C r ((execOp a.eval o).run P C.w)
section
variable{P:Program}{tb:Di}{o:Oper}
def isSlice(P:Program)(t e:TypeId):Bool:=match P.underlying t with
 |some (.slice e')=>e==e'
 |_=>false
def NC(P:Program)(t:TypeId):Option TypeId:=match P.underlying t with
 |some (.slice e)=>some e
 |_=>none
theorem Fz{t e:TypeId}(h:NC P t=some e):P.underlying t=some (.slice e):=by
 unfold NC at h
 split at h
 ·rename_i e' hu;rw[hu];simp at h;rw[h]
 ·cases h
def uB(P:Program)(t:TypeId):Option (Nat×TypeId):=match P.underlying t with
 |some (.array n e)=>some (n,e)
 |_=>none
theorem OH{t e:TypeId}{n:Nat}(h:uB P t=some (n,e)):P.underlying t=some (.array n e):=by
 unfold uB at h
 split at h
 ·rename_i n' e' hu;rw[hu];simp at h;rw[h.1,h.2]
 ·cases h
def gH(P:Program)(t:TypeId):Option (Array Field):=match P.underlying t with
 |some (.struct fs)=>some fs
 |_=>none
theorem gG{t:TypeId}{fs:Array Field}(h:gH P t=some fs):P.underlying t=some (.struct fs):=by
 unfold gH at h
 split at h
 ·rename_i fs' hu;rw[hu];simp at h;rw[h]
 ·cases h
def SB(P:Program)(t:TypeId):Bool:=match P.underlying t with
 |some .string=>true
 |_=>false
theorem Jl{t:TypeId}(h:SB P t=true):P.underlying t=some .string:=by
 unfold SB at h
 split at h
 ·assumption
 ·cases h
def intk?(P:Program)(t:TypeId):Option IntKind:=match P.underlying t with
 |some (.int k)=>some k
 |_=>none
theorem sH{t:TypeId}{k:IntKind}(h:intk? P t=some k):P.underlying t=some (.int k):=by
 unfold intk? at h
 split at h
 ·rename_i fs' hu;rw[hu];simp at h;rw[h]
 ·cases h
def vQ(P:Program)(t:TypeId):Bool:=match P.underlying t with
 |some (.interface _)=>true
 |_=>false
def okMv(P:Program)(x:AO)(o:Oper):Bool:=match o.op with
 | .move y=>BG x y
 | .assign y=>BG x y
 | .call c=>match c.callee,c.args.toList,(c.argTypes[0]?).bind (uB P),x with
  | .builtin .len,[_],some (n,_), .k (.i .i64 m)=>m==n
  |_,_,_,_=>false
 |_=>false
theorem ok_mv{x:AO}(h:okMv P x o=true):EN P tb (.mv x) o:=by
 intro cl C f a nt r hc I F hr
 simp only[BC,ae]at hr
 subst hr
 unfold okMv at h
 split at h
 ·rename_i y ho;exact .inl (sim_mv I F (.inl ho) h)
 ·rename_i y ho;exact .inl (sim_mv I F (.inr ho) h)
 ·rename_i c ho
  split at h
  ·rename_i y n e m hcal hargs hty
   have hm:m=(n:Int):=by simpa using h
   subst hm
   obtain⟨t,ht,hu⟩:=ab.1 hty
   have hargs':c.args= #[y]:=by rw[←jk,hargs]
   refine .inl (A9 I (v:= .int .i64 n) (FQ ho hcal fun q=> ?_) rfl)
   simp[hargs',builtin,pd,ht,AJ (OH hu),goInt]
  ·cases h
 ·cases h
def rN(x y z:AO)(o:Oper):Bool:=match o.op with
 | .pick a b c=>BG x a&&BG y b&&BG z c
 |_=>false
theorem ok_pick{x y z:AO}(h:rN x y z o=true):EN P tb (.pick x y z) o:=by
 intro cl C f a nt r hc I F hr
 unfold rN at h
 split at h
 ·rename_i a b c ho
  simp only[af]at h
  simp only[BC]at hr
  split at hr
  ·rename_i t ht
   simp only[ae]at hr
   subst hr
   exact .inl (sim_pick I F ho h.1.1 h.1.2 h.2 ht)
  ·cases hr
 ·cases h
def iX(P:Program)(t0:Nat)(z:List AV)(o:Oper):Bool:=match o.op with
 | .alloc t=>match(P.info? t).bind (·.zero)with
  |some zv=>fv t0 t&&QN z zv.cells.toList
  |none=>false
 |_=>false
theorem ok_alloc{t0:Nat}{z:List AV}(h:iX P t0 z o=true):EN P tb (.alloc t0 z) o:=by
 intro cl C f a nt r hc I F hr
 unfold iX at h
 split at h
 ·rename_i t ho
  split at h
  ·rename_i zv hz
   obtain⟨i,hi,hz2⟩:=ab.1 hz
   simp only[BC,ae]at hr
   subst hr
   rw[af]at h
   obtain rfl:=cv h.1
   exact .inl (xC I ho hi hz2 h.2)
  ·cases h
 ·cases h
def okBox(t0 n:Nat)(x:AO)(o:Oper):Bool:=match o.op with
 | .box t y=>(BG x y&&decide (0<n))&&fv t0 t
 |_=>false
theorem ok_box{t0 n:Nat}{x:AO}(h:okBox t0 n x o=true):EN P tb (.box t0 n x) o:=by
 intro cl C f a nt r hc I F hr
 unfold okBox at h
 split at h
 ·rename_i t y ho
  rw[af]at h
  obtain rfl:=cv h.2
  replace h:=h.1
  simp only[af,qp]at h
  simp only[BC]at hr
  split at hr
  ·rename_i hn
   simp only[ae]at hr
   subst hr
   exact .inl (sim_box I F ho h.1 (by omega))
  ·cases hr
 ·cases h
def okLd(P:Program)(ag:Bool)(n:Nat)(x:AO)(o:Oper):Bool:=match o.op with
 | .load t y=>BG x y&&(P.underlying t).isSome&&ag==G6 P t&&n==P.cellsOf t
 |_=>false
theorem ok_ld{ag:Bool}{n:Nat}{x:AO}(h:okLd P ag n x o=true):EN P tb (.ld ag n x) o:=by
 intro cl C f a nt r hc I F hr
 unfold okLd at h
 split at h
 ·rename_i t y ho
  simp only[af,beq_iff_eq]at h
  obtain⟨⟨⟨h1,h2⟩,rfl⟩,rfl⟩:=h
  exact .inl (sim_ld I F ho h1 h2 hr)
 ·cases h
def okSt(P:Program)(n:Nat)(x z:AO)(o:Oper):Bool:=match o.op with
 | .store t y u=>BG x y&&BG z u&&(P.info? t).isSome&&n==P.cellsOf t&&decide (0<n)
 |_=>false
theorem ok_st{n:Nat}{x z:AO}(h:okSt P n x z o=true):EN P tb (.st n x z) o:=by
 intro cl C f a nt r hc I F hr
 unfold okSt at h
 split at h
 ·rename_i t y u ho
  simp only[af,beq_iff_eq,qp]at h
  obtain⟨⟨⟨⟨h1,h2⟩,h3⟩,rfl⟩,h4⟩:=h
  simp only[BC]at hr
  obtain⟨H',hs,rfl⟩:=aj.1 hr
  exact .inl (sim_st I F ho h1 h2 h3 h4 hs)
 ·cases h
def rO(x:AO)(o:Oper):Bool:=match o.op with
 | .nilCheck y=>BG x y
 |_=>false
theorem ok_nilc{x:AO}(h:rO x o=true):EN P tb (.nilc x) o:=by
 intro cl C f a nt r hc I F hr
 unfold rO at h
 split at h
 ·rename_i y ho;exact .inl (sim_nilc I F ho h hr)
 ·cases h
def okBin(op:BinOp)(x y:AO)(o:Oper):Bool:=match o.op with
 | .binOp op' _ u v _=>op==op'&&BG x u&&BG y v
 |_=>false
theorem ok_bin{op:BinOp}{x y:AO}(h:okBin op x y o=true):EN P tb (.bin op x y) o:=by
 intro cl C f a nt r hc I F hr
 unfold okBin at h
 split at h
 ·rename_i op' t u v t' ho
  simp only[af,beq_iff_eq]at h
  obtain⟨⟨rfl,h1⟩,h2⟩:=h
  exact .inl (sim_bin I F ho h1 h2 hr)
 ·cases h
def okUn(op:UnOp)(x:AO)(o:Oper):Bool:=match o.op with
 | .unOp op' _ u=>op==op'&&BG x u
 |_=>false
theorem ok_un{op:UnOp}{x:AO}(h:okUn op x o=true):EN P tb (.un op x) o:=by
 intro cl C f a nt r hc I F hr
 unfold okUn at h
 split at h
 ·rename_i op' t u ho
  simp only[af,beq_iff_eq]at h
  obtain⟨rfl,h1⟩:=h
  exact .inl (sim_un I F ho h1 hr)
 ·cases h
def okCvi(P:Program)(k:IntKind)(x:AO)(o:Oper):Bool:=match o.op with
 | .convert s d y=>BG x y&&(P.underlying s).isSome&&intk? P d==some k
 |_=>false
theorem ok_cvi{k:IntKind}{x:AO}(h:okCvi P k x o=true):EN P tb (.cvi k x) o:=by
 intro cl C f a nt r hc I F hr
 unfold okCvi at h
 split at h
 ·rename_i s d y ho
  simp only[af,beq_iff_eq]at h
  simp only[BC]at hr
  split at hr
  ·rename_i k' n hn
   simp only[ae]at hr
   subst hr
   exact .inl (sim_cvi I F ho h.1.2 (sH h.2) h.1.1 (by rw[hn];rfl))
  ·cases hr
 ·cases h
def rT(P:Program)(x:AO)(o:Oper):Bool:=match o.op with
 | .convert s d y=>BG x y&&(P.underlying s).isSome&&SB P d
 |_=>false
theorem ok_cvc{x:AO}(h:rT P x o=true):EN P tb (.cvc x) o:=by
 intro cl C f a nt r hc I F hr
 unfold rT at h
 split at h
 ·rename_i s d y ho
  simp only[af]at h
  simp only[BC]at hr
  split at hr
  ·rename_i k n hn
   simp only[ae]at hr
   subst hr
   exact .inl (sim_cvc I F ho h.1.2 (Jl h.2) h.1.1 (by rw[hn];rfl))
  ·cases hr
 ·cases h
def rP(P:Program)(t:TypeId)(x:AO)(o:Oper):Bool:=match o.op with
 | .makeInterface t' y=>t==t'&&BG x y&&(P.underlying t).isSome&& !vQ P t
 |_=>false
theorem ok_mkif{t:TypeId}{x:AO}(h:rP P t x o=true):EN P tb (.mkif t x) o:=by
 intro cl C f a nt r hc I F hr
 unfold rP at h
 split at h
 ·rename_i t' y ho
  simp only[af,beq_iff_eq,cg]at h
  obtain⟨⟨⟨rfl,h1⟩,h2⟩,h3⟩:=h
  simp only[BC,ae]at hr
  subst hr
  refine .inl (sim_mkif I F ho (fun m hm=> ?_) h2 h1)
  simp[vQ,hm]at h3
 ·cases h
def okExt(x:AO)(i:Nat)(o:Oper):Bool:=match o.op with
 | .extract y j=>BG x y&&i==j
 |_=>false
theorem ok_ext{x:AO}{i:Nat}(h:okExt x i o=true):EN P tb (.ext x i) o:=by
 intro cl C f a nt r hc I F hr
 unfold okExt at h
 split at h
 ·rename_i y j ho
  simp only[af,beq_iff_eq]at h
  obtain⟨h1,rfl⟩:=h
  simp only[BC]at hr
  split at hr
  ·rename_i vs hv
   simp only[val]at hr
   obtain⟨v,hv',rfl⟩:=aj.1 hr
   exact .inl (sim_ext I F ho h1 hv hv')
  ·cases hr
 ·cases h
def dG(o:Oper):Option (Builtin×List Operand×List TypeId):=match o.op with
 | .call c=>match c.callee with
  | .builtin b=>some (b,c.args.toList,c.argTypes.toList)
  |_=>none
 |_=>none
theorem In{b:Builtin}{l:List Operand}{ts:List TypeId}(h:dG o=some (b,l,ts)): ∃c:Call,o.op= .call c∧c.callee= .builtin b∧c.args=l.toArray∧c.argTypes=ts.toArray:=by
 unfold dG at h
 split at h
 ·rename_i c ho
  split at h
  ·rename_i b' hb
   simp only[ae,ch]at h
   obtain⟨rfl,rfl,rfl⟩:=h
   exact⟨c,ho,hb,by simp,by simp⟩
  ·cases h
 ·cases h
def okLen(P:Program)(x:AO)(o:Oper):Bool:=match dG o with
 |some (.len,[y],[t])=>BG x y&&(NC P t).isSome
 |_=>false
theorem ok_len{x:AO}(h:okLen P x o=true):EN P tb (.len x) o:=by
 intro cl C f a nt r hc I F hr
 unfold okLen at h
 split at h
 ·rename_i y t hb
  obtain⟨c,ho,hcal,ha,ht⟩:=In hb
  simp only[af]at h
  obtain⟨e,he⟩:=bl.1 h.2
  simp only[BC]at hr
  obtain⟨n,hn,rfl⟩:=aj.1 hr
  exact .inl (sim_len I F ho hcal (by rw[ht];rfl) ha h.1 hn (Fz he))
 ·cases h
def rQ(P:Program)(x:AO)(o:Oper):Bool:=match dG o with
 |some (.len,[y],[t])=>BG x y&&SB P t
 |_=>false
theorem ok_lens{x:AO}(h:rQ P x o=true):EN P tb (.lens x) o:=by
 intro cl C f a nt r hc I F hr
 unfold rQ at h
 split at h
 ·rename_i y t hb
  obtain⟨c,ho,hcal,ha,ht⟩:=In hb
  simp only[af]at h
  simp only[BC]at hr
  split at hr
  ·rename_i l hl
   simp only[ae]at hr
   subst hr
   exact .inl (sim_lens I F ho hcal (by rw[ht];rfl) ha h.1 hl (Jl h.2))
  ·cases hr
 ·cases h
def okFa(P:Program)(off:Nat)(x:AO)(o:Oper):Bool:=match o.op with
 | .fieldAddr t y i=>match(gH P t).bind (·[i]?)with
  |some fd=>BG x y&&off==fd.offset&&(P.info? fd.type).isSome&&decide (0<P.cellsOf fd.type)
  |none=>false
 |_=>false
theorem ok_fa{off:Nat}{x:AO}(h:okFa P off x o=true):EN P tb (.fa off x) o:=by
 intro cl C f a nt r hc I F hr
 unfold okFa at h
 split at h
 ·rename_i t y i ho
  split at h
  ·rename_i fd hfd
   obtain⟨fs,hs,hf⟩:=ab.1 hfd
   simp only[af,beq_iff_eq,qp]at h
   obtain⟨⟨⟨h1,rfl⟩,h2⟩,h3⟩:=h
   exact .inl (sim_fa I F ho (gG hs) hf h2 (by omega) h1 hr)
  ·cases h
 ·cases h
def okIas(P:Program)(sz:Nat)(x i:AO)(o:Oper):Bool:=match o.op with
 | .indexAddr t y j=>match NC P t with
  |some e=>BG x y&&BG i j&&(P.info? e).isSome&&sz==P.cellsOf e
  |none=>false
 |_=>false
theorem ok_ias{sz:Nat}{x i:AO}(h:okIas P sz x i o=true):EN P tb (.ias sz x i) o:=by
 intro cl C f a nt r hc I F hr
 unfold okIas at h
 split at h
 ·rename_i t y j ho
  split at h
  ·rename_i e he
   simp only[af,beq_iff_eq]at h
   obtain⟨⟨⟨h1,h2⟩,h3⟩,rfl⟩:=h
   simp only[BC]at hr
   obtain⟨n,hn,hr⟩:=ab.1 hr
   split at hr
   ·rename_i h0
    exact .inl (sim_ias I F ho (Fz he) h3 h1 h2 hn h0 hr)
   ·cases hr
  ·cases h
 ·cases h
def okIaa(P:Program)(len sz:Nat)(x i:AO)(o:Oper):Bool:=match o.op with
 | .indexAddr t y j=>match uB P t with
  |some (n,e)=>BG x y&&BG i j&&(P.info? e).isSome&&len==n&&sz==P.cellsOf e
  |none=>false
 |_=>false
theorem ok_iaa{len sz:Nat}{x i:AO}(h:okIaa P len sz x i o=true):EN P tb (.iaa len sz x i) o:=by
 intro cl C f a nt r hc I F hr
 unfold okIaa at h
 split at h
 ·rename_i t y j ho
  split at h
  ·rename_i n e he
   simp only[af,beq_iff_eq]at h
   obtain⟨⟨⟨⟨h1,h2⟩,h3⟩,rfl⟩,rfl⟩:=h
   simp only[BC]at hr
   obtain⟨m,hm,hr⟩:=ab.1 hr
   split at hr
   ·rename_i h0
    exact .inl (sim_iaa I F ho (OH he) h3 h1 h2 hm h0 hr)
   ·cases hr
  ·cases h
 ·cases h
def okIxa(P:Program)(len sz:Nat)(ag:Bool)(x i:AO)(o:Oper):Bool:=match o.op with
 | .index t y j=>match uB P t with
  |some (n,e)=>BG x y&&BG i j&&(P.underlying e).isSome&&len==n&&sz==P.cellsOf e&&ag==G6 P e
  |none=>false
 |_=>false
theorem ok_ixa{len sz:Nat}{ag:Bool}{x i:AO}(h:okIxa P len sz ag x i o=true):EN P tb (.ixa len sz ag x i) o:=by
 intro cl C f a nt r hc I F hr
 unfold okIxa at h
 split at h
 ·rename_i t y j ho
  split at h
  ·rename_i n e he
   simp only[af,beq_iff_eq]at h
   obtain⟨⟨⟨⟨⟨h1,h2⟩,h3⟩,rfl⟩,rfl⟩,rfl⟩:=h
   simp only[BC]at hr
   obtain⟨m,hm,hr⟩:=ab.1 hr
   split at hr
   ·rename_i cs hv
    split at hr
    ·rename_i h0
     simp only[val]at hr
     obtain⟨v,hv',rfl⟩:=aj.1 hr
     exact .inl (sim_ixa I F ho (OH he) h3 h1 h2 hm hv ⟨h0.1,h0.2.1⟩ h0.2.2 hv')
    ·cases hr
   ·cases hr
  ·cases h
 ·cases h
def okIxs(P:Program)(x i:AO)(o:Oper):Bool:=match o.op with
 | .index t y j=>BG x y&&BG i j&&SB P t
 |_=>false
theorem ok_ixs{x i:AO}(h:okIxs P x i o=true):EN P tb (.ixs x i) o:=by
 intro cl C f a nt r hc I F hr
 unfold okIxs at h
 split at h
 ·rename_i t y j ho
  simp only[af]at h
  obtain⟨⟨h1,h2⟩,h3⟩:=h
  simp only[BC]at hr
  obtain⟨n,hn,hr⟩:=ab.1 hr
  split at hr
  ·rename_i l hl
   split at hr
   ·rename_i h0
    obtain⟨v,hv',rfl⟩:=aj.1 hr
    exact .inl (sim_ixs I F ho (Jl h3) h1 h2 hn hl h0 hv')
   ·cases hr
  ·cases hr
 ·cases h
def okSls(P:Program)(x:AO)(lo hi:Option AO)(o:Oper):Bool:=match o.op with
 | .slice t y ylo yhi none=>BG x y&&eL lo ylo&&eL hi yhi&&SB P t
 |_=>false
theorem ok_sls{x:AO}{lo hi:Option AO}(h:okSls P x lo hi o=true):EN P tb (.sls x lo hi) o:=by
 intro cl C f a nt r hc I F hr
 unfold okSls at h
 split at h
 ·rename_i t y ylo yhi ho
  simp only[af]at h
  obtain⟨⟨⟨h1,h2⟩,h3⟩,h4⟩:=h
  simp only[BC]at hr
  split at hr
  ·rename_i l hl
   obtain⟨⟨p,q⟩,hb,rfl⟩:=aj.1 hr
   exact .inl (sim_sls I F ho (Jl h4) h1 h2 h3 hl hb)
  ·cases hr
 ·cases h
def okSll(P:Program)(sz:Nat)(x:AO)(lo hi:Option AO)(o:Oper):Bool:=match o.op with
 | .slice t y ylo yhi none=>match NC P t with
  |some e=>BG x y&&eL lo ylo&&eL hi yhi&&(P.info? e).isSome&&sz==P.cellsOf e
  |none=>false
 |_=>false
theorem ok_sll{sz:Nat}{x:AO}{lo hi:Option AO}(h:okSll P sz x lo hi o=true):EN P tb (.sll sz x lo hi) o:=by
 intro cl C f a nt r hc I F hr
 unfold okSll at h
 split at h
 ·rename_i t y ylo yhi ho
  split at h
  ·rename_i e he
   simp only[af,beq_iff_eq]at h
   obtain⟨⟨⟨⟨h1,h2⟩,h3⟩,h4⟩,rfl⟩:=h
   simp only[BC]at hr
   obtain⟨len,hl,hr⟩:=ab.1 hr
   obtain⟨⟨p,q⟩,hb,hr⟩:=ab.1 hr
   exact .inl (sim_sll I F ho (Fz he) h4 h1 h2 h3 hl hb hr)
  ·cases h
 ·cases h
def arrp?(P:Program)(t:TypeId):Option (Nat×TypeId):=match P.underlying t with
 |some (.array n e)=>some (n,e)
 |some (.pointer u)=>uB P u
 |_=>none
theorem uA{t e:TypeId}{n:Nat}(h:arrp? P t=some (n,e)):P.underlying t=some (.array n e)∨ ∃u,P.underlying t=some (.pointer u)∧P.underlying u=some (.array n e):=by
 unfold arrp? at h
 split at h
 ·rename_i n' e' hu;rw[hu];simp at h;left;rw[h.1,h.2]
 ·rename_i u hu;exact .inr ⟨u,hu,OH h⟩
 ·cases h
def okSla(P:Program)(n sz:Nat)(x:AO)(lo hi:Option AO)(o:Oper):Bool:=match o.op with
 | .slice t y ylo yhi none=>match arrp? P t with
  |some (m,e)=>BG x y&&eL lo ylo&&eL hi yhi&&(P.info? e).isSome&&n==m&&sz==P.cellsOf e&&decide (0<sz)
  |none=>false
 |_=>false
theorem ok_sla{n sz:Nat}{x:AO}{lo hi:Option AO}(h:okSla P n sz x lo hi o=true):EN P tb (.sla n sz x lo hi) o:=by
 intro cl C f a nt r hc I F hr
 unfold okSla at h
 split at h
 ·rename_i t y ylo yhi ho
  split at h
  ·rename_i m e he
   simp only[af,beq_iff_eq,qp]at h
   obtain⟨⟨⟨⟨⟨⟨h1,h2⟩,h3⟩,h4⟩,rfl⟩,rfl⟩,h5⟩:=h
   simp only[BC]at hr
   obtain⟨⟨p,q⟩,hb,hr⟩:=ab.1 hr
   exact .inl (sim_sla I F ho h4 h5 (uA he) h1 h2 h3 hb hr)
  ·cases h
 ·cases h
def okApp(P:Program)(t0 sz bytes:Nat)(s x:AO)(o:Oper):Bool:=match dG o with
 |some (.append,[y1,y2],[t,u])=>BG s y1&&BG x y2&&((NC P u).isSome||SB P u)&&match NC P t with
  |some e=>sz==P.cellsOf e&&decide (0<sz)&&match P.info? e with
   |some i=>bytes==i.bytes&&decide (0<bytes)&&match i.zero with
    |some z=>z.cells.size==sz&&fv t0 e
    |none=>false
   |none=>false
  |none=>false
 |_=>false
theorem ok_app{t0 sz bytes:Nat}{s x:AO}(h:okApp P t0 sz bytes s x o=true):EN P tb (.app t0 sz bytes s x) o:=by
 intro cl C f a nt r hc I F hr
 unfold okApp at h
 split at h
 ·rename_i y1 y2 t u hb
  obtain⟨c,ho,hcal,ha,ht⟩:=In hb
  simp only[af,gq]at h
  obtain⟨⟨⟨h1,h2⟩,h3⟩,h4⟩:=h
  split at h4
  ·rename_i e he
   simp only[af,beq_iff_eq,qp]at h4
   obtain⟨⟨rfl,h5⟩,h6⟩:=h4
   split at h6
   ·rename_i i hi
    simp only[af,beq_iff_eq,qp]at h6
    obtain⟨⟨rfl,h7⟩,h8⟩:=h6
    split at h8
    ·rename_i z hz
     rw[af]at h8
     obtain rfl:=cv h8.2
     replace h8:=h8.1
     simp only[beq_iff_eq]at h8
     simp only[BC]at hr
     obtain⟨new,hn,hr⟩:=ab.1 hr
     refine .inl (sim_app I F ho hcal (by rw[ha]) (by rw[ht]) (Fz he) ?_ hi hz h8 h5 h7 h1 h2 hn hr)
     rcases h3 with h3|h3
     ·obtain⟨e',he'⟩:=bl.1 h3
      exact⟨_,Fz he',fun k hk=>(by cases hk)⟩
     ·exact⟨_,Jl h3,fun k hk=>(by cases hk)⟩
    ·cases h8
   ·cases h6
  ·cases h4
 ·cases h
def okCpy(P:Program)(sz:Nat)(d x:AO)(o:Oper):Bool:=match dG o with
 |some (.copy,[y1,y2],t::_)=>BG d y1&&BG x y2&&match NC P t with
  |some e=>sz==P.cellsOf e&&decide (0<sz)&&(P.info? e).isSome
  |none=>false
 |_=>false
theorem ok_cpy{sz:Nat}{d x:AO}(h:okCpy P sz d x o=true):EN P tb (.cpy sz d x) o:=by
 intro cl C f a nt r hc I F hr
 unfold okCpy at h
 split at h
 ·rename_i y1 y2 t ts hb
  obtain⟨c,ho,hcal,ha,ht⟩:=In hb
  simp only[af]at h
  obtain⟨⟨h1,h2⟩,h4⟩:=h
  split at h4
  ·rename_i e he
   simp only[af,beq_iff_eq,qp]at h4
   obtain⟨⟨rfl,h5⟩,h6⟩:=h4
   simp only[BC]at hr
   obtain⟨src,hn,hr⟩:=ab.1 hr
   exact .inl (sim_cpy I F ho hcal ha ht (by simp) (Fz he) h6 h5 h1 h2 hn hr)
  ·cases h4
 ·cases h
theorem ok_die:EN P tb .die o:=by
 intro cl C f a nt r hc I F hr
 simp[BC]at hr
def rV(g:Nat)(xs:List AO)(o:Oper):Bool:=match o.op with
 | .call c=>match c.callee with
  | .value (.func g')=>g==g'&&Zh xs c.args.toList
  |_=>false
 |_=>false
theorem ok_call{g:Nat}{xs:List AO}(h:rV g xs o=true):EN P tb (.call g xs) o:=by
 intro cl C f a nt r hc I F hr
 unfold rV at h
 split at h
 ·rename_i c ho
  split at h
  ·rename_i g' hcal
   simp only[af,beq_iff_eq]at h
   obtain⟨rfl,h1⟩:=h
   simp only[BC]at hr
   have:=hc g C _ _ r I (Vs I F h1) hr
   have e:(execOp a.eval o).run P C.w=(callFunc g (c.args.toList.map a.eval).toArray).run P C.w:=by
    simp only[execOp,ho,resolve,hcal,Act.eval,Deferred.ofValue,invoke,Sem.run_bind,Sem.run_pure,Result.andThen_ok]
    congr 2
    rw[←jk]
    simp
   rw[e]
   exact this
  ·cases h
 ·cases h
def iW(x:AO)(xs:List AO)(o:Oper):Bool:=match o.op with
 | .call c=>match c.callee with
  | .value y=>BG x y&&Zh xs c.args.toList
  |_=>false
 |_=>false
theorem ok_callv{x:AO}{xs:List AO}(h:iW x xs o=true):EN P tb (.callv x xs) o:=by
 intro cl C f a nt r hc I F hr
 unfold iW at h
 split at h
 ·rename_i c ho
  split at h
  ·rename_i y hcal
   simp only[af]at h
   obtain⟨h1,h2⟩:=h
   simp only[BC]at hr
   split at hr
   ·rename_i g first captured hv
    have rx:=Be I F h1
    rw[hv]at rx
    obtain⟨p,q,e,r1,r2⟩:=rx
    have:=hc g C _ _ r I (ou (ou r1 (Vs I F h2)) r2) hr
    have e':(execOp a.eval o).run P C.w=(callFunc g (p++c.args.toList.map a.eval++q).toArray).run P C.w:=by
     simp only[execOp,ho,resolve,hcal,e,Deferred.ofValue,invoke,Sem.run_bind,Sem.run_pure,Result.andThen_ok]
     congr 2
     simp
    rw[e']
    exact this
   ·cases hr
  ·cases h
 ·cases h
def okEq(P:Program)(neg:Bool)(ek:EK)(x y:AO)(o:Oper):Bool:=match o.op with
 | .binOp op t u v _=>decide (op=if neg then .neq else .eql)&&okEK P ek t&&BG x u&&BG y v
 |_=>false
theorem ok_eq{neg:Bool}{ek:EK}{x y:AO}(h:okEq P neg ek x y o=true):EN P tb (.eq neg ek x y) o:=by
 intro cl C f a nt r hc I F hr
 unfold okEq at h
 split at h
 ·rename_i op t u v t' ho
  simp only[af,qp]at h
  obtain⟨⟨⟨h0,h1⟩,h2⟩,h3⟩:=h
  simp only[BC,val]at hr
  obtain⟨b,hb,rfl⟩:=aj.1 hr
  obtain⟨e,he,rfl⟩:=aj.1 hb
  exact .inl (sim_eq I F ho h0 h1 h2 h3 he)
 ·cases h
def okBld(P:Program)(zero:List AV)(ps:List (Nat×Nat×AO))(o:Oper):Bool:=match o.op with
 | .build t ys=>match plc? P t,(P.info? t).bind (·.zero)with
  |some place,some z=>QN zero z.cells.toList&&Mh place ps ys.toList
  |_,_=>false
 |_=>false
theorem ok_bld{zero:List AV}{ps:List (Nat×Nat×AO)}(h:okBld P zero ps o=true):EN P tb (.bld zero ps) o:=by
 intro cl C f a nt r hc I F hr
 unfold okBld at h
 split at h
 ·rename_i t ys ho
  split at h
  ·rename_i place z hp hz
   obtain⟨i,hi,hz⟩:=ab.1 hz
   simp only[af]at h
   simp only[BC,val]at hr
   obtain⟨v,hv,rfl⟩:=aj.1 hr
   obtain⟨cs,hcs,rfl⟩:=aj.1 hv
   exact .inl (sim_bld I F ho hp hi hz h.1 h.2 hcs)
  ·cases h
 ·cases h
def eO(P:Program)(sz:Nat)(zero:List (List AV))(ps:List (Nat×AO))(o:Oper):Bool:=match o.op with
 | .buildSlice t len ys=>match NC P t with
  |some e=>match(P.info? e).bind (·.zero)with
   |some z=>sz==P.cellsOf e&&decide (z.cells.size=P.cellsOf e)&&decide (0<P.cellsOf e)&&decide (len*P.cellsOf e≤2^24)&&decide (zero.length=len)&&zero.all (QN · z.cells.toList)&&Mi sz ps ys.toList
   |none=>false
  |none=>false
 |_=>false
def rR(P:Program)(t0:Nat)(o:Oper):Bool:=match o.op with
 | .buildSlice t _ _=>match NC P t with
  |some e=>fv t0 e
  |none=>false
 |_=>false
theorem ok_bls{t0 sz:Nat}{zero:List (List AV)}{ps:List (Nat×AO)}(h:(eO P sz zero ps o&&rR P t0 o)=true):EN P tb (.bls t0 sz zero ps) o:=by
 intro cl C f a nt r hc I F hr
 rw[af]at h
 obtain⟨h,hl⟩:=h
 unfold eO at h
 unfold rR at hl
 split at h
 ·rename_i t len ys ho
  split at h
  ·rename_i e he
   split at h
   ·rename_i z hz
    obtain⟨i,hi,hz2⟩:=ab.1 hz
    simp only[af,beq_iff_eq,qp]at h
    obtain⟨⟨⟨⟨⟨⟨rfl,h1⟩,h2⟩,h3⟩,h4⟩,h5⟩,h6⟩:=h
    simp only[BC]at hr
    obtain⟨els,hv,rfl⟩:=aj.1 hr
    simp only[ho,he]at hl
    obtain rfl:=cv hl
    exact .inl (sim_bls I F ho (Fz he) hi hz2 h1 h2 h3 h4 h5 h6 hv)
   ·cases h
  ·cases h
 ·cases h
theorem ok_bll{sz:Nat}{zero:List (List AV)}{ps:List (Nat×AO)}(h:eO P sz zero ps o=true):EN P tb (.bll sz zero ps) o:=by
 intro cl C f a nt r hc I F hr
 unfold eO at h
 split at h
 ·rename_i t len ys ho
  split at h
  ·rename_i e he
   split at h
   ·rename_i z hz
    obtain⟨i,hi,hz⟩:=ab.1 hz
    simp only[af,beq_iff_eq,qp]at h
    obtain⟨⟨⟨⟨⟨⟨rfl,h1⟩,h2⟩,h3⟩,h4⟩,h5⟩,h6⟩:=h
    simp only[BC,val]at hr
    obtain⟨u,hu,rfl⟩:=aj.1 hr
    obtain⟨els,hv,rfl⟩:=aj.1 hu
    exact .inl (sim_bll I F ho (Fz he) hi hz h1 h2 h3 h4 h5 h6 hv)
   ·cases h
  ·cases h
 ·cases h
def okS2a(P:Program)(n sz:Nat)(x:AO)(o:Oper):Bool:=match o.op with
 | .sliceToArrayPointer t y=>match uB P t with
  |some (m,e)=>BG x y&&n==m&&sz==P.cellsOf e&&decide (0<n)
  |none=>false
 |_=>false
theorem ok_s2a{n sz:Nat}{x:AO}(h:okS2a P n sz x o=true):EN P tb (.s2a n sz x) o:=by
 intro cl C f a nt r hc I F hr
 unfold okS2a at h
 split at h
 ·rename_i t y ho
  split at h
  ·rename_i m e he
   simp only[af,beq_iff_eq,qp]at h
   obtain⟨⟨⟨h1,rfl⟩,rfl⟩,h2⟩:=h
   exact .inl (sim_s2a I F ho (OH he) h2 h1 hr)
  ·cases h
 ·cases h
def okMnx(mx:Bool)(x y:AO)(o:Oper):Bool:=match dG o with
 |some (.max,[u,v],_)=>mx&&BG x u&&BG y v
 |some (.min,[u,v],_)=> !mx&&BG x u&&BG y v
 |_=>false
theorem ok_mnx{mx:Bool}{x y:AO}(h:okMnx mx x y o=true):EN P tb (.mnx mx x y) o:=by
 intro cl C f a nt r hc I F hr
 simp only[BC]at hr
 split at hr
 ·rename_i k p k' q e1 e2
  split at hr
  ·rename_i hk
   subst hk
   simp only[ae]at hr
   subst hr
   unfold okMnx at h
   split at h
   ·rename_i u v ts hb
    obtain⟨c,ho,hcal,ha,ht⟩:=In hb
    simp only[af]at h
    obtain⟨⟨rfl,h1⟩,h2⟩:=h
    exact .inl (uY (mx:=true) I F ho hcal (by rw[ha]) h1 h2 e1 e2)
   ·rename_i u v ts hb
    obtain⟨c,ho,hcal,ha,ht⟩:=In hb
    simp only[af,cg]at h
    obtain⟨⟨rfl,h1⟩,h2⟩:=h
    exact .inl (uY (mx:=false) I F ho hcal (by rw[ha]) h1 h2 e1 e2)
   ·cases h
  ·cases hr
 ·cases hr
def rU(P:Program)(x:AO)(o:Oper):Bool:=match dG o with
 |some (.cap,[y],[t])=>BG x y&&(NC P t).isSome
 |_=>false
theorem ok_capn{x:AO}(h:rU P x o=true):EN P tb (.capn x) o:=by
 intro cl C f a nt r hc I F hr
 unfold rU at h
 split at h
 ·rename_i y t hb
  obtain⟨c,ho,hcal,ha,ht⟩:=In hb
  simp only[af]at h
  obtain⟨e,he⟩:=bl.1 h.2
  simp only[BC]at hr
  split at hr
  ·rename_i hn
   cases hr
   exact .inl (sim_capn I F ho hcal (by rw[ht];rfl) ha h.1 hn (Fz he))
  ·cases hr
 ·cases h
def okMks(P:Program)(t0 sz bytes:Nat)(zero:List AV)(x1 x2:AO)(o:Oper):Bool:=match o.op with
 | .makeSlice t y1 y2=>match NC P t with
  |some e=>match P.info? e with
   |some i=>match i.zero with
    |some z=>BG x1 y1&&BG x2 y2&&sz==i.size&&bytes==i.bytes&&QN zero z.cells.toList&&decide (i.size=z.cells.size)&&decide (0<i.size)&&decide (0<i.bytes)&&fv t0 e
    |none=>false
   |none=>false
  |none=>false
 |_=>false
theorem ok_mks{t0 sz bytes:Nat}{zero:List AV}{x1 x2:AO}(h:okMks P t0 sz bytes zero x1 x2 o=true):EN P tb (.mks t0 sz bytes zero x1 x2) o:=by
 intro cl C f a nt r hc I F hr
 unfold okMks at h
 split at h
 ·rename_i t y1 y2 ho
  split at h
  ·rename_i e he
   split at h
   ·rename_i i hi
    split at h
    ·rename_i z hz
     simp only[af,beq_iff_eq,qp]at h
     obtain⟨⟨⟨⟨⟨⟨⟨⟨h1,h2⟩,rfl⟩,rfl⟩,h5⟩,h6⟩,h7⟩,h8⟩,hl⟩:=h
     obtain rfl:=cv hl
     simp only[BC]at hr
     obtain⟨l,hl,hr⟩:=ab.1 hr
     obtain⟨c,hcc,hr⟩:=ab.1 hr
     split at hr
     ·rename_i hcond
      cases hr
      refine .inl (sim_mks I F ho (Fz he) hi hz h5 h6 h7 h1 h2 hl hcc hcond ?_)
      have h9:=hcond.2.2
      unfold Bs at h9
      have h10:c≤c*i.bytes:=by
       rcases Int.lt_or_le c 0 with hneg|hpos
       ·have:=hcond.1;have:=hcond.2.1;omega
       ·have:c*1≤c*i.bytes:=Int.mul_le_mul_of_nonneg_left (by omega) hpos
        omega
      omega
     ·cases hr
    ·cases h
   ·cases h
  ·cases h
 ·cases h
def okCvb(P:Program)(t0:Nat)(x:AO)(o:Oper):Bool:=match o.op with
 | .convert s d y=>SB P s&&(match NC P d with
  |some e=>(match P.underlying e with|some (.int .u8)=>fv t0 e|_=>false)
  |none=>false)&&BG x y
 |_=>false
def okCvs(P:Program)(x:AO)(o:Oper):Bool:=match o.op with
 | .convert s d y=>SB P d&&(match NC P s with
  |some e=>(match P.underlying e with|some (.int .u8)=>true|_=>false)
  |none=>false)&&BG x y
 |_=>false
theorem ok_cvs{x:AO}(h:okCvs P x o=true):EN P tb (.cvs x) o:=by
 intro cl C f a nt r hc I F hr
 unfold okCvs at h
 split at h
 ·rename_i s d y ho
  simp only[af]at h
  obtain⟨⟨h1,h2⟩,h3⟩:=h
  split at h2
  ·rename_i e he
   split at h2
   ·rename_i hu
    simp only[BC,val]at hr
    obtain⟨v,hv,rfl⟩:=aj.1 hr
    obtain⟨l,hl,rfl⟩:=aj.1 hv
    obtain⟨els,he1,hl⟩:=ab.1 hl
    exact .inl (sim_cvs I F ho (Fz he) hu (Jl h1) h3 he1 hl)
   ·cases h2
  ·cases h2
 ·cases h
def okRng(P:Program)(x:AO)(o:Oper):Bool:=match o.op with
 | .range t y=>SB P t&&BG x y
 |_=>false
theorem ok_rng{x:AO}(h:okRng P x o=true):EN P tb (.rng x) o:=by
 intro cl C f a nt r hc I F hr
 unfold okRng at h
 split at h
 ·rename_i t y ho
  simp only[af]at h
  simp only[BC]at hr
  split at hr
  ·rename_i l hl
   cases hr
   exact .inl (sim_rng I F ho (Jl h.1) h.2 hl)
  ·cases hr
 ·cases h
def okNxt(x:AO)(o:Oper):Bool:=match o.op with
 | .next y true=>BG x y
 |_=>false
theorem ok_nxt{x:AO}(h:okNxt x o=true):EN P tb (.nxt x) o:=by
 intro cl C f a nt r hc I F hr
 unfold okNxt at h
 split at h
 ·rename_i y ho
  simp only[BC]at hr
  split at hr
  ·rename_i id off hl
   obtain⟨it,hi,hr2⟩:=ab.1 hr
   by_cases h0:off=0
   ·rw[qn h0]at hr2
    subst h0
    exact .inl (sim_nxt (id:=id) (l:=it.1) (pos:=it.2) I F ho h hl hi hr2)
   ·rw[qo h0]at hr2;cases hr2
  ·cases hr
 ·cases h
def xV(P:Program)(t:TypeId):Option TypeId:=match P.underlying t with
 |some (.pointer u)=>some u
 |_=>none
theorem RK{t u:TypeId}(h:xV P t=some u):P.underlying t=some (.pointer u):=by
 unfold xV at h
 split at h
 ·rename_i e hu;rw[hu];simp at h;rw[h]
 ·cases h
def vO(P:Program)(t:TypeId):Bool:=match P.underlying t with
 |some .unsafePointer=>true
 |_=>false
theorem Zu{t:TypeId}(h:vO P t=true):P.underlying t=some .unsafePointer:=by
 unfold vO at h
 split at h
 ·assumption
 ·cases h
def okCvp(P:Program)(x:AO)(o:Oper):Bool:=match o.op with
 | .convert s d y=>vO P d&&(match(xV P s).bind P.info? with
  |some j=> !(fv j.size 0)
  |none=>false)&&BG x y
 |_=>false
theorem ok_cvp{x:AO}(h:okCvp P x o=true):EN P tb (.cvp x) o:=by
 intro cl C f a nt r hc I F hr
 unfold okCvp at h
 split at h
 ·rename_i s d y ho
  simp only[af]at h
  obtain⟨⟨h1,h2⟩,h3⟩:=h
  split at h2
  ·rename_i j hj
   obtain⟨t,ht,hi⟩:=ab.1 hj
   refine .inl (sim_cvp I F ho (RK ht) (Zu h1) hi (fun e=> ?_) h3 hr)
   rw[e]at h2;simp[lu]at h2
  ·cases h2
 ·cases h
def okCvu(P:Program)(t n:Nat)(x:AO)(o:Oper):Bool:=match o.op with
 | .convert s d y=>vO P s&&(match xV P d with
  |some u=>(P.info? u).isSome&&liesAt P P.depth t (n/P.cellsOf t) 0 u 1
  |none=>false)&&BG x y
 |_=>false
theorem ok_cvu{t n:Nat}{x:AO}(h:okCvu P t n x o=true):EN P tb (.cvu t n x) o:=by
 intro cl C f a nt r hc I F hr
 unfold okCvu at h
 split at h
 ·rename_i s d y ho
  simp only[af]at h
  obtain⟨⟨h1,h2⟩,h3⟩:=h
  split at h2
  ·rename_i u hu
   simp only[af]at h2
   obtain⟨j,hj⟩:=bl.1 h2.1
   exact .inl (sim_cvu I F ho (Zu h1) (RK hu) hj h2.2 h3 hr)
  ·cases h2
 ·cases h
def okEqp(P:Program)(neg:Bool)(x y:AO)(o:Oper):Bool:=match o.op with
 | .binOp op t u v _=>decide (op=if neg then .neq else .eql)&&((xV P t).bind P.info?).isSome&&BG x u&&BG y v
 |_=>false
theorem ok_eqp{neg:Bool}{x y:AO}(h:okEqp P neg x y o=true):EN P tb (.eqp neg x y) o:=by
 intro cl C f a nt r hc I F hr
 unfold okEqp at h
 split at h
 ·rename_i op t u v t' ho
  simp only[af,qp]at h
  obtain⟨⟨⟨h0,h1⟩,h2⟩,h3⟩:=h
  obtain⟨j,hj⟩:=bl.1 h1
  obtain⟨e,he,hi⟩:=ab.1 hj
  exact .inl (sim_eqp I F ho h0 (RK he) hi h2 h3 hr)
 ·cases h
def rS(P:Program)(neg:Bool)(x:AO)(o:Oper):Bool:=match o.op with
 | .binOp op t u (.const .nilIface) _=>(match P.underlying t with
  |some (.interface _)=>true
  |_=>false)&&decide (op=if neg then .neq else .eql)&&BG x u
 |_=>false
theorem ok_isni{neg:Bool}{x:AO}(h:rS P neg x o=true):EN P tb (.isni neg x) o:=by
 intro cl C f a nt r hc I F hr
 unfold rS at h
 split at h
 ·rename_i op t u t' ho
  simp only[af,qp]at h
  obtain⟨⟨h0,h1⟩,h2⟩:=h
  split at h0
  ·rename_i ms hu
   exact .inl (sim_isni I F ho h1 hu h2 hr)
  ·cases h0
 ·cases h
def okUsd(x:AO)(o:Oper):Bool:=match dG o with
 |some (.unsafeSliceData,[y],_)=>BG x y
 |_=>false
theorem ok_usd{x:AO}(h:okUsd x o=true):EN P tb (.usd x) o:=by
 intro cl C f a nt r hc I F hr
 unfold okUsd at h
 split at h
 ·rename_i y ts hb
  obtain⟨c,ho,hcal,ha,ht⟩:=In hb
  exact .inl (sim_usd I F ho hcal (by rw[ha]) h hr)
 ·cases h
def okUst(P:Program)(t:Nat)(x n:AO)(o:Oper):Bool:=match dG o with
 |some (.unsafeString,[y,z],[pt,_])=>(match xV P pt with
  |some u=>fv u t&&fv (P.cellsOf t) 1
  |none=>false)&&BG x y&&BG n z
 |_=>false
theorem ok_ust{t:Nat}{x n:AO}(h:okUst P t x n o=true):EN P tb (.ust t x n) o:=by
 intro cl C f a nt r hc I F hr
 unfold okUst at h
 split at h
 ·rename_i y z pt it hb
  obtain⟨c,ho,hcal,ha,hty⟩:=In hb
  simp only[af]at h
  obtain⟨⟨h1,h2⟩,h3⟩:=h
  split at h1
  ·rename_i u hu
   simp only[af]at h1
   obtain rfl:=cv h1.1
   exact .inl (sim_ust I F ho hcal (by rw[ha]) (by rw[hty]) (RK hu) (cv h1.2) h2 h3 hr)
  ·cases h1
 ·cases h
def okOp(P:Program)(ao:HB)(o:Oper):Bool:=
 match ao with
 | .mv x=>okMv P x o
 | .pick x y z=>rN x y z o
 | .alloc t z=>iX P t z o
 | .box t n x=>okBox t n x o
 | .ld ag n x=>okLd P ag n x o
 | .st n x z=>okSt P n x z o
 | .nilc x=>rO x o
 | .bin op x y=>okBin op x y o
 | .un op x=>okUn op x o
 | .cvi k x=>okCvi P k x o
 | .cvc x=>rT P x o
 | .mkif t x=>rP P t x o
 | .ext x i=>okExt x i o
 | .len x=>okLen P x o
 | .lens x=>rQ P x o
 | .fa off x=>okFa P off x o
 | .ias sz x i=>okIas P sz x i o
 | .iaa len sz x i=>okIaa P len sz x i o
 | .ixa len sz ag x i=>okIxa P len sz ag x i o
 | .ixs x i=>okIxs P x i o
 | .sls x lo hi=>okSls P x lo hi o
 | .sll sz x lo hi=>okSll P sz x lo hi o
 | .sla n sz x lo hi=>okSla P n sz x lo hi o
 | .app t sz bytes s x=>okApp P t sz bytes s x o
 | .call g xs=>rV g xs o
 | .callv x xs=>iW x xs o
 | .eq neg ek x y=>okEq P neg ek x y o
 | .bld z ps=>okBld P z ps o
 | .bls t sz z ps=>eO P sz z ps o&&rR P t o
 | .bll sz z ps=>eO P sz z ps o
 | .s2a n sz x=>okS2a P n sz x o
 | .mnx mx x y=>okMnx mx x y o
 | .cpy sz d x=>okCpy P sz d x o
 | .die=>true
 | .mks t sz b z l c=>okMks P t sz b z l c o
 | .cvs x=>okCvs P x o
 | .rng x=>okRng P x o
 | .nxt x=>okNxt x o
 | .cvp x=>okCvp P x o
 | .cvu t n x=>okCvu P t n x o
 | .eqp neg x y=>okEqp P neg x y o
 | .isni neg x=>rS P neg x o
 | .capn x=>rU P x o
 | .usd x=>okUsd x o
 | .ust t x n=>okUst P t x n o
 |_=>false
theorem yF(ao:HB)(o:Oper)(h:okOp P ao o=true):EN P tb ao o:=by
 cases ao<;>try simp only[okOp]at h
 case mv=>exact ok_mv h
 case pick=>exact ok_pick h
 case alloc=>exact ok_alloc h
 case box=>exact ok_box h
 case ld=>exact ok_ld h
 case st=>exact ok_st h
 case nilc=>exact ok_nilc h
 case bin=>exact ok_bin h
 case un=>exact ok_un h
 case cvi=>exact ok_cvi h
 case cvc=>exact ok_cvc h
 case mkif=>exact ok_mkif h
 case ext=>exact ok_ext h
 case len=>exact ok_len h
 case lens=>exact ok_lens h
 case fa=>exact ok_fa h
 case ias=>exact ok_ias h
 case iaa=>exact ok_iaa h
 case ixa=>exact ok_ixa h
 case ixs=>exact ok_ixs h
 case sls=>exact ok_sls h
 case sll=>exact ok_sll h
 case sla=>exact ok_sla h
 case app=>exact ok_app h
 case call=>exact ok_call h
 case callv=>exact ok_callv h
 case eq=>exact ok_eq h
 case bld=>exact ok_bld h
 case bls=>exact ok_bls h
 case bll=>exact ok_bll h
 case s2a=>exact ok_s2a h
 case mnx=>exact ok_mnx h
 case cpy=>exact ok_cpy h
 case die=>exact ok_die
 case mks=>exact ok_mks h
 case cvs=>exact ok_cvs h
 case rng=>exact ok_rng h
 case nxt=>exact ok_nxt h
 case cvp=>exact ok_cvp h
 case cvu=>exact ok_cvu h
 case eqp=>exact ok_eqp h
 case isni=>exact ok_isni h
 case capn=>exact ok_capn h
 case usd=>exact ok_usd h
 case ust=>exact ok_ust h
 all_goals cases h
end
end
section
def XU(rs:Array Oper):Option (Nat×Bool)→Option (Nat×Bool)→Bool
 |none,none=>true
 |some (t,w),some (j,w')=>w==w'&&(rs[j]?).bind (·.dst)==some t
 |_,_=>false
def Zg(T:HB→Oper→Bool)(nt:Nat)(rs:Array Oper)(ao:Br)(o:Oper):Bool:=
 decide (ao.d=o.dst)&&(match o.dst with|some t=>decide (t<nt)|none=>true)&&XU rs ao.g o.guard&&T ao.o o
def GO(T:HB→Oper→Bool)(nt:Nat)(rs:Array Oper):List Br→List Oper→Bool
 |[],[]=>true
 |x::l,o::r=>Zg T nt rs x o&&GO T nt rs l r
 |_,_=>false
section
variable{T:HB→Oper→Bool}{P:Program}{tb:Di}{cl:Nat→List AV→Az→Mb}{nt:Nat}{rs:Array Oper}
theorem Yg{C:DR}{f:Fr}{a:Act}(F:BO C f a nt){g:Option (Nat×Bool)}{o:Oper}(h:XU rs g o.guard=true){b:Bool}(hw:wanted f g=some b):
  mm o (yielded rs a.tmps)=b:=by
 unfold XU at h
 split at h
 ·rename_i hg
  simp only[wanted,ae]at hw
  subst hw
  simp[mm,hg]
 ·rename_i t w j w' hg
  simp only[af,beq_iff_eq]at h
  obtain⟨rfl,hj⟩:=h
  simp only[wanted]at hw
  split at hw
  ·rename_i x hx
   simp only[ae]at hw
   subst hw
   have r:=F.rep t
   rw[hx]at r
   have r':a.tmps.getD t undef= .bool x:=r
   have hs:a.tmps[t]? =some (.bool x):=by
    rw[dh]at r'
    cases ht:a.tmps[t]? with
    |none=>rw[ht]at r';simp[undef]at r'
    |some v=>rw[ht]at r';simpa using r'
   simp only[mm,hg,yielded,hj,aa,hs]
   cases x<;>cases w<;>rfl
  ·rename_i hx
   simp only[ae]at hw
   subst hw
   have r:=F.rep t
   rw[hx]at r
   obtain⟨vs,r',hv⟩:=r
   have hv':vs=[]:=hv
   subst hv'
   rw[dh]at r'
   simp only[mm,hg,yielded,hj,aa]
   cases ht:a.tmps[t]? with
   |none=>rfl
   |some v=>
    rw[ht]at r'
    simp only[iq]at r'
    subst r'
    rfl
  ·cases hw
 ·cases h
theorem W3{ao:Br}{o:Oper}(h:Zg T nt rs ao o=true):ao.d=o.dst∧(∀t,o.dst=some t→t<nt)∧XU rs ao.g o.guard=true∧T ao.o o=true:=by
 simp only[Zg,af,qp]at h
 obtain⟨⟨⟨h1,h2⟩,h3⟩,h4⟩:=h
 refine⟨h1,fun t ht=> ?_,h3,h4⟩
 rw[ht]at h2
 simpa using h2
theorem yC(hT: ∀ao o,T ao o=true→EN P tb ao o)(hcl:Fh P tb fun g args h=>BK tb cl h g args){Q:Exit→Act→World→Prop}:
  ∀(l:List Br) (os:List Oper),GO T nt rs l os=true→ ∀{C:DR} {f:Fr} {a:Act},Inv tb C→BO C f a nt→ ∀{f':Fr} {h':Az},ops tb cl l f C.H=some (f',h')→
   (∀(D:DR) (a':Act),LH C D→Inv tb D→D.H=h'→BO D f' a' nt→Q .normal a' D.w)→wpList P rs Q os a C.w:=by
 intro l
 induction l with
 |nil=>
  intro os h C f a I F f' h' e k
  cases os with
  |cons o os=>simp[GO]at h
  |nil=>
   simp only[ops,ae,ch]at e
   obtain⟨rfl,rfl⟩:=e
   exact k C a (lf C) I rfl F
 |cons ao l ih=>
  intro os h C f a I F f' h' e k
  cases os with
  |nil=>simp[GO]at h
  |cons o os=>
   simp only[GO,af]at h
   obtain⟨h1,h2⟩:=h
   obtain⟨g1,g2,g3,g4⟩:=W3 h1
   simp only[ops]at e
   obtain⟨b,hb,e⟩:=ab.1 e
   have hw:=Yg F g3 hb
   simp only[wpList,hw]
   cases b with
   |true=>
    simp only[qt]at e ⊢
    obtain⟨p,hp,e⟩:=ab.1 e
    refine .inl (Wn (hT _ _ g4 hcl I F hp) fun v D X ID hH hr=> ?_)
    rw[←g1]
    refine ih os h2 ID (F.put X (fun t ht=>g2 t (g1▸ht)) hr) (by rw[hH];exact e) fun D' a' X'=>k D' a' (X.trans X')
   |false=>
    simp only[au,qu]at e ⊢
    rw[←g1]
    exact ih os h2 I (F.put (lf C) (fun t ht=>g2 t (g1▸ht)) (x:= .tup []) ⟨[],rfl,rfl⟩) e k
theorem xJ(hT: ∀ao o,T ao o=true→EN P tb ao o)(hcl:Fh P tb fun g args h=>BK tb cl h g args){Q:Exit→Act→World→Prop}{l:List Br}{id:Nat}
  (h:GO T nt rs l rs.toList=true) {C:DR} {f:Fr} {a:Act} (I:Inv tb C) (F:BO C f a nt) {f':Fr} {h':Az} (e:ops tb cl l f C.H=some (f',h'))
  (k: ∀(D:DR) (a':Act),LH C D→Inv tb D→D.H=h'→BO D f' a' nt→Q .normal a' D.w):(Code.region id rs false).wp P Q a C.w:=
 wp_region_list (yC hT hcl l _ h I F e k)
def GK:AO→List Nat
 | .t n=>[n]
 |_=>[]
def ooT:Option AO→List Nat
 |some x=>GK x
 |none=>[]
def opT:HB→List Nat
 | .mv x=>GK x
 | .pick c a b=>GK c++GK a++GK b
 | .alloc _ _=>[]
 | .box _ _ x=>GK x
 | .bld _ ps=>ps.flatMap fun p=>GK p.2.2
 | .bls _ _ _ ps=>ps.flatMap fun p=>GK p.2
 | .bll _ _ ps=>ps.flatMap fun p=>GK p.2
 | .ld _ _ a=>GK a
 | .st _ a x=>GK a++GK x
 | .nilc x=>GK x
 | .bin _ x y=>GK x++GK y
 | .eq _ _ x y=>GK x++GK y
 | .un _ x=>GK x
 | .cvi _ x=>GK x
 | .cvid x=>GK x
 | .cvb _ x=>GK x
 | .cvr x=>GK x
 | .cvs x=>GK x
 | .cvc x=>GK x
 | .mkf _ a b=>a.flatMap GK++b.flatMap GK
 | .mkm=>[]
 | .mks _ _ _ _ l c=>GK l++GK c
 | .sls x lo hi=>GK x++ooT lo++ooT hi
 | .sll _ x lo hi=>GK x++ooT lo++ooT hi
 | .sla _ _ x lo hi=>GK x++ooT lo++ooT hi
 | .fa _ x=>GK x
 | .fld _ _ _ x=>GK x
 | .ias _ x i=>GK x++GK i
 | .iaa _ _ x i=>GK x++GK i
 | .ixa _ _ _ x i=>GK x++GK i
 | .ixs x i=>GK x++GK i
 | .lkp _ _ _ m k=>GK m++GK k
 | .mup _ m k v=>GK m++GK k++GK v
 | .rng x=>GK x
 | .nxt x=>GK x
 | .ext x _=>GK x
 | .s2a _ _ x=>GK x
 | .mkif _ x=>GK x
 | .call _ xs=>xs.flatMap GK
 | .callv x xs=>GK x++xs.flatMap GK
 | .len x=>GK x
 | .lens x=>GK x
 | .app _ _ _ s x=>GK s++GK x
 | .cpy _ d s=>GK d++GK s
 | .mnx _ x y=>GK x++GK y
 | .clr _ x=>GK x
 | .del _ m k=>GK m++GK k
 | .lenm m=>GK m
 | .cvp x=>GK x
 | .cvu _ _ x=>GK x
 | .eqp _ x y=>GK x++GK y
 | .isni _ x=>GK x
 | .capn x=>GK x
 | .usd x=>GK x
 | .ust _ x n=>GK x++GK n
 | .die=>[]
def Alike(_:Di)(f f':Fr)(ts:List Nat):Prop:= ∀t∈ts,get f t=get f' t
theorem Alike.l{tb:Di}{f f':Fr}{x y:List Nat}(h:Alike tb f f' (x++y)):Alike tb f f' x:=fun t ht=>h t (ny _ ht)
theorem Alike.r{tb:Di}{f f':Fr}{x y:List Nat}(h:Alike tb f f' (x++y)):Alike tb f f' y:=fun t ht=>h t (nl _ ht)
theorem Alike.e{f f':Fr}{x:AO}(h:Alike tb f f' (GK x)):eval tb f x=eval tb f' x:=by
 cases x with
 |t n=>exact h n (by simp[GK])
 |_=>rfl
theorem Alike.es{f f':Fr}: ∀{xs:List AO},Alike tb f f' (xs.flatMap GK)→xs.map (eval tb f)=xs.map (eval tb f')
 |[],_=>rfl
 |x::xs,h=>by
  rw[eh]at h
  rw[bn,bn,h.l.e,Alike.es h.r]
theorem Alike.b{f f':Fr}{lo hi:Option AO}{n:Nat}(h:Alike tb f f' (ooT lo))(h':Alike tb f f' (ooT hi)):Hz (eval tb f) n lo hi=Hz (eval tb f') n lo hi:=by
 cases lo<;>cases hi
 ·rfl
 ·have e':=Alike.e h'
  simp only[Hz,e']
 ·have e:=Alike.e h
  simp only[Hz,e]
 ·have e:=Alike.e h
  have e':=Alike.e h'
  simp only[Hz,e,e']
theorem Alike.fl{f f':Fr}: ∀{ps:List (Nat×Nat×AO)} {z:List AV},Alike tb f f' (ps.flatMap fun p=>GK p.2.2)→MP z (eval tb f) ps=MP z (eval tb f') ps
 |[],_,_=>rfl
 |(off,n,x)::ps,z,h=>by
  rw[eh]at h
  simp only[MP]
  rw[h.l.e]
  split
  ·exact Alike.fl h.r
  ·rfl
theorem Alike.fe{f f':Fr}{sz:Nat}: ∀{ps:List (Nat×AO)} {z:List (List AV)},Alike tb f f' (ps.flatMap fun p=>GK p.2)→LA z sz (eval tb f) ps=LA z sz (eval tb f') ps
 |[],_,_=>rfl
 |(i,x)::ps,z,h=>by
  rw[eh]at h
  simp only[LA]
  rw[h.l.e]
  split
  ·exact Alike.fe h.r
  ·rfl
theorem KQ{f f':Fr}{h:Az}: ∀{o:HB},Alike tb f f' (opT o)→BC tb cl (eval tb f) h o=BC tb cl (eval tb f') h o:=by
 intro o a
 cases o<;>simp only[opT]at a<;>simp only[BC]
 case bld=>rw[a.fl]
 case bls=>rw[a.fe]
 case bll=>rw[a.fe]
 case mkf=>rw[a.l.es,a.r.es]
 case sls=>rw[a.l.l.e];split<;>first|rfl|rw[Alike.b a.l.r a.r]
 case sll=>rw[a.l.l.e];congr;funext n;rw[Alike.b a.l.r a.r]
 case sla=>rw[a.l.l.e,Alike.b a.l.r a.r]
 case call=>rw[a.es]
 case callv=>rw[a.l.e,a.r.es]
 case pick=>rw[a.l.l.e,a.l.r.e,a.r.e]
 case mup=>rw[a.l.l.e,a.l.r.e,a.r.e]
 all_goals first
  |rw[a.l.e,a.r.e]
  |rw[a.e]
def gT:Option (Nat×Bool)→List Nat
 |some (t,_)=>[t]
 |none=>[]
theorem gD{f f':Fr}{g:Option (Nat×Bool)}(a:Alike tb f f' (gT g)):wanted f g=wanted f' g:=by
 cases g with
 |none=>rfl
 |some p=>
  obtain⟨t,w⟩:=p
  simp only[wanted]
  rw[a t (by simp[gT])]
def Gp:List (Option (Nat×Nat))→Nat→Nat
 |_,0=>0
 |[],_+1=>0
 |none::w,i+1=>Gp w i+1
 |some _::w,i+1=>Gp w i
def Stepped(tb:Di)(cl:Nat→List AV→Az→Mb)(hs:List Az)(k:Nat)(ao:Br)(w:Option (Nat×Nat))(f:Fr)(v:AV):Prop:=
 ∃t,wanted f ao.g=some t∧(t=false→v= .tup []∧(w=none→hs[k]? =hs[k+1]?))∧
  (t=true→(w=none→ ∃h u,hs[k]? =some h∧BC tb cl (eval tb f) h ao.o=some (v,u)∧hs[k+1]? =some (u.getD h))∧
   ∀lo hi,w=some (lo,hi)→ ∀j,lo≤j→j≤hi→ ∃h u,hs[j]? =some h∧BC tb cl (eval tb f) h ao.o=some (v,u)∧u.getD h=h)
theorem yD{hs:List Az}: ∀(l:List Br) (ws:List (Option (Nat×Nat))) (k:Nat) (f f':Fr),Kr tb cl hs l ws k f=some f'→
  ∃(fr:Nat→Fr) (vl:Nat→AV),fr 0=f∧fr l.length=f'∧k+Gp ws l.length+1=hs.length∧
   ∀i ao,l[i]? =some ao→fr (i+1)=put (fr i) ao.d (vl i)∧ ∃w,ws[i]? =some w∧Stepped tb cl hs (k+Gp ws i) ao w (fr i) (vl i):=by
 intro l
 induction l with
 |nil=>
  intro ws k f f' e
  simp only[Kr]at e
  split at e
  ·rename_i hk
   obtain rfl:=bf e
   exact⟨fun _=>f,fun _=> .junk,rfl,rfl,by simpa [Gp]using hk,fun i ao h=>(by simp at h)⟩
  ·cases e
 |cons ao l ih=>
  intro ws k f f' e
  simp only[Kr]at e
  obtain⟨t,ht,e⟩:=ab.1 e
  have glue: ∀(w:Option (Nat×Nat)) (ws':List (Option (Nat×Nat))) (v:AV) (k':Nat),ws=w::ws'→k'=k+(match w with|none=>1|some _=>0)→Stepped tb cl hs k ao w f v→
    Kr tb cl hs l ws' k' (put f ao.d v)=some f'→ ∃(fr:Nat→Fr) (vl:Nat→AV),fr 0=f∧fr (ao::l).length=f'∧k+Gp ws (ao::l).length+1=hs.length∧
     ∀i x,(ao::l)[i]? =some x→fr (i+1)=put (fr i) x.d (vl i)∧ ∃w,ws[i]? =some w∧Stepped tb cl hs (k+Gp ws i) x w (fr i) (vl i):=by
   intro w ws' v k' hws hk hst h
   subst hws
   obtain⟨fr,vl,h0,h1,h2,h3⟩:=ih ws' k' _ f' h
   have hrank: ∀i,k+Gp (w::ws') (i+1)=k'+Gp ws' i:=by
    intro i
    subst hk
    cases w<;>simp only[Gp]<;>omega
   refine⟨fun i=>match i with|0=>f|i+1=>fr i,fun i=>match i with|0=>v|i+1=>vl i,rfl,h1,by rw[bb,hrank];exact h2,?_⟩
   intro i x hx
   cases i with
   |zero=>
    simp only[bx,ae]at hx
    subst hx
    exact⟨h0,w,rfl,hst⟩
   |succ i=>
    obtain⟨g1,w',g2,g3⟩:=h3 i x (by simpa using hx)
    exact⟨g1,w',by simpa using g2,by rw[hrank];exact g3⟩
  cases t with
  |true=>
   simp only[qt]at e
   obtain⟨h,hh,e⟩:=ab.1 e
   obtain⟨p,hp,e⟩:=ab.1 e
   cases ws with
   |nil=>simp at e
   |cons w0 w=>
    cases w0 with
    |none=>
     simp only[]at e
     split at e
     ·rename_i hn
      exact glue none w p.1 (k+1) rfl rfl ⟨true,ht,fun e=>(by cases e),fun _=>⟨fun _=>⟨h,p.2,hh,hp,hn.symm⟩,fun lo hi e=>(by cases e)⟩⟩ e
     ·cases e
    |some q=>
     obtain⟨lo,hi⟩:=q
     simp only[]at e
     split at e
     ·rename_i hn
      refine glue (some (lo,hi)) w p.1 k rfl rfl ⟨true,ht,fun e=>(by cases e),fun _=>⟨fun e=>(by cases e),?_⟩⟩ e
      intro lo' hi' e' j hj hj'
      simp only[ae,ch]at e'
      obtain⟨rfl,rfl⟩:=e'
      rw[cd]at hn
      have:=hn j (gk.2 ⟨hj,by omega⟩)
      simp only[qp]at this
      obtain⟨u,hu,hu'⟩:=this
      obtain⟨h',hh',hu⟩:=ab.1 hu
      refine⟨h',u,hh',hu,?_⟩
      rw[hh']at hu'
      simpa using hu'
     ·cases e
  |false=>
   simp only[au,qu]at e
   cases ws with
   |nil=>simp at e
   |cons w0 w=>
    cases w0 with
    |none=>
     simp only[]at e
     split at e
     ·rename_i hn
      exact glue none w (.tup []) (k+1) rfl rfl ⟨false,ht,fun _=>⟨rfl,fun _=>hn⟩,fun e=>(by cases e)⟩ e
     ·cases e
    |some q=>
     exact glue (some q) w (.tup []) k rfl rfl ⟨false,ht,fun _=>⟨rfl,fun e=>(by cases e)⟩,fun e=>(by cases e)⟩ e
end
end
section
def Su(rs:Array Oper)(i:Nat):List Nat:=
 match rs[i]? with
 |some o=>(o.after.toList.filter (Region.binds .any)).map (·.on)
 |none=>[]
def UO(rs:Array Oper):Nat→Nat→Nat→Bool
 |0,_,_=>false
 |n+1,j,i=>(Su rs i).any (fun e=>fv e j)||(Su rs i).any fun e=>UO rs n j e
theorem KR{rs:Array Oper}{L:Nat→Prop}(hd: ∀i,L i→ ∀e∈Su rs i,L e): ∀{n j i:Nat},UO rs n j i=true→(∀e∈Su rs i,L e)→L j
 |0,_,_,h,_=>by simp[UO]at h
 |n+1,j,i,h,hi=>by
  simp only[UO,kd,gq,j8]at h
  rcases h with ⟨e,he,rfl⟩|⟨e,he,h⟩
  ·exact hi _ he
  ·exact KR hd h (hd e (hi e he))
def looks(ao:Br):List Nat:=gT ao.g++opT ao.o
def V1(rs:Array Oper)(l:List Br)(ws:List (Option (Nat×Nat)))(i j:Nat):Bool:=
 match l[i]?,l[j]? with
 |some x,some y=>
  (match x.d with|some t=>decide (y.d≠some t)|none=>true)&&
  (match y.d with|some t=> !(looks x).contains t||(if j<i then UO rs rs.size j i else UO rs rs.size i j)|none=>true)&&
  (match ws[i]?,ws[j]? with
   |some none,some none=> !decide (j<i)||UO rs rs.size j i
   |some (some (lo,hi)),some none=>(!decide (Gp ws j<lo)||UO rs rs.size j i)&&(!decide (hi≤Gp ws j)||UO rs rs.size i j)
   |_,_=>true)
 |_,_=>true
def okD(T:HB→Oper→Bool)(nt:Nat)(rs:Array Oper)(l:List Br)(ws:List (Option (Nat×Nat))):Bool:=
 GO T nt rs l rs.toList&&(ik rs.size).all fun i=>
  (Su rs i).all (fun e=>decide (e<i))&&
  (match ws[i]? with|some (some (lo,_))=>decide (lo≤Gp ws rs.size)|_=>true)&&
  (ik rs.size).all fun j=>i==j||V1 rs l ws i j
theorem XW(f:Fr)(d:Option Nat)(v:AV)(t:Nat):get (put f d v) t=if d=some t then v else get f t:=by
 cases d with
 |none=>simp[put]
 |some u=>simp[put,get]
theorem QD{T:HB→Oper→Bool}{nt:Nat}{rs:Array Oper}: ∀{l:List Br} {os:List Oper},GO T nt rs l os=true→l.length=os.length
 |[],[],_=>rfl
 |[],_::_,h=>by simp[GO]at h
 |_::_,[],h=>by simp[GO]at h
 |_::_,_::_,h=>by
  simp only[GO,af]at h
  simp[QD h.2]
theorem W2{T:HB→Oper→Bool}{nt:Nat}{rs:Array Oper}: ∀{l:List Br} {os:List Oper} {i:Nat} {x:Br} {o:Oper},GO T nt rs l os=true→l[i]? =some x→os[i]? =some o→Zg T nt rs x o=true
 |[],_,_,_,_,_,h,_=>by simp at h
 |_::_,[],_,_,_,_,_,h=>by simp at h
 |_::_,_::_,0,_,_,h,h1,h2=>by
  simp only[GO,af]at h
  simp only[bx,ae]at h1 h2
  subst h1;subst h2
  exact h.1
 |_::_,_::_,i+1,_,_,h,h1,h2=>by
  simp only[GO,af]at h
  exact W2 h.2 (i:=i) (by simpa using h1) (by simpa using h2)
theorem XR: ∀{ws:List (Option (Nat×Nat))} {i j:Nat},ws[i]? =some none→i<j→Gp ws i<Gp ws j
 |[],_,_,h,_=>by simp at h
 |_,_,0,_,h=>by omega
 |none::ws,0,j+1,_,_=>by simp only[Gp];omega
 |some _::ws,0,j+1,h,_=>by simp at h
 |none::ws,i+1,j+1,h,h'=>by
  have:=XR (ws:=ws) (i:=i) (j:=j) (by simpa using h) (by omega)
  simp only[Gp];omega
 |some _::ws,i+1,j+1,h,h'=>by
  have:=XR (ws:=ws) (i:=i) (j:=j) (by simpa using h) (by omega)
  simp only[Gp];omega
theorem OV: ∀{ws:List (Option (Nat×Nat))} {n k:Nat},k<Gp ws n→ ∃j,j<n∧ws[j]? =some none∧Gp ws j=k
 |_,0,_,h=>by simp[Gp]at h
 |[],_+1,_,h=>by simp[Gp]at h
 |none::ws,n+1,0,_=>⟨0,by omega,rfl,rfl⟩
 |none::ws,n+1,k+1,h=>by
  obtain⟨j,h1,h2,h3⟩:=OV (ws:=ws) (n:=n) (k:=k) (by simp only[Gp]at h;omega)
  exact⟨j+1,by omega,by simpa using h2,by simp only[Gp,h3]⟩
 |some _::ws,n+1,k,h=>by
  obtain⟨j,h1,h2,h3⟩:=OV (ws:=ws) (n:=n) (k:=k) (by simpa [Gp]using h)
  exact⟨j+1,by omega,by simpa using h2,by simp only[Gp,h3]⟩
section
variable{T:HB→Oper→Bool}{P:Program}{tb:Di}{cl:Nat→List AV→Az→Mb}{nt:Nat}{rs:Array Oper}{l:List Br}{ws:List (Option (Nat×Nat))}{hs:List Az}{fr:Nat→Fr}{vl:Nat→AV}
def On(listed:Array Bool)(i:Nat):Prop:=listed.getD i false=true
structure St(rs:Array Oper)(l:List Br)(ws:List (Option (Nat×Nat)))(hs:List Az)(fr:Nat→Fr)(vl:Nat→AV)(listed:Array Bool)(H:Az)(f:Fr):Prop where
 size:listed.size=rs.size
 down: ∀i,On listed i→ ∀e∈Su rs i,On listed e
 heap: ∃k,hs[k]? =some H∧ ∀j,j<rs.size→ws[j]? =some none→(On listed j↔Gp ws j<k)
 vals: ∀i ai t,On listed i→l[i]? =some ai→ai.d=some t→get f t=vl i
 rest: ∀t,(∀i ai,On listed i→l[i]? =some ai→ai.d≠some t)→get f t=get (fr 0) t
theorem V0{listed:Array Bool}{i j:Nat}(hi:i<listed.size):On (listed.setIfInBounds i true) j↔j=i∨On listed j:=by
 unfold On
 by_cases h:i=j
 ·subst h;simp[dh,hi]
 ·rw[getD_set_ne false h]
  exact⟨.inr,fun e=>e.resolve_left (jz h)⟩
theorem dJ{i:Nat}{o:Oper}(h:rs[i]? =some o){e:Nat}:e∈Su rs i↔ ∃x∈o.after,Region.binds .any x=true∧x.on=e:=by
 simp only[Su,h,ls,List.mem_filter,Array.mem_toList_iff]
 exact⟨fun⟨x,⟨h1,h2⟩,h3⟩=>⟨x,h1,h2,h3⟩,fun⟨x,h1,h2,h3⟩=>⟨x,⟨h1,h2⟩,h3⟩⟩
theorem Vt{listed:Array Bool}(hsz:listed.size=rs.size){i:Nat}:i∈Region.ready .any rs listed↔i<rs.size∧ ¬On listed i∧ ∀e∈Su rs i,On listed e:=by
 rw[mem_ready]
 constructor
 ·rintro⟨h1,o,ho,h2⟩
  have hi:i<rs.size:=(ma.1 ho).1
  refine⟨hi,fun h=> ?_,fun e he=> ?_⟩
  ·unfold On at h
   simp[dh,show i<listed.size by omega]at h h1
   rw[h1]at h;cases h
  ·obtain⟨x,hx,hb,rfl⟩:=(dJ ho).1 he
   exact h2 x hx hb
 ·rintro⟨hi,h1,h2⟩
  obtain⟨o,ho⟩: ∃o,rs[i]? =some o:=⟨rs[i],fi hi⟩
  refine⟨?_,o,ho,fun x hx hb=>h2 _ ((dJ ho).2 ⟨x,hx,hb,rfl⟩)⟩
  unfold On at h1
  simp[dh,show i<listed.size by omega]at h1 ⊢
  exact h1
theorem okD_spec(h:okD T nt rs l ws=true):l.length=rs.size∧(∀(i:Nat) (x:Br) (o:Oper),l[i]? =some x→rs[i]? =some o→Zg T nt rs x o=true)∧(∀i,i<rs.size→ ∀e∈Su rs i,e<i)∧
  (∀(i j:Nat) (x y:Br) (t:Nat),l[i]? =some x→l[j]? =some y→i≠j→x.d=some t→y.d≠some t)∧
  (∀(i j:Nat) (x y:Br) (t:Nat),l[i]? =some x→l[j]? =some y→y.d=some t→t∈looks x→(j<i∧UO rs rs.size j i=true)∨(i<j∧UO rs rs.size i j=true)∨i=j)∧
  (∀i j,i<rs.size→j<rs.size→i≠j→ws[i]? =some none→ws[j]? =some none→j<i→UO rs rs.size j i=true)∧
  (∀i j lo hi,i<rs.size→j<rs.size→ws[i]? =some (some (lo,hi))→ws[j]? =some none→(Gp ws j<lo→UO rs rs.size j i=true)∧(hi≤Gp ws j→UO rs rs.size i j=true))∧
  (∀i lo hi,i<rs.size→ws[i]? =some (some (lo,hi))→lo≤Gp ws rs.size):=by
 simp only[okD,af,cd,List.mem_range,qp,gq,beq_iff_eq]at h
 obtain⟨h1,h2⟩:=h
 have hlen:l.length=rs.size:=by rw[QD h1];simp
 have lt: ∀{i x},l[i]? =some x→i<rs.size:=fun{i x} e=>by have:=Bl e;omega
 have pair: ∀i j,i<rs.size→j<rs.size→i≠j→V1 rs l ws i j=true:=fun i j hi hj hne=>((h2 i hi).2 j hj).resolve_left hne
 refine⟨hlen,fun i x o hx ho=>W2 h1 hx (by simpa using ho),fun i hi=>(h2 i hi).1.1,?_,?_,?_,?_,fun i lo hi hil hw=> ?_⟩
 ·intro i j x y t hx hy hne hd
  have:=pair i j (lt hx) (lt hy) hne
  simp only[V1,hx,hy,hd,af,qp]at this
  exact this.1.1
 ·intro i j x y t hx hy hd ht
  by_cases hij:i=j
  ·exact .inr (.inr hij)
  ·have:=pair i j (lt hx) (lt hy) hij
   simp only[V1,hx,hy,hd,af,gq,cg]at this
   rcases this.1.2 with h|h
   ·simp[ht]at h
   ·by_cases hlt:j<i
    ·rw[qn hlt]at h
     exact .inl ⟨hlt,h⟩
    ·rw[qo hlt]at h
     exact .inr (.inl ⟨by omega,h⟩)
 ·intro i j hi hj hne hwi hwj hlt
  have:=pair i j hi hj hne
  obtain⟨x,hx⟩: ∃x,l[i]? =some x:=⟨_,ad (by omega)⟩
  obtain⟨y,hy⟩: ∃x,l[j]? =some x:=⟨_,ad (by omega)⟩
  simp only[V1,hx,hy,hwi,hwj,af,gq,cg,decide_eq_false_iff_not]at this
  exact this.2.resolve_left (by omega)
 ·intro i j lo hi hil hjl hwi hwj
  have hne:i≠j:=by rintro rfl;rw[hwi]at hwj;cases hwj
  have:=pair i j hil hjl hne
  obtain⟨x,hx⟩: ∃x,l[i]? =some x:=⟨_,ad (by omega)⟩
  obtain⟨y,hy⟩: ∃x,l[j]? =some x:=⟨_,ad (by omega)⟩
  simp only[V1,hx,hy,hwi,hwj,af,gq,cg,decide_eq_false_iff_not]at this
  exact⟨fun h=>this.2.1.resolve_left (by omega),fun h=>this.2.2.resolve_left (by omega)⟩
 ·have:=(h2 i hil).1.2
  simpa only[hw,qp]using this
theorem Zm(hstep: ∀i ao,l[i]? =some ao→fr (i+1)=put (fr i) ao.d (vl i))(h3: ∀(i j:Nat) (x y:Br) (t:Nat),l[i]? =some x→l[j]? =some y→i≠j→x.d=some t→y.d≠some t):
  ∀m,m≤l.length→(∀i x t,i<m→l[i]? =some x→x.d=some t→get (fr m) t=vl i)∧(∀t,(∀i x,i<m→l[i]? =some x→x.d≠some t)→get (fr m) t=get (fr 0) t)
 |0,_=>⟨fun _ _ _ h=>by omega,fun _ _=>rfl⟩
 |m+1,hm=>by
  obtain⟨q1,q2⟩:=Zm hstep h3 m (by omega)
  obtain⟨x,hx⟩: ∃x,l[m]? =some x:=⟨_,ad (by omega)⟩
  rw[hstep m x hx]
  refine⟨fun i y t hi hy hd=> ?_,fun t ht=> ?_⟩
  ·rw[XW]
   by_cases him:i=m
   ·subst him
    rw[hx]at hy
    obtain rfl:=bf hy
    rw[qn hd]
   ·rw[qo (h3 i m y x t hy hx him hd)]
    exact q1 i y t (by omega) hy hd
  ·rw[XW,qo (ht m x (by omega) hx)]
   exact q2 t fun i y hi=>ht i y (by omega)
theorem zW(hT: ∀ao o,T ao o=true→EN P tb ao o)(hcl:Fh P tb fun g args h=>BK tb cl h g args){Q:Exit→Act→World→Prop}(hok:okD T nt rs l ws=true)
  (hk:Gp ws l.length+1=hs.length) (hstep: ∀i ao,l[i]? =some ao→fr (i+1)=put (fr i) ao.d (vl i)∧ ∃w,ws[i]? =some w∧Stepped tb cl hs (Gp ws i) ao w (fr i) (vl i)) {C₀:DR}
  (k: ∀(D:DR) (a':Act),LH C₀ D→Inv tb D→hs.getLast?=some D.H→BO D (fr l.length) a' nt→Q .normal a' D.w):
  ∀(fuel:Nat) (listed:Array Bool) (C:DR) (f:Fr) (a:Act),listed.toList.count false≤fuel→St rs l ws hs fr vl listed C.H f→LH C₀ C→Inv tb C→BO C f a nt→wpAny P .any rs Q fuel listed a C.w:=by
 obtain⟨c1,c2,c3,c4,c5,c6,c7,c8⟩:=okD_spec hok
 have lexf:=Zm (fun i ao h=>(hstep i ao h).1) c4
 have fin: ∀(listed:Array Bool) (C:DR) (f:Fr) (a:Act),Region.ready .any rs listed=[]→St rs l ws hs fr vl listed C.H f→LH C₀ C→Inv tb C→BO C f a nt→Q .normal a C.w:=by
  intro listed C f a hr S X I F
  have all: ∀n i,i<n→i<rs.size→On listed i:=by
   intro n
   induction n with
   |zero=>intro i h;omega
   |succ n ih=>
    intro i hi hil
    refine km fun hno=> ?_
    have:i∈Region.ready .any rs listed:=(Vt S.size).2 ⟨hil,hno,fun e he=>ih e (by have:=c3 i hil e he;omega) (by have:=c3 i hil e he;omega)⟩
    rw[hr]at this
    cases this
  have all': ∀i,i<rs.size→On listed i:=fun i hi=>all (i+1) i (by omega) hi
  obtain⟨q1,q2⟩:=lexf l.length (be _)
  refine k C a X I ?_ ⟨fun t=> ?_,F.size,F.defers⟩
  ·obtain⟨m,hm,hw⟩:=S.heap
   have hml:=Bl hm
   have:m=Gp ws l.length:=by
    refine km fun hne=> ?_
    obtain⟨j,hj,hwj,hrj⟩:=OV (ws:=ws) (n:=l.length) (k:=m) (by omega)
    have:=(hw j (by omega) hwj).1 (all' j (by omega))
    omega
   rw[List.getLast?_eq_getElem?,←hm]
   congr 1
   omega
  ·have:get (fr l.length) t=get f t:=by
    by_cases hex: ∃(i:Nat) (x:Br),l[i]? =some x∧x.d=some t
    ·obtain⟨i,x,hx,hd⟩:=hex
     rw[q1 i x t (Bl hx) hx hd,S.vals i x t (all' i (by have:=Bl hx;omega)) hx hd]
    ·rw[q2 t fun i x _ hx hd=>hex ⟨i,x,hx,hd⟩,S.rest t fun i x _ hx hd=>hex ⟨i,x,hx,hd⟩]
   rw[this]
   exact F.rep t
 intro fuel
 induction fuel with
 |zero=>
  intro listed C f a hc S X I F
  have hr:Region.ready .any rs listed=[]:=by
   rw[List.eq_nil_iff_forall_not_mem]
   intro i hi
   obtain⟨hil,hno,_⟩:=(Vt S.size).1 hi
   have h0:listed.toList.count false=0:=by omega
   rw[List.count_eq_zero]at h0
   apply hno
   have hil':i<listed.size:=by rw[S.size];exact hil
   unfold On
   rw[dh,fi hil']
   simp only[iq]
   cases hv:listed[i]with
   |true=>rfl
   |false=>exact absurd (by rw[←hv];simp) h0
  exact⟨hr,fin listed C f a hr S X I F⟩
 |succ fuel ih=>
  intro listed C f a hc S X I F
  refine⟨fun hr=>fin listed C f a hr S X I F,fun i hi=> ?_⟩
  obtain⟨hil,hno,hall⟩:=(Vt S.size).1 hi
  have hil':i<listed.size:=by rw[S.size];exact hil
  obtain⟨o,ho⟩: ∃o,rs[i]? =some o:=⟨rs[i],fi hil⟩
  obtain⟨ao,hao⟩: ∃x,l[i]? =some x:=⟨_,ad (by omega)⟩
  obtain⟨g1,g2,g3,g4⟩:=W3 (c2 i ao o hao ho)
  obtain⟨hfr,w,hwi,t,hwt,hfalse,htrue⟩:=hstep i ao hao
  obtain⟨q1,q2⟩:=lexf i (by omega)
  have alike:Alike tb f (fr i) (looks ao):=by
   intro u hu
   by_cases hex: ∃(j:Nat) (x:Br),l[j]? =some x∧x.d=some u
   ·obtain⟨j,x,hx,hd⟩:=hex
    rcases c5 i j ao x u hao hx hd hu with ⟨hji,hanc⟩|hlate
    ·have hon:On listed j:=KR S.down hanc hall
     rw[q1 j x u hji hx hd,S.vals j x u hon hx hd]
    ·have hij:i≤j:=by rcases hlate with h|h<;>omega
     have hoff: ¬On listed j:=fun h=>by
      rcases hlate with ⟨_,hanc⟩|rfl
      ·exact hno (KR S.down hanc (S.down j h))
      ·exact hno h
     have one: ∀(k:Nat) (y:Br),l[k]? =some y→y.d=some u→k=j:=fun k y hy hyd=>
      km fun hne=>c4 k j y x u hy hx hne hyd hd
     rw[q2 u fun k y hk hy hyd=>by have:=one k y hy hyd;omega,S.rest u fun k y hk hy hyd=>hoff (one k y hy hyd▸hk)]
   ·rw[q2 u fun j x _ hx hd=>hex ⟨j,x,hx,hd⟩,S.rest u fun j x _ hx hd=>hex ⟨j,x,hx,hd⟩]
  have hwt':wanted f ao.g=some t:=by rw[gD alike.l];exact hwt
  have hwr:=Yg F g3 hwt'
  obtain⟨m,hm,hmw⟩:=S.heap
  have hcount:(listed.setIfInBounds i true).toList.count false≤fuel:=by
   have hv:listed[i]=false:=by
    cases hv:listed[i]with
    |false=>rfl
    |true=>exact absurd (by unfold On;rw[dh,fi hil',hv];rfl) hno
   rw[l8,List.count_set (by simpa using hil')]
   have hv':listed.toList[i]'(by simpa using hil')=false:=by simpa using hv
   have hpos:0<listed.toList.count false:=List.count_pos_iff.2 (by rw[←hv];simp)
   rw[hv']
   simp only[beq_self_eq_true,qt,beq_iff_eq,Bool.true_eq_false,qu]
   omega
  have next: ∀(H:Az),(w=none→hs[m+1]? =some H)→(w≠none→H=C.H)→St rs l ws hs fr vl (listed.setIfInBounds i true) H (put f ao.d (vl i)):=by
   intro H hn hq
   refine⟨by simp[S.size],?_,?_,?_,?_⟩
   ·intro j hj e he
    rw[V0 hil']at hj ⊢
    rcases hj with rfl|hj
    ·exact .inr (hall e he)
    ·exact .inr (S.down j hj e he)
   ·cases hw:w with
    |none=>
     subst hw
     refine⟨m+1,hn rfl,fun j hj hwj=> ?_⟩
     have hmi:Gp ws i=m:=by
      have h1: ¬Gp ws i<m:=fun h=>hno ((hmw i hil hwi).2 h)
      have h2: ¬m<Gp ws i:=fun h=>by
       obtain⟨j,hj,hwj,hrj⟩:=OV h
       have:=KR S.down (c6 i j hil (by omega) (by omega) hwi hwj hj) hall
       have:=(hmw j (by omega) hwj).1 this
       omega
      omega
     rw[V0 hil',hmw j hj hwj]
     constructor
     ·rintro(rfl|h)
      ·omega
      ·omega
     ·intro h
      by_cases hji:j=i
      ·exact .inl hji
      ·right
       rcases dq j i with h'|h'
       ·have:=XR hwj h';omega
       ·have:=XR hwi (show i<j by omega);omega
    |some p=>
     refine⟨m,by rw[hq (by rw[hw];simp)];exact hm,fun j hj hwj=> ?_⟩
     have hji:j≠i:=by rintro rfl;rw[hwi,hw]at hwj;cases hwj
     rw[V0 hil',←hmw j hj hwj]
     exact⟨fun h=>h.resolve_left hji, .inr⟩
   ·intro j x u hj hx hd
    rw[XW]
    rw[V0 hil']at hj
    by_cases hji:j=i
    ·subst hji
     rw[hao]at hx
     obtain rfl:=bf hx
     rw[qn hd]
    ·rw[qo (c4 j i x ao u hx hao hji hd)]
     exact S.vals j x u (hj.resolve_left hji) hx hd
   ·intro u hu
    rw[XW,qo (hu i ao ((V0 hil').2 (.inl rfl)) hao)]
    exact S.rest u fun j x hj hx=>hu j x ((V0 hil').2 (.inr hj)) hx
  have hrank:w=none→Gp ws i=m:=by
   rintro rfl
   have h1: ¬Gp ws i<m:=fun h=>hno ((hmw i hil hwi).2 h)
   have h2: ¬m<Gp ws i:=fun h=>by
    obtain⟨j,hj,hwj,hrj⟩:=OV h
    have:=KR S.down (c6 i j hil (by omega) (by omega) hwi hwj hj) hall
    have:=(hmw j (by omega) hwj).1 this
    omega
   omega
  have hrange: ∀lo hi,w=some (lo,hi)→lo≤m∧m≤hi:=by
   rintro lo hi rfl
   have hml:=Bl hm
   constructor
   ·refine Nat.le_of_not_lt fun h=> ?_
    obtain⟨j,hj,hwj,hrj⟩: ∃j,j<l.length∧ws[j]? =some none∧Gp ws j=m:=by
     by_cases hlt:m<Gp ws l.length
     ·exact OV hlt
     ·have:=c8 i lo hi hil hwi
      rw[←c1]at this
      omega
    have:=KR S.down ((c7 i j lo hi hil (by omega) hwi hwj).1 (by omega)) hall
    have:=(hmw j (by omega) hwj).1 this
    omega
   ·refine Nat.le_of_not_lt fun h=> ?_
    obtain⟨j,hj,hwj,hrj⟩: ∃j,j<l.length∧ws[j]? =some none∧Gp ws j=hi:=OV (by omega)
    have hon:=(hmw j (by omega) hwj).2 (by omega)
    exact hno (KR S.down ((c7 i j lo hi hil (by omega) hwi hwj).2 (by omega)) (S.down j hon))
  unfold wpOp
  simp only[ho,hwr]
  rw[←g1]
  cases t with
  |false=>
   simp only[au,qu]
   obtain⟨hv,hsame⟩:=hfalse rfl
   refine ih _ C (put f ao.d (.tup [])) _ hcount ?_ X I (F.put (lf C) (fun t ht=>g2 t (g1▸ht)) (x:= .tup []) ⟨[],rfl,rfl⟩)
   rw[←hv]
   refine next C.H (fun hw=> ?_) fun _=>rfl
   rw[←hrank hw,←hsame hw,hrank hw]
   exact hm
  |true=>
   simp only[qt]
   obtain⟨hW,hR⟩:=htrue rfl
   have land: ∀(u:Option Az),BC tb cl (eval tb f) C.H ao.o=some (vl i,u)→(w=none→hs[m+1]? =some (u.getD C.H))→(w≠none→u.getD C.H=C.H)→
     o.wp P a C.w (wpAny P .any rs Q fuel (listed.setIfInBounds i true)) Q:=by
    intro u hu h1 h2
    refine Wn (hT _ _ g4 hcl I F hu) fun v D X' ID hH hr=> ?_
    rw[←g1]
    refine ih _ D (put f ao.d (vl i)) _ hcount ?_ (X.trans X') ID (F.put X' (fun t ht=>g2 t (g1▸ht)) hr)
    rw[hH]
    exact next _ h1 h2
   left
   cases hw:w with
   |none=>
    obtain⟨h,u,e1,e2,e3⟩:=hW hw
    rw[hrank hw]at e1 e3
    rw[hm]at e1
    obtain rfl:=bf e1
    exact land u (by rw[KQ alike.r];exact e2) (fun _=>e3) fun hne=>absurd hw hne
   |some p=>
    obtain⟨lo,hi⟩:=p
    obtain⟨r1,r2⟩:=hrange lo hi hw
    obtain⟨h,u,e1,e2,e3⟩:=hR lo hi hw m r1 r2
    rw[hm]at e1
    obtain rfl:=bf e1
    exact land u (by rw[KQ alike.r];exact e2) (fun hn=>absurd (hn.symm.trans hw) (by simp)) fun _=>e3
end
end
section
def iQ(l:List Br):List (Option (Nat×Nat)):=l.map fun _=>some (0,0)
def Te(T:HB→Oper→Bool)(nt:Nat):AC→Code→Bool
 | .skip, .skip=>true
 | .reg l, .region _ rs false=>GO T nt rs l rs.toList
 | .regq l, .region _ rs true=>okD T nt rs l (iQ l)
 | .regd l ws, .region _ rs true=>okD T nt rs l ws
 | .seq x y, .seq c d=>Te T nt x c&&Te T nt y d
 | .cond x a b, .cond y c d=>BG x y&&Te T nt a c&&Te T nt b d
 | .blk id x, .block id' c=>id==id'&&Te T nt x c
 | .loop _ x, .loop c=>Te T nt x c
 | .exit id, .exit id'=>id==id'
 | .ret, .ret=>true
 | .keep _ x,c=>Te T nt x c
 | .scope x, .scope c=>Te T nt x c
 | .skip, .label _=>true
 | .stop,_=>true
 |_,_=>false
def exOf:Ex→Exit
 | .normal=> .normal
 | .exit id=> .exit id
 | .ret=> .ret
section
variable{T:HB→Oper→Bool}{P:Program}{tb:Di}{cl:Nat→List AV→Az→Mb}{nt:Nat}
theorem iU{h:Az}: ∀(l:List Br) {f f':Fr},I9 tb cl h l f=some f'→Kr tb cl [h] l (iQ l) 0 f=some f':=by
 intro l
 induction l with
 |nil=>intro f f' e;simpa [I9,Kr,iQ]using e
 |cons o l ih=>
  intro f f' e
  simp only[I9]at e
  obtain⟨w,hw,e⟩:=ab.1 e
  simp only[iQ,bn,Kr,hw,aa]
  cases w with
  |true=>
   simp only[qt]at e ⊢
   obtain⟨p,hp,e⟩:=ab.1 e
   split at e
   ·rename_i hsame
    simp only[bx,aa,hp]
    rw[qn]
    ·exact ih e
    ·rw[cd]
     intro j hj
     rw[gk]at hj
     have:j=0:=by omega
     subst this
     simp only[qp,bx,aa,iq]
     exact⟨p.2,by rw[hp],by rw[hsame]⟩
   ·cases e
  |false=>
   simp only[au,qu]at e ⊢
   exact ih e
theorem iJ{rs:Array Oper}{l:List Br}{ws:List (Option (Nat×Nat))}{hs:List Az}{fr:Nat→Fr}{vl:Nat→AV}{H:Az}(hh:hs[0]? =some H):
  St rs l ws hs fr vl (nf rs.size false) H (fr 0):=by
 have hoff: ∀i,¬On (nf rs.size false) i:=by
  intro i h
  unfold On at h
  rw[dh,Array.getElem?_replicate]at h
  split at h<;>simp at h
 exact⟨by simp,fun i h=>absurd h (hoff i),⟨0,hh,fun j _ _=>⟨fun h=>absurd h (hoff j),fun h=>absurd h (lm _)⟩⟩,fun i _ _ h=>absurd h (hoff i),fun _ _=>rfl⟩
theorem YP(hm:P.follows .mixedOrders=true)(hT: ∀ao o,T ao o=true→EN P tb ao o)(hcl:Fh P tb fun g args h=>BK tb cl h g args){Q:Exit→Act→World→Prop}{l:List Br}
  {ws:List (Option (Nat×Nat))} {rs:Array Oper} {id:Nat} (h:okD T nt rs l ws=true) {C:DR} {f:Fr} {a:Act} (I:Inv tb C) (F:BO C f a nt) {f':Fr} {hs:List Az} (hh:hs[0]? =some C.H)
  (e:Kr tb cl hs l ws 0 f=some f') (k: ∀(D:DR) (a':Act),LH C D→Inv tb D→hs.getLast?=some D.H→BO D f' a' nt→Q .normal a' D.w):(Code.region id rs true).wp P Q a C.w:=by
 obtain⟨fr,vl,h0,h1,h2,h3⟩:=yD l ws 0 f f' e
 obtain⟨X,ID⟩:=drawn I (w:={C.w with drawn:=C.w.drawn+1}) ⟨rfl,rfl,rfl⟩ rfl
 subst h0
 subst h1
 refine wp_region_any hm ?_
 refine zW (vl:=vl) (C₀:=C) hT hcl h (by omega) (fun i ao hi=> ?_) k rs.size _ ⟨C.φ,C.H,{C.w with drawn:=C.w.drawn+1}⟩ (fr 0) a ?_ (iJ hh) X ID (F.ext X)
 ·have:=h3 i ao hi
  simpa only[da]using this
 ·exact dy List.count_le_length (by simp)
theorem yO(Bo:List Nat)(f:Fr)(t:Nat):get (keepL Bo f) t=get f t∨get (keepL Bo f) t= .junk:=by
 induction Bo with
 |nil=>exact .inr rfl
 |cons u Bo ih=>
  simp only[keepL,bn,get]
  by_cases h:u=t
  ·subst h;left;rw[qn rfl]
  ·rw[qo h];exact ih
theorem BO.keep{C:DR}{f:Fr}{a:Act}(F:BO C f a nt)(Bo:List Nat):BO C (keepL Bo f) a nt:=by
 refine⟨fun t=> ?_,F.size,F.defers⟩
 rcases yO Bo f t with h|h
 ·rw[h];exact F.rep t
 ·rw[h];trivial
theorem memH: ∀(l:Az) (o:CB),o∈l→E7 o≤D1 l:=by
 intro l
 induction l with
 |nil=>intro o h;cases h
 |cons x l ih=>
  intro o h
  simp only[D1]
  rcases bu.1 h with e|h
  ·subst e;omega
  ·have:=ih o h;omega
structure Next(tb:Di)(C:DR)(nt:Nat)(f:Fr)(h:Az)(D:DR)(a:Act):Prop where
 ext:LH C D
 inv:Inv tb D
 heap:D.H=h
 fr:BO D f a nt
theorem tG(hm:P.follows .mixedOrders=true)(hT: ∀ao o,T ao o=true→EN P tb ao o)(hcl:Fh P tb fun g args h=>BK tb cl h g args)(hg: ∀g cs,tb.gl g=some cs→B0 cs=0):
  ∀(ac:AC) (c:Code),Te T nt ac c=true→ ∀{C:DR} {f:Fr} {a:Act} {e:Ex} {f':Fr} {h':Az},Bj tb cl ac f C.H=some (e,f',h')→Inv tb C→BO C f a nt→
   ∀{Q:Exit→Act→World→Prop},(∀D a',Next tb C nt f' h' D a'→Q (exOf e) a' D.w)→c.wp P Q a C.w:=by
 intro ac
 induction ac with
 |skip=>
  intro c hok C f a e f' h' he I F Q k
  simp only[Bj,ae,ch]at he
  obtain⟨rfl,rfl,rfl⟩:=he
  cases c<;>simp only[Te,au]at hok
  ·exact wp_skip (k C a ⟨lf C,I,rfl,F⟩)
  ·exact wp_label (k C a ⟨lf C,I,rfl,F⟩)
 |ret=>
  intro c hok C f a e f' h' he I F Q k
  cases c<;>simp only[Te,au]at hok
  simp only[Bj,ae,ch]at he
  obtain⟨rfl,rfl,rfl⟩:=he
  exact wp_ret (k C a ⟨lf C,I,rfl,F⟩)
 |exit id=>
  intro c hok C f a e f' h' he I F Q k
  cases c<;>simp only[Te,au,beq_iff_eq]at hok
  subst hok
  simp only[Bj,ae,ch]at he
  obtain⟨rfl,rfl,rfl⟩:=he
  exact wp_exit (k C a ⟨lf C,I,rfl,F⟩)
 |reg l=>
  intro c hok C f a e f' h' he I F Q k
  cases c with
  |region id rs b=>
   cases b<;>simp only[Te,au]at hok
   simp only[Bj]at he
   obtain⟨p,hp,he⟩:=aj.1 he
   obtain⟨p1,p2⟩:=p
   simp only[ch]at he
   obtain⟨rfl,rfl,rfl⟩:=he
   exact xJ hT hcl hok I F hp fun D a' X ID hH FD=>k D a' ⟨X,ID,hH,FD⟩
  |_=>simp[Te]at hok
 |regq l=>
  intro c hok C f a e f' h' he I F Q k
  cases c with
  |region id rs b=>
   cases b<;>simp only[Te,au]at hok
   simp only[Bj]at he
   obtain⟨p,hp,he⟩:=aj.1 he
   simp only[ch]at he
   obtain⟨rfl,rfl,rfl⟩:=he
   refine YP hm hT hcl hok I F rfl (iU l hp) fun D a' X ID hH FD=>k D a' ⟨X,ID,?_,FD⟩
   simpa using hH.symm
  |_=>simp[Te]at hok
 |regd l ws=>
  intro c hok C f a e f' h' he I F Q k
  cases c with
  |region id rs b=>
   cases b<;>simp only[Te,au]at hok
   simp only[Bj]at he
   obtain⟨hs,_,he⟩:=ab.1 he
   obtain⟨f1,hd,he⟩:=ab.1 he
   obtain⟨h1,hl,he⟩:=aj.1 he
   simp only[ch]at he
   obtain⟨rfl,rfl,rfl⟩:=he
   refine YP hm hT hcl hok I F rfl hd fun D a' X ID hH FD=>k D a' ⟨X,ID,?_,FD⟩
   rw[hl]at hH
   exact(bf hH).symm
  |_=>simp[Te]at hok
 |seq x y ihx ihy=>
  intro c hok C f a e f' h' he I F Q k
  cases c with
  |seq c d=>
   simp only[Te,af]at hok
   simp only[Bj]at he
   obtain⟨p,hp,he⟩:=ab.1 he
   obtain⟨e1,f1,h1⟩:=p
   refine wp_seq (ihx c hok.1 hp I F fun D a' N=> ?_)
   cases e1 with
   |normal=>
    obtain⟨X,ID,hH,FD⟩:=N
    exact ihy d hok.2 (by rw[hH];exact he) ID FD fun D' a'' N'=>k D' a'' ⟨X.trans N'.ext,N'.inv,N'.heap,N'.fr⟩
   |exit id=>
    simp only[ae,ch]at he
    obtain⟨rfl,rfl,rfl⟩:=he
    exact k D a' N
   |ret=>
    simp only[ae,ch]at he
    obtain⟨rfl,rfl,rfl⟩:=he
    exact k D a' N
  |_=>simp[Te]at hok
 |cond x y z ihy ihz=>
  intro c hok C f a e f' h' he I F Q k
  cases c with
  |cond v c d=>
   simp only[Te,af]at hok
   have r:=Be I F hok.1.1
   simp only[Bj]at he
   split at he
   ·rename_i t ht
    rw[ht]at r
    cases t with
    |true=>exact wp_cond_true r (ihy c hok.1.2 (by simpa using he) I F k)
    |false=>exact wp_cond_false r (ihz d hok.2 (by simpa using he) I F k)
   ·cases he
  |_=>simp[Te]at hok
 |blk id x ih=>
  intro c hok C f a e f' h' he I F Q k
  cases c with
  |block id' c=>
   simp only[Te,af,beq_iff_eq]at hok
   obtain⟨rfl,hok⟩:=hok
   simp only[Bj]at he
   obtain⟨p,hp,he⟩:=aj.1 he
   obtain⟨e1,f1,h1⟩:=p
   refine wp_block (ih c hok hp I F fun D a' N=> ?_)
   cases e1 with
   |normal=>
    simp only[ch]at he
    obtain⟨rfl,rfl,rfl⟩:=he
    exact k D a' N
   |ret=>
    simp only[ch]at he
    obtain⟨rfl,rfl,rfl⟩:=he
    exact k D a' N
   |exit id'=>
    simp only at he
    simp only[exOf,Exit.inBlock]
    by_cases hid:id'=id
    ·rw[qn hid]at he ⊢
     simp only[ch]at he
     obtain⟨rfl,rfl,rfl⟩:=he
     exact k D a' N
    ·rw[qo hid]at he ⊢
     simp only[ch]at he
     obtain⟨rfl,rfl,rfl⟩:=he
     exact k D a' N
  |_=>simp[Te]at hok
 |scope x ih=>
  intro c hok C f a e f' h' he I F Q k
  cases c with
  |scope c=>
   simp only[Te]at hok
   refine wp_scope_straight (ih c hok he I F fun D a' N=> ?_)
   have:=k D a' N
   cases e<;>exact this
  |_=>simp[Te]at hok
 |stop=>
  intro c hok C f a e f' h' he I F Q k
  simp[Bj]at he
 |keep Bo x ih=>
  intro c hok C f a e f' h' he I F Q k
  simp only[Te]at hok
  simp only[Bj]at he
  obtain⟨p,hp,he⟩:=aj.1 he
  obtain⟨e1,f1,h1⟩:=p
  refine ih c hok hp I F fun D a' N=> ?_
  cases e1 with
  |normal=>
   simp only[ch]at he
   obtain⟨rfl,rfl,rfl⟩:=he
   exact k D a' ⟨N.ext,N.inv,N.heap,N.fr.keep Bo⟩
  |exit id=>
   simp only[ch]at he
   obtain⟨rfl,rfl,rfl⟩:=he
   exact k D a' N
  |ret=>
   simp only[ch]at he
   obtain⟨rfl,rfl,rfl⟩:=he
   exact k D a' N
 |loop Bo x ih=>
  intro c hok C f a e f' h' he I F Q k
  cases c with
  |loop c=>
   simp only[Te]at hok
   simp only[Bj,lp]at he
   split at he
   ·rename_i hex
    have key: ∀(n:Nat) {D:DR} {f:Fr} {a:Act},S9 (Lu Bo (Bj tb cl x)) n f D.H=some (e,f',h')→LH C D→Inv tb D→BO D f a nt→Code.rounds P c Q n a D.w:=by
     intro n
     induction n with
     |zero=>intro D f a h;simp[S9]at h
     |succ n ihn=>
      intro D f a h X ID FD
      simp only[S9]at h
      rw[rounds_succ]
      have rnd: ∀{e1 f1 h1},Lu Bo (Bj tb cl x) f D.H=some (e1,f1,h1)→ ∃f2 h2,Bj tb cl x (keepL Bo f) D.H=some (e1,f2,h2)∧
        (e1= .normal→(f1,h1)=(keepL Bo f2,h2))∧(e1≠ .normal→f1=f2∧h1=h2):=by
       intro e1 f1 h1 hr
       simp only[Lu]at hr
       obtain⟨⟨e2,f2,h2⟩,hp,hr⟩:=aj.1 hr
       cases e2<;>simp only[ch]at hr
       ·obtain⟨he1,hq⟩:=hr
        subst he1
        exact⟨f2,h2,hp,fun _=>by rw[hq.1,hq.2],fun h=>absurd rfl h⟩
       all_goals obtain⟨rfl,rfl,rfl⟩:=hr
       ·exact⟨_,_,hp,fun h=>(by cases h),fun _=>⟨rfl,rfl⟩⟩
       ·exact⟨_,_,hp,fun h=>(by cases h),fun _=>⟨rfl,rfl⟩⟩
      cases hr:Lu Bo (Bj tb cl x) f D.H with
      |none=>rw[hr]at h;simp at h
      |some p=>
       obtain⟨e1,f1,h1⟩:=p
       rw[hr]at h
       obtain⟨f2,h2,hx,hn,ho⟩:=rnd hr
       refine ih c hok hx ID (FD.keep Bo) fun D' a' N=> ?_
       by_cases hnorm:e1= .normal
       ·subst hnorm
        have hs:=hn rfl
        simp only[]at h
        simp only[exOf,Exit.then]
        obtain⟨X',ID',hH',FD'⟩:=N
        simp only[ch]at hs
        obtain⟨rfl,rfl⟩:=hs
        exact ihn (D:=D') (f:=keepL Bo f2) (by rw[hH'];exact h) (X.trans X') ID' (FD'.keep Bo)
       ·obtain⟨rfl,rfl⟩:=ho hnorm
        have h':some (e1,f1,h1)=some (e,f',h'):=by
         cases e1 with
         |normal=>exact absurd rfl hnorm
         |exit id=>simpa using h
         |ret=>simpa using h
        simp only[ae,ch]at h'
        obtain⟨rfl,rfl,rfl⟩:=h'
        have:=k D' a' ⟨X.trans N.ext,N.inv,N.heap,N.fr⟩
        cases e1 with
        |normal=>exact absurd rfl hnorm
        |exit id=>exact this
        |ret=>exact this
    exact wp_loop_rounds _ (key _ he (lf C) I F)
   ·cases he
  |_=>simp[Te]at hok
end
end
section
def mQ(P:Program):LG→ResultVar→Bool
 | .tmp t, .tmp u=>t==u
 | .cell ag n a, .cell b t=>a==b&&ag==G6 P t&&n==P.cellsOf t&&(P.underlying t).isSome
 |_,_=>false
def QC(P:Program):List LG→List ResultVar→Bool
 |[],[]=>true
 |x::r,y::q=>mQ P x y&&QC P r q
 |_,_=>false
def yG(T:HB→Oper→Bool)(P:Program)(fn:CI)(g:Nat):Bool:=
 match P.funcs[g]? with
 |some F=>(match F.body with
  |some c=>Te T fn.nt fn.body c
  |none=>false)&& !(F.name== "runtime.NumGoroutine")&&fn.nt==F.ntmps&&decide (fn.np≤fn.nt)&&QC P fn.res F.results.toList
 |none=>false
section
variable{T:HB→Oper→Bool}{P:Program}{tb:Di}{cl:Nat→List AV→Az→Mb}{nt:Nat}
theorem YI{C:DR}(I:Inv tb C){t:TypeId}(hu:(P.underlying t).isSome=true){x:AV}{y:Value}(hr:HG C x y){v:AV}(h:load C.H (G6 P t) (P.cellsOf t) x=some v):
  ∃(p:Addr) (z:Value),y= .pointer (some p)∧(loadVar t p).run P C.w= .ok z C.w∧HG C v z:=by
 simp only[load]at h
 cases hp:place C.H x with
 |none=>rw[hp]at h;simp at h
 |some q=>
  obtain⟨cs,off⟩:=q
  rw[hp]at h
  simp only[aa]at h
  split at h
  ·rename_i hle
   obtain⟨b,base,vs,e,hh,hl,hs⟩:=eF I hr hp
   have hsub:=hh.sub off (P.cellsOf t)
   have hrl:B6 C (sub cs off (P.cellsOf t)) ((vs.drop off).take (P.cellsOf t)):=hl.drop.take
   have hlen:((vs.drop off).take (P.cellsOf t)).length=P.cellsOf t:=by
    rw[hrl.length];simp only[sub,a6,bh];omega
   obtain⟨q1,q2⟩:=Wf h (PL hs off _) hrl
   have hinfo:(P.info? t).isSome=true:=by
    obtain⟨d,hd⟩:=bl.1 hu
    exact info_of_underlying hd
   have hlc:=HJ (P:=P) hsub
   rw[hlen]at hlc
   cases hag:G6 P t with
   |true=>
    refine⟨_, .agg ((vs.drop off).take (P.cellsOf t)).toArray,e,?_,q1 hag⟩
    simp only[loadVar,Sem.run_bind,Sem.run_pure,Result.andThen_ok,Fu t C.w hu,hag,qt,Cq hinfo,hlc]
   |false=>
    obtain⟨z,hz,rz⟩:=q2 hag
    have hc:C.w.cell? ⟨b,base+off,none⟩=some z:=by
     have:=hsub 0 z (by rw[hz];rfl)
     simpa using this
    refine⟨_,z,e,?_,rz⟩
    simp only[loadVar,Sem.run_bind,Result.andThen_ok,Fu t C.w hu,hag,au,qu,run_load,hc]
  ·cases h
theorem mH{C:DR}(I:Inv tb C){f:Fr}{a:Act}(F:BO C f a nt): ∀(l:List LG) (rs:List ResultVar),QC P l rs=true→ ∀{vs:List AV},results f C.H l=some vs→
  ∃xs:List Value,(rs.mapM (m:=Sem) fun
   | .tmp t=>pure (a.tmps.getD t undef)
   | .cell b t=>do loadVar t (←asAddr (a.tmps.getD b undef))).run P C.w= .ok xs C.w∧B6 C vs xs:=by
 intro l
 induction l with
 |nil=>
  intro rs h vs e
  cases rs with
  |cons r rs=>simp[QC]at h
  |nil=>
   simp only[results,ae]at e
   subst e
   exact⟨[],by simp,rfl⟩
 |cons x l ih=>
  intro rs h vs e
  cases rs with
  |nil=>simp[QC]at h
  |cons r rs=>
   simp only[QC,af]at h
   obtain⟨h1,h2⟩:=h
   cases x with
   |tmp t=>
    cases r with
    |cell b t=>simp[mQ]at h1
    |tmp u=>
     simp only[mQ,beq_iff_eq]at h1
     subst h1
     simp only[results]at e
     obtain⟨vs',hv,rfl⟩:=aj.1 e
     obtain⟨xs,q1,q2⟩:=ih rs h2 hv
     refine⟨a.tmps.getD t undef::xs,?_,⟨_,_,rfl,F.rep t,q2⟩⟩
     simp only[nv,Sem.run_bind,Sem.run_pure,Result.andThen_ok,q1]
   |cell ag n t=>
    cases r with
    |tmp u=>simp[mQ]at h1
    |cell b ty=>
     simp only[mQ,af,beq_iff_eq]at h1
     obtain⟨⟨⟨rfl,rfl⟩,rfl⟩,hu⟩:=h1
     simp only[results]at e
     obtain⟨v,hv,e⟩:=ab.1 e
     obtain⟨vs',hv',rfl⟩:=aj.1 e
     obtain⟨xs,q1,q2⟩:=ih rs h2 hv'
     obtain⟨p,z,hp,hz,rz⟩:=YI I hu (F.rep t) hv
     refine⟨z::xs,?_,⟨_,_,rfl,rz,q2⟩⟩
     have ha:(asAddr (a.tmps.getD t undef)).run P C.w= .ok p C.w:=by rw[hp];rfl
     simp only[nv,Sem.run_bind,Sem.run_pure,Result.andThen_ok,ha,hz,q1]
def mO:List Value→Value
 |[x]=>x
 |xs=> .tuple xs.toArray
theorem Pb{C:DR}: ∀{vs:List AV} {xs:List Value},B6 C vs xs→HG C (GN vs) (mO xs)
 |[],xs,h=>by rw[show xs=[]from h];exact⟨[],rfl,rfl⟩
 |[v],xs,⟨x,q,e,h1,h2⟩=>by rw[e,show q=[]from h2];exact h1
 |v::u::vs,xs,⟨x,q,e,h1,⟨y,q',e',h2,h3⟩⟩=>by
  rw[e,e']
  exact⟨x::y::q',rfl,x,_,rfl,h1,y,_,rfl,h2,h3⟩
theorem mD{fn:Func}{C:DR}(I:Inv tb C){f:Fr}{a:Act}(F:BO C f a nt){l:List LG}(h:QC P l fn.results.toList=true){vs:List AV}(e:results f C.H l=some vs):
  ∃xs,(ox fn a.tmps).run P C.w= .ok (mO xs) C.w∧B6 C vs xs:=by
 obtain⟨xs,h1,h2⟩:=mH I F l _ h e
 refine⟨xs,?_,h2⟩
 have hrun:(ox fn a.tmps).run P C.w= .ok (if h:xs.toArray.size=1 then xs.toArray[0]else .tuple xs.toArray) C.w:=by
  unfold ox
  rw[Array.mapM_eq_mapM_toList,Sem.run_bind,Sem.run_map]
  exact qv (fun r=>(Result.andThen (Result.andThen r fun a w'=> .ok a.toArray w') fun a w'=>py P (pure (if h:a.size=1 then a[0]else Value.tuple a)) w')) h1
 rw[hrun]
 match xs with
 |[]=>rfl
 |[x]=>rfl
 |x::y::xs=>simp[mO]
end
end
end Go.Proofs.YtobejhpigbllpaaGreatDoor.Am
