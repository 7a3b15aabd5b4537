/-
  Each of the machine's operations does what the model's does: those that call nobody.
-/
import Derived.Laws.IdiomCopy
import Derived.Laws.StructEq
import Derived.Laws.Cells
import Derived.Laws.AppendOwn
import Derived.Laws.Tables
import Derived.ChangeKeysEq
import Derived.MapKept
import Derived.Laws.MakeOwn
import Derived.Laws.BytesString
import Derived.Lib.ConvBytes
import Derived.Lib.Builder
import Derived.Lib.UnsafeStr
import Derived.Still
import Derived.Tactics
import Derived.Test.YtfdkkkdbknbmaaaGreatDoorX0
set_option linter.unusedVariables false
set_option linter.unusedSimpArgs false
namespace Go.Proofs.YtfdkkkdbknbmaaaGreatDoor.Am
noncomputable section
open _root_.Array renaming getD_eq_getD_getElem?→cv, getElem?_append_left→lr, getElem?_eq_getElem→ff, getElem?_eq_none→kz, getElem?_eq_some_iff→od, getElem?_modify→lg, getElem?_setIfInBounds_ne→jh, getElem?_toList→qh, length_toList→mf, range→su, toList_extract→ls, toList_inj→kr, toList_map→md, toList_setIfInBounds→oa
open Bl renaming app→s6, ext→sy, flat→qz, lens→j8, take→r7
open Bool renaming and_eq_true→af, and_true→lc, false_eq_true→ah, not_eq_true'→ck, not_true→cq, or_eq_true→fu, true_and→kf
open Br renaming app→pg, ext→ri
open Builtin renaming append_→mm, copy_→oy, firstCells→en, lenOf→nm, len_→nz, unsafeString_→qj, zeroCells→ll
open _root_.ByteArray renaming ext→mh, push→qq, size→lw
open CG renaming more→q5
open Conv renaming unsafePointer→rl
open Go renaming binOp→er
open IV renaming refl→mj
open Instr renaming checkKey→ku, fill→ni, findAsking→nk, findKey→rh, findNow→kg, keyThatStays→mq, lookup→pp, mapUpdate→qc, sameBits→my, sameNow→j2, slice→sq, sliceAt→ow, sliceBounds→lj, sureAddr→kq
open IntKind renaming i64→tz
open List renaming all_append→ka, all_cons→fy, all_eq_true→cb, any_eq_true→jp, append_assoc→br, cons_append→cd, drop_append→me, drop_append_of_le_length→ed, drop_drop→cw, drop_eq_getElem_cons→da, drop_left'→fh, drop_of_length_le→fi, drop_succ_cons→jy, drop_take→ic, eq_nil_of_length_eq_zero→c0, extract→po, flatMap_cons→d5, flatten_append→gy, flatten_cons→bz, flatten_nil→o6, foldl_cons→nv, getElem?_append_left→bq, getElem?_append_right→bo, getElem?_cons_succ→di, getElem?_cons_zero→bw, getElem?_drop→gj, getElem?_eq_getElem→ab, getElem?_eq_some_iff→cg, getElem?_map→ge, getElem?_set_self→de, getElem?_take→dn, getElem?_toArray→jl, getElem_map→nj, getElem_mem→eu, getElem_of_mem→rd, length→jd, length_append→an, length_cons→ba, length_drop→bk, length_flatten→rc, length_nil→bu, length_replicate→qi, length_take→aq, mapM_cons→qp, map_append→df, map_cons→bh, map_nil→eo, map_take→ox, map_toArray→f7, mem_append→cf, mem_append_left→qt, mem_append_right→qk, mem_cons→bm, mem_cons_of_mem→a8, mem_cons_self→bg, mem_filter→fv, mem_flatten→o4, mem_map→eh, mem_of_getElem?→d8, mem_of_mem_drop→cz, mem_of_mem_take→co, mem_or_eq_of_mem_set→oq, mem_range'_1→dx, nil_append→dt, range'→dp, range'_succ→nh, range_eq_range'→nn, replicate→az, replicate_succ→kj, set_append_right→qg, set_cons_succ→j4, set_cons_zero→jo, size_toArray→lm, take→ra, take_append→jq, take_append_of_le_length→fc, take_of_length_le→au, take_succ_cons→i', take_succ_eq_append_getElem→bf, take_zero→lq, zipIdx_cons→kn
open List.cons renaming injEq→gr
open Nat renaming add_assoc→iw, add_mul→ga, add_zero→i6, beq→fx, beq_eq→lu, beq_refl→mc, blt→kh, eq_of_beq_eq_true→cm, eq_zero_or_pos→ez, le_of_lt→ph, le_refl→bc, le_trans→dj, lt_or_ge→ef, min_eq_left→fq, mod_eq_of_lt→j3, mod_lt→td, mul_le_mul_right→cn, mul_one→qr, sub_zero→ny, succ_mul→ci, zero_add→dc, zero_le→dz, zero_mul→kc
open Ne renaming symm→iz
open Op renaming equalIn→d6, shift→tc, stringOp→qo
open Option renaming bind_eq_some_iff→ad, bind_none→o5, bind_some→aa, getD_some→io, isSome_iff_exists→bn, isSome_none→rj, map_eq_some_iff→aj, map_none→dg, map_some→ak
open Option.some renaming inj→be, injEq→ae
open Prod.mk renaming injEq→ch
open Program renaming cellsOf→ml
open Region renaming wanted→o3
open Sem renaming run→sb
open UInt8 renaming ofNat→bb
open Utf8 renaming decode→il, encode→jc
open Value renaming cells→sn
open World renaming cell?→gg, freeze→pw, frozen?→j1, shape?→sc
section
def isS:AV→Value→Bool
 | .b x, .bool y=>x==y
 | .i k n, .int j m=>k==j&&n==m
 | .s l, .string s=>l==s.data.toList
 | .nilp, .pointer none=>true
 | .nils, .slice none 0 0=>true
 | .nilm, .map none=>true
 | .nilf, .nilFunc=>true
 | .nili, .nilIface=>true
 |_,_=>false
def P8:List AV→List Value→Bool
 |[],[]=>true
 |a::r,v::q=>isS a v&&P8 r q
 |_,_=>false
def isV(a:AV)(v:Value):Bool:=
 match a,v with
 | .agg cs, .agg vs=>P8 cs vs.toList
 |a,v=>isS a v
theorem isS_rep{C:CG}{a:AV}{v:Value}(h:isS a v=true):Gk C a v∧scal a=true:=by
 unfold isS at h
 split at h<;>simp only[ah,af,beq_iff_eq]at h
 ·subst h;exact⟨rfl,rfl⟩
 ·obtain⟨rfl,rfl⟩:=h;exact⟨rfl,rfl⟩
 ·subst h;exact⟨by simp[Gk],rfl⟩
 all_goals exact⟨rfl,rfl⟩
theorem Oa{C:CG}: ∀{l:List AV} {vs:List Value},P8 l vs=true→Br C l vs∧l.all scal=true
 |[],[],_=>⟨rfl,rfl⟩
 |[],_::_,h=>by simp[P8]at h
 |_::_,[],h=>by simp[P8]at h
 |_::_,v::q,h=>by
  simp only[P8,af]at h;obtain⟨h1,h2⟩:=isS_rep (C:=C) h.1;obtain⟨h3,h4⟩:=Oa (C:=C) h.2;exact⟨⟨v,q,rfl,h1,h3⟩,by simp[h2,h4]⟩
theorem isV_rep{C:CG}{a:AV}{v:Value}(h:isV a v=true):Gk C a v:=by
 unfold isV at h
 split at h
 ·rename_i cs vs;obtain⟨h1,h2⟩:=Oa (C:=C) h;exact⟨vs.toList,by simp,h2,h1⟩
 ·exact(isS_rep h).1
def Bz:AO→Operand→Bool
 | .t n, .tmp m=>n==m
 | .k a, .const v=>isV a v
 | .f n, .func m=>n==m
 | .g n, .global m=>n==m
 |_,_=>false
def Tm:List AO→List Operand→Bool
 |[],[]=>true
 |x::r,y::q=>Bz x y&&Tm r q
 |_,_=>false
def nC:Option AO→Option Operand→Bool
 |none,none=>true
 |some x,some y=>Bz x y
 |_,_=>false
def FJ(P:Program)(t:TypeId):Bool:=
 match P.underlying t with
 |some (.struct _)=>true
 |some (.array _ _)=>true
 |_=>false
structure BB(C:CG)(f:Fr)(a:Act)(nt:Nat):Prop where
 rep: ∀t,Gk C (get f t) (a.tmps.getD t undef)
 size:a.tmps.size=nt
 defers:a.defers=[]
section
variable{cl:Nat→List AV→A6→M2}{P:Program}{tb:CV}{C:CG}{f:Fr}{a:Act}{nt:Nat}
theorem Ba(I:Inv tb C)(F:BB C f a nt){x:AO}{y:Operand}(h:Bz x y=true):Gk C (eval tb f x) (a.eval y):=by
 cases x<;>cases y<;>simp only[Bz,ah,beq_iff_eq]at h
 ·subst h;exact F.rep _
 ·exact isV_rep h
 ·subst h;exact⟨[],[],rfl,rfl,rfl⟩
 ·subst h;simp only[eval,Act.eval]
  split
  ·rename_i cs hg;obtain⟨h1,h2,h3,vs,h4,h5⟩:=I.gl _ cs hg;exact⟨_,0,vs,rfl,h1,h2,h4,h3,h5⟩
  ·trivial
theorem Qp(I:Inv tb C)(F:BB C f a nt): ∀{xs:List AO} {ys:List Operand},Tm xs ys=true→Br C (xs.map (eval tb f)) (ys.map a.eval)
 |[],[],_=>rfl
 |[],_::_,h=>by simp[Tm]at h
 |_::_,[],h=>by simp[Tm]at h
 |_::_,y::q,h=>by
  simp only[Tm,af]at h;exact⟨a.eval y,q.map a.eval,rfl,Ba I F h.1,Qp I F h.2⟩
theorem BB.put(F:BB C f a nt){D:CG}(X:IV C D){d:Option Nat}(hd: ∀t,d=some t→t<nt){x:AV}{v:Value}(r:Gk D x v):BB D (put f d x) (a.put d v) nt:=by
 cases d with
 |none=>exact⟨fun t=>(F.rep t).ext X,F.size,F.defers⟩
 |some t=>
  have ht:=hd t rfl;refine⟨fun u=> ?_,by simp[Act.put,F.size],F.defers⟩;simp only[Am.put,get,Act.put]
  by_cases e:t=u
  ·subst e;rw[t6 rfl];have:(a.tmps.setIfInBounds t v).getD t undef=v:=by
    simp[cv,F.size,ht]
   rw[this];exact r
  ·rw[t7 e];have:(a.tmps.setIfInBounds t v).getD u undef=a.tmps.getD u undef:=by
    simp[cv,jh e]
   rw[this];exact(F.rep u).ext X
theorem BB.ext(F:BB C f a nt){D:CG}(X:IV C D):BB D f a nt:=⟨fun t=>(F.rep t).ext X,F.size,F.defers⟩
def Yields(tb:CV)(C:CG)(r:AV×Option A6)(x:Result Next):Prop:=
 ∃D:CG,IV C D∧Inv tb D∧D.H=r.2.getD C.H∧((∃v,x= .ok (.value v) D.w∧Gk D r.1 v)∨(x= .ok .skip D.w∧Gk D r.1 undef))
theorem AB(I:Inv tb C){r:AV}{v:Value}{x:Result Next}(h:x= .ok (.value v) C.w)(hr:Gk C r v):Yields tb C (r,none) x:=
 ⟨C,mj C,I,rfl, .inl ⟨v,h,hr⟩⟩
theorem QT(I:Inv tb C){r:AV}{v:Value}{x:Result Next}{p:Place}{o:BU}{w:World}(hrest:Rest C.w w)(h:x= .ok (.value v) w)
  (hs:C.w.heap.size<w.heap.size) (hp:p.blk=C.w.heap.size) (hw: ∀b,b<C.w.heap.size→w.heap[b]? =C.w.heap[b]?)
  (ho:Obj (C.more p o w) p o) (hr:(C.more p o w).φ C.H.length=p→Gk (C.more p o w) r v):Yields tb C (r,some (C.H++[o])) x:=by
 obtain⟨X,hI,hφ⟩:=more I (o:=o) hrest hs hp hw;exact⟨C.more p o w,X,hI ho,rfl, .inl ⟨v,h,hr hφ⟩⟩
theorem pA{o:Oper}{r:AV×Option A6}(h:Yields tb C r ((execOp a.eval o).run P C.w)){next:Act→World→Prop}{Q:Exit→Act→World→Prop}
  (k: ∀(v:Value) (D:CG),IV C D→Inv tb D→D.H=r.2.getD C.H→Gk D r.1 v→next (a.put o.dst v) D.w):o.wp P a C.w next Q:=by
 unfold Oper.wp;obtain⟨D,X,I,hH,⟨v,e,hr⟩|⟨e,hr⟩⟩:=h
 ·rw[e];exact k v D X I hH hr
 ·rw[e];exact k undef D X I hH hr
theorem A9{t:TypeId}{d:TypeDesc}(h:P.underlying t=some d)(w:World):(underlying t).run P w= .ok d w:=by
 simp[underlying,h]
theorem FN(t:TypeId)(w:World)(hd:(P.underlying t).isSome=true):(isAgg t).run P w= .ok (FJ P t) w:=by
 obtain⟨d,hd⟩:=bn.1 hd;simp only[isAgg,Sem.run_bind,A9 hd,Result.andThen_ok,FJ,hd];cases d<;>rfl
theorem HH{t:TypeId}{i:TypeInfo}(h:P.info? t=some i)(w:World):(typeInfo t).run P w= .ok i w:=by
 simp[typeInfo,h]
theorem Cg{t:TypeId}(h:(P.info? t).isSome=true)(w:World):(sizeOf t).run P w= .ok (P.cellsOf t) w:=by
 obtain⟨i,hi⟩:=bn.1 h;simp[sizeOf,HH hi,ml,hi]
theorem info_of_underlying{t:TypeId}{d:TypeDesc}(h:P.underlying t=some d):(P.info? t).isSome=true:=by
 unfold Program.underlying at h;cases hi:P.info? t with
 |none=>rw[hi]at h;simp at h
 |some i=>rfl
theorem Hc(b o n:Nat):(⟨b,o,none⟩:Addr).add n=⟨b,o+n,none⟩:=by
 unfold Addr.add;split<;>simp_all
theorem In{w:World}{b o:Nat}{vs:List Value}(h:E1 w b o vs):(loadCells ⟨b,o,none⟩ vs.length).run P w= .ok vs.toArray w:=
 run_loadCells_list (P:=P) w ⟨b,o,none⟩ vs fun j v e=>by rw[Hc];exact h j v e
theorem E1.sub{w:World}{b base:Nat}{vs:List Value}(h:E1 w b base vs)(off n:Nat):E1 w b (base+off) ((vs.drop off).take n):=by
 intro j v e;rw[dn]at e
 split at e
 ·rw[gj]at e;rw[iw];exact h _ v e
 ·simp at e
theorem Sa{cs:List AV}(h:cs.all scal=true)(off n:Nat):(sub cs off n).all scal=true:=by
 simp only[cb,sub]at*;exact fun x hx=>h x (cz (co hx))
theorem Ze{cs:List AV}{vs:List Value}{agg:Bool}{v:AV}(h:I1 agg cs=some v)(hs:cs.all scal=true)(r:Br C cs vs):
  (agg=true→Gk C v (.agg vs.toArray))∧(agg=false→ ∃x,vs=[x]∧Gk C v x):=by
 cases agg with
 |true=>
  simp only[I1]at h;obtain rfl:=be h;exact⟨fun _=>⟨vs,rfl,hs,r⟩,fun e=>by cases e⟩
 |false=>
  refine⟨fun e=>(by cases e),fun _=> ?_⟩
  match cs,h with
  |[c],h=>
   simp only[I1]at h;obtain rfl:=be h;obtain⟨x,q,e,h1,h2⟩:=r;exact⟨x,by rw[e,show q=[]from h2],h1⟩
theorem mT(I:Inv tb C){x:AV}{v:Value}(r:Gk C x v){cs:List AV}{off:Nat}(h:place C.H x=some (cs,off)):
  ∃b base vs,v= .pointer (some ⟨b,base+off,none⟩)∧E1 C.w b base vs∧Br C cs vs∧cs.all scal=true:=by
 cases x<;>simp only[place]at h
 case ptr id o=>
  unfold BR at h
  split at h
  ·rename_i t' cs' hc;simp only[ak,ae,ch]at h;obtain⟨rfl,rfl⟩:=h;obtain⟨_,e⟩:=r;obtain⟨vs,arr,et,fr,⟨h1,hlb⟩,h2,h3,h4,h5,h6⟩:=I.obj id _ hc;exact⟨_,0,vs,by simpa using e,h5,h4,h3⟩
  ·simp at h
 case pe id n i o=>
  obtain⟨_,fz,sz,els,hg,hl,e⟩:=r;simp only[hg,aa]at h
  split at h
  ·rename_i hn;simp only[ae,ch]at h;obtain⟨rfl,rfl⟩:=h;obtain⟨tl,hg',hlab⟩:=Ks hg;obtain⟨vss,arr,et,fr,⟨h1,hfr0,hlb⟩,h2,h3,h4,h5,h6,h7,h8,h9⟩:=I.obj id _ hg';have hlens:=j8 (fun x hx=>(h4 x hx).1) h5;have hfl: ∀(l:List (List Value)) (i:Nat),(∀y∈l,y.length=sz)→(l.drop i).flatten=l.flatten.drop (i*sz):=by
    intro l
    induction l with
    |nil=>intro i _;simp
    |cons y l ih=>
     intro i hy;have hyl:=hy y bg;cases i with
     |zero=>simp
     |succ i=>
      simp only[jy,bz];rw[ih i (fun z hz=>hy z (a8 _ hz)),show(i+1)*sz=y.length+i*sz by rw[hyl,ci];omega,←cw,fh rfl]
   refine⟨_,(C.φ id).base+i*sz,(vss.drop i).flatten,by rw[e hn],fun j u hu=> ?_,qz h5.drop,cb.2 fun x hx=>(by obtain⟨y,hy,hx⟩:=o4.1 hx;exact cb.1 (h4 y (cz hy)).2 x hx)⟩;rw[hfl vss i hlens,gj]at hu;rw[iw];exact h7 _ u hu
  ·simp at h
 case ip cs' o=>
  simp only[ae,ch]at h;obtain⟨rfl,rfl⟩:=h;obtain⟨b,base,vs,e,_,_,h1,h2,h3⟩:=r;exact⟨b,base,vs,e,h1,h3,h2⟩
 all_goals simp at h
theorem sim_ld(I:Inv tb C)(F:BB C f a nt){o:Oper}{t:TypeId}{x:AO}{y:Operand}(ho:o.op= .load t y)(hx:Bz x y=true)(hu:(P.underlying t).isSome=true)
  {r:AV×Option A6} (h:val (load C.H (FJ P t) (P.cellsOf t) (eval tb f x))=some r):Yields tb C r ((execOp a.eval o).run P C.w):=by
 have hr:=Ba I F hx;simp only[val,load]at h;cases hp:place C.H (eval tb f x)with
 |none=>rw[hp]at h;simp at h
 |some p=>
  obtain⟨cs,off⟩:=p;rw[hp]at h;simp only[aa]at h
  split at h
  ·rename_i hle;cases hv:I1 (FJ P t) (sub cs off (P.cellsOf t))with
   |none=>rw[hv]at h;simp at h
   |some v=>
    rw[hv]at h;obtain rfl:=be h;obtain⟨b,base,vs,e,hh,hl,hs⟩:=mT I hr hp;have hsub:=hh.sub off (P.cellsOf t);have hrl:Br C (sub cs off (P.cellsOf t)) ((vs.drop off).take (P.cellsOf t)):=hl.drop.take;have hlen:((vs.drop off).take (P.cellsOf t)).length=P.cellsOf t:=by
     rw[hrl.length];simp only[sub,aq,bk];omega
    obtain⟨q1,q2⟩:=Ze hv (Sa hs off _) hrl;have hinfo:(P.info? t).isSome=true:=by
     obtain⟨d,hd⟩:=bn.1 hu;exact info_of_underlying hd
    have hlc:=In (P:=P) hsub;rw[hlen]at hlc;cases hag:FJ P t with
    |true=>
     refine AB I (v:= .agg ((vs.drop off).take (P.cellsOf t)).toArray) ?_ (q1 hag);simp only[execOp,ho,e,Instr.loadAt,kq,loadVar,Sem.run_bind,Sem.run_pure,Result.andThen_ok,FN t C.w hu,hag,uc,Cg hinfo,hlc]
    |false=>
     obtain⟨z,hz,rz⟩:=q2 hag;refine AB I (v:=z) ?_ rz;have hc:C.w.cell? ⟨b,base+off,none⟩=some z:=by
      have:=hsub 0 z (by rw[hz];rfl);simpa using this
     simp only[execOp,ho,e,Instr.loadAt,kq,loadVar,Sem.run_bind,Sem.run_pure,Result.andThen_ok,FN t C.w hu,hag,ah,ud,run_load,hc]
  ·simp at h
theorem sim_mv(I:Inv tb C)(F:BB C f a nt){o:Oper}{x:AO}{y:Operand}(ho:o.op= .move y∨o.op= .assign y)(hx:Bz x y=true):Yields tb C (eval tb f x,none) ((execOp a.eval o).run P C.w):=by
 refine AB I (v:=a.eval y) ?_ (Ba I F hx);rcases ho with ho|ho<;>simp only[execOp,ho,Sem.run_pure]
theorem sim_pick(I:Inv tb C)(F:BB C f a nt){o:Oper}{x1 x2 x3:AO}{y1 y2 y3:Operand}(ho:o.op= .pick y1 y2 y3)(h1:Bz x1 y1=true)(h2:Bz x2 y2=true)(h3:Bz x3 y3=true)
  {t:Bool} (h:eval tb f x1= .b t):Yields tb C (if t then eval tb f x2 else eval tb f x3,none) ((execOp a.eval o).run P C.w):=by
 have r1:=Ba I F h1;rw[h]at r1;refine AB I (v:=if t then a.eval y2 else a.eval y3) ?_ ?_
 ·simp only[execOp,ho,show a.eval y1= .bool t from r1,asBool,Sem.run_bind,Sem.run_pure,Result.andThen_ok]
 ·cases t
  ·exact Ba I F h3
  ·exact Ba I F h2
theorem IR(w:World)(o:Go.Obj):(w.alloc o).heap[w.heap.size]? =some o:=Array.getElem?_push_size
theorem alloc_old(w:World)(o:Go.Obj){b:Nat}(h:b<w.heap.size):(w.alloc o).heap[b]? =w.heap[b]? :=by
 show(w.heap.push o)[b]? =_;rw[Array.getElem?_push,t7 (by omega)]
theorem H3(w:World)(o:Go.Obj):(w.alloc o).heap.size=w.heap.size+1:=Array.size_push _
theorem cR(I:Inv tb C){cs:List AV}{vs:Array Value}{e:TypeId}(hs:cs.all scal=true)(hr:Br C cs vs.toList){x:Result Next}
  (h:x= .ok (.value (.pointer (some ⟨C.w.heap.size,0,none⟩))) (C.w.alloc (.cells vs e))):Yields tb C (.ptr C.H.length 0,some (C.H++[BU.cells (some e) cs])) x:=by
 have hlen:vs.size=cs.length:=by have:=hr.length;simpa using this
 have hlt:C.w.heap.size<(C.w.alloc (.cells vs e)).heap.size:=by rw[H3];omega
 refine QT (w:=C.w.alloc (.cells vs e)) I (p:=⟨C.w.heap.size,0,vs.size⟩) ⟨rfl,rfl,rfl⟩ h hlt rfl (fun b hb=>alloc_old _ _ hb) ?_ ?_
 ·have X:=(more (w:=C.w.alloc (.cells vs e)) I (o:=BU.cells (some e) cs) (p:=⟨C.w.heap.size,0,vs.size⟩) ⟨rfl,rfl,rfl⟩ hlt rfl (fun b hb=>alloc_old _ _ hb)).1;have hn:(C.more ⟨C.w.heap.size,0,vs.size⟩ (BU.cells (some e) cs) (C.w.alloc (.cells vs e))).w.heap[C.w.heap.size]? =some (.cells vs e):=IR _ _;refine⟨vs.toList,vs,e,(0,0),⟨hn,fun k hk=>by cases hk;rfl⟩,hlen,hs,hr.ext X,?_,?_⟩
  ·intro j v hj;simp only[gg,hn,dc];simpa using hj
  ·intro o ho;simp only[j1,hn];simp
 ·intro hφ;exact⟨⟨BU.cells (some e) cs,by simp[q5],rfl⟩,by rw[hφ]⟩
theorem sim_alloc(I:Inv tb C){o:Oper}{t:TypeId}{z:List AV}{i:TypeInfo}{zv:Value}(ho:o.op= .alloc t)(hi:P.info? t=some i)(hz:i.zero=some zv)(hv:P8 z zv.cells.toList=true):
  Yields tb C (.ptr C.H.length 0,some (C.H++[BU.cells (some t) z])) ((execOp a.eval o).run P C.w):=by
 obtain⟨h1,h2⟩:=Oa (C:=C) hv;refine cR I (e:=t) h2 h1 ?_;simp only[execOp,ho,Instr.alloc,zeroValue,Sem.run_bind,HH hi,Result.andThen_ok,hz,Sem.run_pure,newVar,newRow,run_newObj]
 rfl
theorem AbT{x:AV}{v:Value}(hx:scal x=true)(r:Gk C x v):v.oneCell'=true∧v.cells= #[v]:=by
 cases x<;>simp only[scal,ah]at hx<;>simp only[Gk]at r
 case pe=>obtain⟨⟨p,rfl⟩,_⟩:=r;exact⟨rfl,rfl⟩
 case orow=>obtain⟨⟨p,c,rfl⟩,_⟩:=r;exact⟨rfl,rfl⟩
 case ptr=>obtain⟨_,rfl⟩:=r;exact⟨rfl,rfl⟩
 case ip=>obtain⟨_,_,_,rfl,_⟩:=r;exact⟨rfl,rfl⟩
 case sl=>rcases r with ⟨_,_,_,_,rfl,_⟩|⟨_,_,_,rfl⟩<;>exact⟨rfl,rfl⟩
 case ocel=>obtain⟨_,_,_,rfl,_⟩:=r;exact⟨rfl,rfl⟩
 case mp=>obtain⟨_,rfl⟩:=r;exact⟨rfl,rfl⟩
 case fn=>obtain⟨_,_,rfl,_⟩:=r;exact⟨rfl,rfl⟩
 case ifc=>obtain⟨_,_,rfl,_⟩:=r;exact⟨rfl,rfl⟩
 all_goals (subst r;exact⟨rfl,rfl⟩)
theorem Qv: ∀{cs:List AV} {vs:List Value},cs.all scal=true→Br C cs vs→ ∀v∈vs,v.oneCell'=true
 |[],_,_,h,v,hv=>by rw[show _=[]from h]at hv;cases hv
 |x::_,_,hs,⟨u,q,e,h,r⟩,v,hv=>by
  simp only[fy,af]at hs;rw[e]at hv;rcases bm.1 hv with e'|hv
  ·subst e';exact(AbT hs.1 h).1
  ·exact Qv hs.2 r v hv
theorem QL{x:AV}{v:Value}(r:Gk C x v)(hn:0<(cellsOf x).length):Br C (cellsOf x) v.cells.toList∧(cellsOf x).all scal=true:=by
 by_cases hx:scal x=true
 ·have hc:cellsOf x=[x]:=by cases x<;>simp_all [scal,cellsOf]
  rw[hc,(AbT hx r).2];exact⟨⟨v,[],rfl,r,rfl⟩,by simp[hx]⟩
 ·cases x<;>simp only[scal,not_true_eq_false,ah,not_false_eq_true]at hx
  case agg cs=>
   obtain⟨vs,e,h1,h2⟩:=r;subst e;exact⟨by simpa [cellsOf,sn]using h2,h1⟩
  case tup cs=>simp[cellsOf]at hn
  case junk=>simp[cellsOf]at hn
theorem sim_box(I:Inv tb C)(F:BB C f a nt){o:Oper}{t:TypeId}{x:AO}{y:Operand}(ho:o.op= .box t y)(hx:Bz x y=true)(hn:0<(cellsOf (eval tb f x)).length):
  Yields tb C (.ptr C.H.length 0,some (C.H++[BU.cells (some t) (cellsOf (eval tb f x))])) ((execOp a.eval o).run P C.w):=by
 obtain⟨h1,h2⟩:=QL (Ba I F hx) hn;refine cR I (e:=t) h2 h1 ?_;simp only[execOp,ho,Instr.box,Sem.run_bind,Result.andThen_ok,Sem.run_pure,newVar,newRow,run_newObj]
 rfl
theorem sim_nilc(I:Inv tb C)(F:BB C f a nt){o:Oper}{x:AO}{y:Operand}(ho:o.op= .nilCheck y)(hx:Bz x y=true){r:AV×Option A6}
  (h:BA tb cl (eval tb f) C.H (.nilc x)=some r):Yields tb C r ((execOp a.eval o).run P C.w):=by
 have hr:=Ba I F hx;simp only[BA]at h
 split at h<;>simp only[ae,reduceCtorEq]at h
 ·rename_i e;subst h;rw[e]at hr;refine AB I (v:=a.eval y) ?_ hr;obtain⟨_,e'⟩:=hr;simp only[execOp,ho,e',Sem.run_pure]
 ·rename_i e;subst h;rw[e]at hr;refine AB I (v:=a.eval y) ?_ hr;obtain⟨⟨_,e'⟩,_⟩:=hr;simp only[execOp,ho,e',Sem.run_pure]
 ·rename_i e;subst h;rw[e]at hr;refine AB I (v:=a.eval y) ?_ hr;obtain⟨_,_,_,e',_⟩:=hr;simp only[execOp,ho,e',Sem.run_pure]
 ·rename_i e;subst h;rw[e]at hr;refine AB I (v:=a.eval y) ?_ hr;obtain⟨_,_,e',_⟩:=hr;simp only[execOp,ho,e',Sem.run_pure]
theorem KW(l:List UInt8):(⟨l.toArray⟩:ByteArray).toList=l:=by
 rw[ByteArray.toList_eq]
theorem Ub(l:List UInt8):(⟨l.toArray⟩:ByteArray).size=l.length:=by
 show l.toArray.size=_;simp
theorem Jp{x:AV}{v:Value}{n:Int}(r:Gk C x v)(h:Ir x=some n): ∃k,x= .i k n∧v= .int k n:=by
 cases x<;>simp only[Ir,reduceCtorEq,ae]at h;subst h;exact⟨_,rfl,r⟩
theorem sim_bin(I:Inv tb C)(F:BB C f a nt){o:Oper}{op:BinOp}{t u:TypeId}{x1 x2:AO}{y1 y2:Operand}(ho:o.op= .binOp op t y1 y2 u)(h1:Bz x1 y1=true)(h2:Bz x2 y2=true)
  {r:AV×Option A6} (h:val (bin op (eval tb f x1) (eval tb f x2))=some r):Yields tb C r ((execOp a.eval o).run P C.w):=by
 have r1:=Ba I F h1;have r2:=Ba I F h2;generalize hx1:eval tb f x1=v1 at*;generalize hx2:eval tb f x2=v2 at*;cases v1<;>cases v2<;>simp only[bin,val,dg,reduceCtorEq]at h
 case i.i k n k' m=>
  have e1:a.eval y1= .int k n:=r1;have e2:a.eval y2= .int k' m:=r2;have hg:(eqGuard op t y1 y2 (.int k n) (.int k' m)).run P C.w= .ok () C.w:=by
   simp only[eqGuard];split<;>rfl
  have hrun: ∀v,(er op t (.int k n) (.int k' m)).run P C.w= .ok v C.w→(execOp a.eval o).run P C.w= .ok (.value v) C.w:=by
   intro v hv;simp only[execOp,ho,e1,e2,Sem.run_bind,hg,Result.andThen_ok,hv,Sem.run_pure]
  by_cases hk:k=k'
  ·subst hk;cases op<;>simp only[uc]at h
   case shl=>
    split at h<;>simp only[dg,ak,reduceCtorEq,ae]at h
    subst h;exact AB I (hrun _ (by simp[er,tc, *])) rfl
   case shr=>
    split at h<;>simp only[dg,ak,reduceCtorEq,ae]at h
    subst h;exact AB I (hrun _ (by simp[er,tc, *])) rfl
   case quo=>
    split at h<;>simp only[dg,ak,reduceCtorEq,ae]at h
    subst h;exact AB I (hrun _ (by simp[er,Op.intDiv, *])) rfl
   case rem=>
    split at h<;>simp only[dg,ak,reduceCtorEq,ae]at h
    subst h;exact AB I (hrun _ (by simp[er,Op.intDiv, *])) rfl
   all_goals
    simp only[ak,ae]at h;subst h;exact AB I (hrun _ (by simp[er,Op.intArith,Op.intBits,Op.intCmp,bitsI])) rfl
  ·cases op<;>simp only[t7 hk,dg,reduceCtorEq]at h
   case shl=>
    split at h<;>simp only[dg,ak,reduceCtorEq,ae]at h
    subst h;exact AB I (hrun _ (by simp[er,tc, *])) rfl
   case shr=>
    split at h<;>simp only[dg,ak,reduceCtorEq,ae]at h
    subst h;exact AB I (hrun _ (by simp[er,tc, *])) rfl
 case s.s l m=>
  have e1:a.eval y1= .string ⟨l.toArray⟩:=r1;have e2:a.eval y2= .string ⟨m.toArray⟩:=r2;have hg:(eqGuard op t y1 y2 (.string ⟨l.toArray⟩) (.string ⟨m.toArray⟩)).run P C.w= .ok () C.w:=by
   simp only[eqGuard];split<;>rfl
  have hrun: ∀v,(qo op ⟨l.toArray⟩ ⟨m.toArray⟩).run P C.w= .ok v C.w→(execOp a.eval o).run P C.w= .ok (.value v) C.w:=by
   intro v hv;simp only[execOp,ho,e1,e2,Sem.run_bind,hg,Result.andThen_ok,Sem.run_pure];have:er op t (.string ⟨l.toArray⟩) (.string ⟨m.toArray⟩)=qo op ⟨l.toArray⟩ ⟨m.toArray⟩:=by cases op<;>rfl
   rw[this,hv]
   rfl
  cases op<;>simp only[ak,dg,ae,reduceCtorEq]at h
  case add=>
   split at h<;>simp only[dg,ak,reduceCtorEq,ae]at h
   rename_i hle;subst h;refine AB I (v:= .string (⟨l.toArray⟩++⟨m.toArray⟩)) (hrun _ ?_) ?_
   ·have: ¬(((⟨l.toArray⟩:ByteArray).size+(⟨m.toArray⟩:ByteArray).size:Nat):Int)>tz.max:=by
     rw[Ub,Ub];have:tz.max=9223372036854775807:=rfl;rw[this];unfold Ci at hle;omega
    simp only[qo,t7 this,Sem.run_pure]
   ·show _=_;congr 1
  all_goals
   subst h;exact AB I (hrun _ (by simp only[qo,KW,Sem.run_pure])) rfl
theorem sim_un(I:Inv tb C)(F:BB C f a nt){o:Oper}{op:UnOp}{t:TypeId}{x:AO}{y:Operand}(ho:o.op= .unOp op t y)(hx:Bz x y=true)
  {r:AV×Option A6} (h:val (un op (eval tb f x))=some r):Yields tb C r ((execOp a.eval o).run P C.w):=by
 have r1:=Ba I F hx;generalize eval tb f x=v1 at*;cases v1<;>simp only[un,val,dg,reduceCtorEq]at h
 case i k n=>
  have e1:a.eval y= .int k n:=r1;cases op<;>simp only[ak,dg,ae,reduceCtorEq]at h
  all_goals
   subst h;refine AB I (v:= .int k _) ?_ rfl;simp[execOp,ho,e1,Op.unary,Op.intArith,Op.intBits,bitsI]
 case b q=>
  have e1:a.eval y= .bool q:=r1;cases op<;>simp only[ak,dg,ae,reduceCtorEq]at h;subst h;refine AB I (v:= .bool _) ?_ rfl;simp[execOp,ho,e1,Op.unary]
theorem sim_cvi(I:Inv tb C)(F:BB C f a nt){o:Oper}{k:IntKind}{s d:TypeId}{x:AO}{y:Operand}(ho:o.op= .convert s d y)(hs:(P.underlying s).isSome=true)(hd:P.underlying d=some (.int k))(hx:Bz x y=true)
  {n:Int} (h:Ir (eval tb f x)=some n):Yields tb C (.i k (k.wrap n),none) ((execOp a.eval o).run P C.w):=by
 obtain⟨k',_,e⟩:=Jp (Ba I F hx) h;obtain⟨ds,hs⟩:=bn.1 hs;refine AB I (v:= .int k (k.wrap n)) ?_ rfl;simp only[execOp,ho,e,convert,Sem.run_bind,A9 hs,A9 hd,Result.andThen_ok];cases ds<;>rfl
theorem sim_cvc(I:Inv tb C)(F:BB C f a nt){o:Oper}{s d:TypeId}{x:AO}{y:Operand}(ho:o.op= .convert s d y)(hs:(P.underlying s).isSome=true)(hd:P.underlying d=some .string)(hx:Bz x y=true)
  {n:Int} (h:Ir (eval tb f x)=some n):Yields tb C (.s (jc n).data.toList,none) ((execOp a.eval o).run P C.w):=by
 obtain⟨k',_,e⟩:=Jp (Ba I F hx) h;obtain⟨ds,hs⟩:=bn.1 hs;refine AB I (v:= .string (jc n)) ?_ (by simp[Gk]);simp only[execOp,ho,e,convert,Sem.run_bind,A9 hs,A9 hd,Result.andThen_ok];cases ds<;>rfl
theorem sim_mkf(I:Inv tb C)(F:BB C f a nt){o:Oper}{fn:Fn}{x1 x2:List AO}{y1 y2:Array Operand}(ho:o.op= .makeFunc fn y1 y2)(h1:Tm x1 y1.toList=true)(h2:Tm x2 y2.toList=true):
  Yields tb C (.fn fn (x1.map (eval tb f)) (x2.map (eval tb f)),none) ((execOp a.eval o).run P C.w):=by
 refine AB I (v:= .func fn (y1.map a.eval) (y2.map a.eval)) ?_ ?_
 ·simp only[execOp,ho,Instr.makeFunc,Sem.run_bind,Sem.run_pure,Result.andThen_ok]
 ·exact⟨y1.toList.map a.eval,y2.toList.map a.eval,by rw[←md,←md],Qp I F h1,Qp I F h2⟩
theorem sim_mkif(I:Inv tb C)(F:BB C f a nt){o:Oper}{t:TypeId}{x:AO}{y:Operand}(ho:o.op= .makeInterface t y)(ht: ∀m,P.underlying t≠some (.interface m))(hs:(P.underlying t).isSome=true)(hx:Bz x y=true):
  Yields tb C (.ifc 0 .junk,none) ((execOp a.eval o).run P C.w):=by
 obtain⟨ds,hs⟩:=bn.1 hs;refine AB I (v:= .iface t (a.eval y)) ?_ ⟨_,_,rfl,trivial⟩;simp only[execOp,ho,Instr.makeInterface,Sem.run_bind,A9 hs,Result.andThen_ok];cases ds<;>first|rfl|exact absurd hs (ht _)
theorem sim_ext(I:Inv tb C)(F:BB C f a nt){o:Oper}{x:AO}{y:Operand}{i:Nat}(ho:o.op= .extract y i)(hx:Bz x y=true){vs:List AV}(h:eval tb f x= .tup vs){v:AV}(hv:vs[i]? =some v):
  Yields tb C (v,none) ((execOp a.eval o).run P C.w):=by
 have r:=Ba I F hx;rw[h]at r;obtain⟨us,e,hr⟩:=r;obtain⟨u,hu,ru⟩:=hr.get hv;refine AB I (v:=u) ?_ ru;simp only[execOp,ho,e,Instr.extract];simp[hu]
theorem F9{o:Oper}{c:Call}{b:Builtin}(ho:o.op= .call c)(hc:c.callee= .builtin b){x:Result Next}
  (h: ∀q,(builtin b c.argTypes o.type q (c.args.map a.eval)).run P C.w=x):(execOp a.eval o).run P C.w=x:=by
 simp only[execOp,ho,resolve,hc,invoke,Sem.run_bind,Sem.run_pure,Result.andThen_ok];exact h _
theorem len?_rep{x:AV}{v:Value}{n:Nat}(r:Gk C x v)(h:Tq x=some n): ∃p c,v= .slice p n c:=by
 cases x<;>simp only[Tq,reduceCtorEq,ae]at h
 case nils=>subst h;exact⟨none,0,r⟩
 case sl=>
  subst h;rcases r with ⟨b,base,cap,vss,e,_⟩|⟨rfl,p,cap,e⟩
  ·exact⟨_,_,e⟩
  ·exact⟨_,_,e⟩
 case orow=>subst h;obtain⟨⟨p,c,e⟩,_⟩:=r;exact⟨_,_,e⟩
 case ocel=>subst h;obtain⟨_,o,c,e,_⟩:=r;exact⟨_,_,e⟩
theorem sim_len(I:Inv tb C)(F:BB C f a nt){o:Oper}{c:Call}{t e:TypeId}{x:AO}{y:Operand}(ho:o.op= .call c)(hc:c.callee= .builtin .len)(ht:c.argTypes[0]? =some t)(ha:c.args= #[y])
  (hx:Bz x y=true) {n:Nat} (h:Tq (eval tb f x)=some n) (hu:P.underlying t=some (.slice e)):
  Yields tb C (.i .i64 n,none) ((execOp a.eval o).run P C.w):=by
 have r:=Ba I F hx;refine AB I (v:= .int .i64 n) (F9 ho hc fun q=> ?_) rfl;simp only[ha,f7,bh,eo,builtin,Sem.run_bind,nz,ht];obtain⟨p,cc,e⟩:=len?_rep r h;simp[e,A9 hu,goInt]
theorem sim_lens(I:Inv tb C)(F:BB C f a nt){o:Oper}{c:Call}{t:TypeId}{x:AO}{y:Operand}(ho:o.op= .call c)(hc:c.callee= .builtin .len)(ht:c.argTypes[0]? =some t)(ha:c.args= #[y])
  (hx:Bz x y=true) {l:List UInt8} (h:eval tb f x= .s l) (hu:P.underlying t=some .string):
  Yields tb C (.i .i64 (l.length:Nat),none) ((execOp a.eval o).run P C.w):=by
 have r:=Ba I F hx;rw[h]at r;have r':a.eval y= .string ⟨l.toArray⟩:=r;refine AB I (v:= .int .i64 (l.length:Nat)) (F9 ho hc fun q=> ?_) rfl;simp only[ha,f7,bh,eo,builtin,Sem.run_bind,nz,ht];simp[r',A9 hu,goInt,Ub]
theorem mG{x y:AV}{v:Value}{off:Nat}(r:Gk C x v)(h:shift off x=some y): ∃b q,v= .pointer (some ⟨b,q,none⟩)∧Gk C y (.pointer (some ⟨b,q+off,none⟩))∨(∃p,v= .pointer (some p))∧ ∀u p,u=Value.pointer (some p)→Gk C y u:=by
 cases x<;>simp only[shift,reduceCtorEq,ae]at h<;>subst h
 case ptr id o=>
  obtain⟨h1,e⟩:=r;exact⟨_,_, .inl ⟨e,h1,rfl⟩⟩
 case pe id n i o=>
  obtain⟨⟨p,e⟩,fz,sz,els,hg,hl,k⟩:=r
  by_cases hn:n=els.length
  ·exact⟨_,_, .inl ⟨k hn,⟨_,rfl⟩,fz,sz,els,hg,hl,fun _=>by rw[iw]⟩⟩
  ·exact⟨0,0, .inr ⟨⟨p,e⟩,fun u p hu=>⟨⟨p,hu⟩,fz,sz,els,hg,hl,fun q=>absurd q hn⟩⟩⟩
 case ip cs o=>
  obtain⟨b,base,vs,e,h1⟩:=r;exact⟨_,_, .inl ⟨e,b,base,vs,by rw[iw],h1⟩⟩
theorem sim_fa(I:Inv tb C)(F:BB C f a nt){o:Oper}{t:TypeId}{x:AO}{y:Operand}{i:Nat}{fs:Array Field}{fd:Field}(ho:o.op= .fieldAddr t y i)(hu:P.underlying t=some (.struct fs))(hf:fs[i]? =some fd)
  (hz:(P.info? fd.type).isSome=true) (hz0:P.cellsOf fd.type≠0) (hx:Bz x y=true) {r:AV×Option A6} (h:val (shift fd.offset (eval tb f x))=some r):Yields tb C r ((execOp a.eval o).run P C.w):=by
 have hr:=Ba I F hx;simp only[val]at h;cases hs:shift fd.offset (eval tb f x)with
 |none=>rw[hs]at h;simp at h
 |some y'=>
  rw[hs]at h;obtain rfl:=be h;have run: ∀p:Addr,a.eval y= .pointer (some p)→(execOp a.eval o).run P C.w= .ok (.value (.pointer (some (p.add fd.offset)))) C.w:=by
   intro p hp;simp only[execOp,ho,hp,Instr.fieldAt,Sem.run_bind,A9 hu,Result.andThen_ok,hf,kq,Sem.run_pure,fieldPlace,Cg hz,t7 hz0]
  obtain⟨b,q,⟨e,r'⟩|⟨⟨p,e⟩,r'⟩⟩:=mG hr hs
  ·exact AB I (run _ e) (by rw[Hc];exact r')
  ·exact AB I (run _ e) (r' _ _ rfl)
theorem sim_iaa(I:Inv tb C)(F:BB C f a nt){o:Oper}{t e:TypeId}{x i:AO}{y j:Operand}{len:Nat}(ho:o.op= .indexAddr t y j)(hu:P.underlying t=some (.array len e))
  (hz:(P.info? e).isSome=true) (hx:Bz x y=true) (hi:Bz i j=true) {n:Int} (hn:Ir (eval tb f i)=some n) (h0:0≤n∧n<len) {r:AV×Option A6} (h:val (shift (n.toNat*P.cellsOf e) (eval tb f x))=some r):
  Yields tb C r ((execOp a.eval o).run P C.w):=by
 have hr:=Ba I F hx;obtain⟨k,_,ej⟩:=Jp (Ba I F hi) hn;simp only[val]at h;cases hs:shift (n.toNat*P.cellsOf e) (eval tb f x)with
 |none=>rw[hs]at h;simp at h
 |some y'=>
  rw[hs]at h;obtain rfl:=be h;have run: ∀p:Addr,a.eval y= .pointer (some p)→(execOp a.eval o).run P C.w= .ok (.value (.pointer (some (p.add (n.toNat*P.cellsOf e))))) C.w:=by
   intro p hp;simp only[execOp,ho,hp,ej,Instr.indexAt,asIntOf,Sem.run_bind,A9 hu,Result.andThen_ok,kq,Sem.run_pure,Cg hz,t6 h0]
  obtain⟨b,q,⟨e',r'⟩|⟨⟨p,e'⟩,r'⟩⟩:=mG hr hs
  ·exact AB I (run _ e') (by rw[Hc];exact r')
  ·exact AB I (run _ e') (r' _ _ rfl)
theorem tO{t:TypeId}{cs:List AV}{vs:List Value}{off:Nat}{v:AV}(hu:(P.underlying t).isSome=true)(hs:cs.all scal=true)(r:Br C cs vs)(_hle:off+P.cellsOf t≤cs.length)
  (h:I1 (FJ P t) (sub cs off (P.cellsOf t))=some v): ∃x,(part t vs.toArray off).run P C.w= .ok x C.w∧Gk C v x:=by
 have hinfo:(P.info? t).isSome=true:=by
  obtain⟨d,hd⟩:=bn.1 hu;exact info_of_underlying hd
 have hrl:Br C (sub cs off (P.cellsOf t)) ((vs.drop off).take (P.cellsOf t)):=r.drop.take;obtain⟨q1,q2⟩:=Ze h (Sa hs off _) hrl;cases hag:FJ P t with
 |true=>
  refine⟨.agg ((vs.drop off).take (P.cellsOf t)).toArray,?_,q1 hag⟩;simp only[part,Sem.run_bind,FN t C.w hu,hag,Result.andThen_ok,uc,Cg hinfo,Sem.run_pure];congr 2;simp
 |false=>
  obtain⟨z,hz,rz⟩:=q2 hag;refine⟨z,?_,rz⟩;have:vs[off]? =some z:=by
   have:((vs.drop off).take (P.cellsOf t))[0]? =some z:=by rw[hz];rfl
   rw[dn]at this
   split at this
   ·simpa using this
   ·simp at this
  simp only[part,Sem.run_bind,FN t C.w hu,hag,Result.andThen_ok,ah,ud];simp[this]
theorem sim_fld(I:Inv tb C)(F:BB C f a nt){o:Oper}{t:TypeId}{x:AO}{y:Operand}{i:Nat}{fs:Array Field}{fd:Field}(ho:o.op= .field t y i)(hu:P.underlying t=some (.struct fs))(hf:fs[i]? =some fd)
  (hz:(P.underlying fd.type).isSome=true) (hx:Bz x y=true) {cs:List AV} (hv:eval tb f x= .agg cs) (hle:fd.offset+P.cellsOf fd.type≤cs.length) {v:AV} (h:I1 (FJ P fd.type) (sub cs fd.offset (P.cellsOf fd.type))=some v):
  Yields tb C (v,none) ((execOp a.eval o).run P C.w):=by
 have hr:=Ba I F hx;rw[hv]at hr;obtain⟨vs,e,hs,hl⟩:=hr;obtain⟨z,hz',rz⟩:=tO hz hs hl hle h;refine AB I (v:=z) ?_ rz;simp only[execOp,ho,e,Instr.field,Sem.run_bind,A9 hu,Result.andThen_ok,hf,asAgg,Sem.run_pure,hz']
theorem sim_ixa(I:Inv tb C)(F:BB C f a nt){o:Oper}{t e:TypeId}{x i:AO}{y j:Operand}{len:Nat}(ho:o.op= .index t y j)(hu:P.underlying t=some (.array len e))
  (hz:(P.underlying e).isSome=true) (hx:Bz x y=true) (hi:Bz i j=true) {n:Int} (hn:Ir (eval tb f i)=some n) {cs:List AV} (hv:eval tb f x= .agg cs) (h0:0≤n∧n<len) (hle:len*P.cellsOf e≤cs.length)
  {v:AV} (h:I1 (FJ P e) (sub cs (n.toNat*P.cellsOf e) (P.cellsOf e))=some v):Yields tb C (v,none) ((execOp a.eval o).run P C.w):=by
 have hr:=Ba I F hx;obtain⟨k,_,ej⟩:=Jp (Ba I F hi) hn;rw[hv]at hr;obtain⟨vs,ey,hs,hl⟩:=hr;have hle':n.toNat*P.cellsOf e+P.cellsOf e≤cs.length:=by
  have:(n.toNat+1)*P.cellsOf e≤len*P.cellsOf e:=cn _ (by omega);rw[ci]at this;omega
 obtain⟨z,hz',rz⟩:=tO hz hs hl hle' h;have hinfo:(P.info? e).isSome=true:=by
  obtain⟨d,hd⟩:=bn.1 hz;exact info_of_underlying hd
 refine AB I (v:=z) ?_ rz;simp only[execOp,ho,ey,ej,Instr.index,asIntOf,Sem.run_bind,A9 hu,Result.andThen_ok,Sem.run_pure,t6 h0,Cg hinfo,hz']
theorem sim_ixs(I:Inv tb C)(F:BB C f a nt){o:Oper}{t:TypeId}{x i:AO}{y j:Operand}(ho:o.op= .index t y j)(hu:P.underlying t=some .string)(hx:Bz x y=true)(hi:Bz i j=true)
  {n:Int} (hn:Ir (eval tb f i)=some n) {l:List UInt8} (hv:eval tb f x= .s l) (h0:0≤n) {c:UInt8} (h:l[n.toNat]? =some c):Yields tb C (.i .u8 c.toNat,none) ((execOp a.eval o).run P C.w):=by
 have hr:=Ba I F hx;obtain⟨k,_,ej⟩:=Jp (Ba I F hi) hn;rw[hv]at hr;have ey:a.eval y= .string ⟨l.toArray⟩:=hr;refine AB I (v:= .int .u8 c.toNat) ?_ rfl;have:(⟨l.toArray⟩:ByteArray)[n.toNat]? =some c:=by
  have hlt:=Bg h;have:n.toNat<(⟨l.toArray⟩:ByteArray).size:=by rw[Ub];exact hlt
  rw[getElem?_pos (⟨l.toArray⟩:ByteArray) n.toNat this];congr 1;exact(cg.1 h).2
 simp only[execOp,ho,ey,ej,Instr.index,asIntOf,Sem.run_bind,A9 hu,Result.andThen_ok,Sem.run_pure,t6 h0,this]
theorem Ud{x:AV}{v:Value}{m n:Nat}(r:Gk C x v)(h:LI x m=some n)(code:BoundsCode)(w:World):(Instr.sliceBound v m code).run P w= .ok n w∧n≤m:=by
 simp only[LI]at h;cases hi:Ir x with
 |none=>rw[hi]at h;simp at h
 |some q=>
  rw[hi]at h;simp only[aa]at h
  split at h
  ·rename_i hq;obtain rfl:=be h;obtain⟨k,_,e⟩:=Jp r hi;refine⟨?_,by omega⟩;simp only[Instr.sliceBound,e,asIntOf,Sem.run_bind,Sem.run_pure,Result.andThen_ok,t6 hq]
  ·simp at h
theorem V2(I:Inv tb C)(F:BB C f a nt){lo hi:Option AO}{ylo yhi:Option Operand}(h1:nC lo ylo=true)(h2:nC hi yhi=true){len cap l m:Nat}(isS:Bool)(hlc:len≤cap)
  (h:HW (eval tb f) len lo hi=some (l,m)) (w:World):(lj isS len cap (ylo.map a.eval) (yhi.map a.eval) none).run P w= .ok (l,m,cap) w∧l≤m∧m≤len:=by
 simp only[HW]at h;cases hi with
 |none=>
  cases yhi with
  |some _=>simp[nC]at h2
  |none=>
   simp only[aa]at h;cases lo with
   |none=>
    cases ylo with
    |some _=>simp[nC]at h1
    |none=>
     simp only[aa,ae,ch]at h;obtain⟨rfl,rfl⟩:=h;exact⟨by simp[lj],by omega,by omega⟩
   |some x=>
    cases ylo with
    |none=>simp[nC]at h1
    |some y=>
     cases hb:LI (eval tb f x) len with
     |none=>simp only[hb,o5,reduceCtorEq]at h
     |some q=>
      simp only[hb,aa,ae,ch]at h;obtain⟨rfl,rfl⟩:=h;have:=Ud (P:=P) (Ba I F h1) hb .sliceB w;exact⟨by simp[lj,this.1],this.2,by omega⟩
 |some z=>
  cases yhi with
  |none=>simp[nC]at h2
  |some u=>
   cases hz:LI (eval tb f z) len with
   |none=>simp only[hz,o5,reduceCtorEq]at h
   |some m'=>
    simp only[hz,aa]at h;obtain⟨k,hk⟩: ∃k,Ir (eval tb f z)=some k:=by
     simp only[LI]at hz;cases hi:Ir (eval tb f z)with
     |none=>rw[hi]at hz;simp at hz
     |some k=>exact⟨k,rfl⟩
    have hzc:LI (eval tb f z) cap=some m':=by
     simp only[LI,hk,aa]at hz ⊢
     split at hz
     ·rename_i hq;rw[t6 ⟨hq.1,by omega⟩];exact hz
     ·simp at hz
    have hm:m'≤len:=(Ud (P:=P) (Ba I F h2) hz .sliceB w).2;have r1:=fun code=>(Ud (P:=P) (Ba I F h2) hzc code w).1;cases lo with
    |none=>
     cases ylo with
     |some _=>simp[nC]at h1
     |none=>
      simp only[aa,ae,ch]at h;obtain⟨rfl,rfl⟩:=h;exact⟨by simp[lj,r1],by omega,hm⟩
    |some x=>
     cases ylo with
     |none=>simp[nC]at h1
     |some y=>
      cases hb:LI (eval tb f x) m' with
      |none=>simp only[hb,o5,reduceCtorEq]at h
      |some q=>
       simp only[hb,aa,ae,ch]at h;obtain⟨rfl,rfl⟩:=h;have:=Ud (P:=P) (Ba I F h1) hb .sliceB w;exact⟨by simp[lj,r1,this.1],this.2,hm⟩
theorem hJ(l:List UInt8)(i j:Nat):(⟨l.toArray⟩:ByteArray).extract i j=⟨((l.take j).drop i).toArray⟩:=by
 apply mh;simp[ic]
theorem sim_sls(I:Inv tb C)(F:BB C f a nt){o:Oper}{t:TypeId}{x:AO}{y:Operand}{lo hi:Option AO}{ylo yhi:Option Operand}(ho:o.op= .slice t y ylo yhi none)(hu:P.underlying t=some .string)(hx:Bz x y=true)
  (h1:nC lo ylo=true) (h2:nC hi yhi=true) {s:List UInt8} (hv:eval tb f x= .s s) {l m:Nat} (h:HW (eval tb f) s.length lo hi=some (l,m)):
  Yields tb C (.s ((s.take m).drop l),none) ((execOp a.eval o).run P C.w):=by
 have hr:=Ba I F hx;rw[hv]at hr;have ey:a.eval y= .string ⟨s.toArray⟩:=hr;obtain⟨hb,_,_⟩:=V2 (P:=P) I F h1 h2 (cap:=s.length) false (bc _) h C.w;refine AB I (v:= .string ⟨((s.take m).drop l).toArray⟩) ?_ rfl;simp only[execOp,ho,ey,ow,dg,Sem.run_bind,A9 hu,Result.andThen_ok,sq,rj,ah,ud,Ub,hb,hJ s l m,Sem.run_pure]
theorem Bl.sub{l:List (List AV)}{vss:List (List Value)}(r:Bl C l vss)(a b:Nat):Bl C ((l.take b).drop a) ((vss.take b).drop a):=r.take.drop
theorem Gz{α:Type}{sz:Nat}: ∀(l:List (List α)) (n:Nat),(∀x∈l,x.length=sz)→(l.drop n).flatten=l.flatten.drop (n*sz)
 |_,0,_=>by simp
 |[],n+1,_=>by simp
 |x::l,n+1,h=>by
  have hx:=h x bg;rw[jy,Gz l n fun y hy=>h y (a8 _ hy),bz,me,fi (l:=x) (by rw[hx,ci];omega),dt];congr 1;rw[hx,ci];omega
theorem F5{α:Type}{sz:Nat}: ∀(l:List (List α)) (n:Nat),(∀x∈l,x.length=sz)→(l.take n).flatten=l.flatten.take (n*sz)
 |_,0,_=>by simp
 |[],n+1,_=>by simp
 |x::l,n+1,h=>by
  have hx:=h x bg;rw[i',bz,F5 l n fun y hy=>h y (a8 _ hy),bz,jq,au (l:=x) (by rw[hx,ci];omega)];congr 2;rw[hx,ci];omega
theorem rT(I:Inv tb C){x:AV}{v:Value}{sz:Nat}{els:List (List AV)}(hsz:0<sz)(r:Gk C x v)(h:EX C.H sz x=some els):
  (els=[]∧v= .slice none 0 0)∨ ∃q cap vss,v= .slice (some q) els.length cap∧els.length≤cap∧(els≠[]→ ∃b base,q=⟨b,base,none⟩∧E1 C.w b base vss.flatten)∧(∀e∈els,e.length=sz∧e.all scal=true)∧Bl C els vss:=by
 cases x<;>simp only[EX,reduceCtorEq]at h
 case nils=>obtain rfl:=be h;exact .inl ⟨rfl,r⟩
 case sl sz' els'=>
  split at h
  ·rename_i e;subst e;obtain rfl:=be h;rcases r with ⟨b,base,cap,vss,e,hl,_,_,hh,hs,hr⟩|⟨rfl,p,cap,e⟩
   ·exact .inr ⟨_,cap,vss,e,hl,fun _=>⟨b,base,rfl,hh⟩,hs,hr⟩
   ·exact .inr ⟨p,cap,[],e,dz _,fun h=>absurd rfl h,fun e he=>(by cases he),rfl⟩
  ·simp at h
 case orow id n lo len=>
  obtain⟨_,fz,sz',els',hg,hl,k⟩:=r;simp only[hg,aa]at h
  split at h
  ·rename_i hc;obtain⟨hn,rfl,hle⟩:=hc;obtain rfl:=be h;obtain⟨_,off,cap,e,hlc,hoff,hsize⟩:=k hn;obtain⟨tl,hg',hlab⟩:=Ks hg;obtain⟨vss,arr,et,fr,⟨h1,hfr0,hlb⟩,h2,h3,h4,h5,h6,h7,h8,h9⟩:=I.obj id _ hg';have hlen:((els'.drop lo).take len).length=len:=by simp only[aq,bk];omega
   refine .inr ⟨_,cap,(vss.drop lo).take len,by rw[hlen];exact e,by rw[hlen];exact hlc,?_,fun x hx=>h4 x (cz (co hx)),h5.drop.take⟩;intro hne;have hpos:0<len:=by
    rcases ez len with h0|h0
    ·rw[h0]at hne;simp at hne
    ·exact h0
   have hlens:=j8 (fun x hx=>(h4 x hx).1) h5;refine⟨_,_,rfl,?_⟩;rw[F5 (sz:=sz') _ _ fun x hx=>hlens x (cz hx),Gz _ _ hlens,hoff hpos];exact h7.sub _ _
  ·simp at h
 case ocel sz' id off len=>
  obtain⟨⟨ob,hg,hf⟩,q,cap,e,hlc,hq,hz⟩:=r;unfold BR at h
  split at h
  ·rename_i t' cs hc;simp only[aa]at h
   split at h
   ·rename_i hcond;obtain⟨rfl,hle⟩:=hcond;obtain rfl:=be h;obtain⟨vs,arr,et,fr,⟨h1,hlb⟩,h2,h3,h4,h5,h6⟩:=I.obj id _ hc;have chunk: ∀(n:Nat) (cs:List AV) (vs:List Value) (base:Nat),cs.all scal=true→Br C cs vs→E1 C.w (C.φ id).blk base vs→n*sz'≤cs.length→
      (BV sz' n cs).length=n∧(∀e∈BV sz' n cs,e.length=sz'∧e.all scal=true)∧ ∃vss,E1 C.w (C.φ id).blk base vss.flatten∧Bl C (BV sz' n cs) vss:=by
     intro n
     induction n with
     |zero=>intro cs vs base _ _ _ _;exact⟨rfl,fun e he=>(by cases he),[],fun j v hj=>(by simp at hj),rfl⟩
     |succ n ih=>
      intro cs vs base hs hr hh hn;rw[ci]at hn;have hdrop:(cs.drop sz').all scal=true:=by
       simp only[cb]at hs ⊢;exact fun x hx=>hs x (cz hx)
      obtain⟨h1,h2,vss,h3,h4⟩:=ih (cs.drop sz') (vs.drop sz') (base+sz') hdrop hr.drop (by
       have:=hh.sub sz' (vs.drop sz').length
       rwa [au (bc _)]at this) (by simp only[bk];omega)
      have htake:(vs.take sz').length=sz':=by rw[aq,hr.length];omega
      refine⟨by simp[BV,h1],?_,vs.take sz'::vss,?_,⟨_,_,rfl,hr.take,h4⟩⟩
      ·intro x hx;rcases bm.1 hx with e|hx
       ·subst e;refine⟨by simp only[aq];omega,?_⟩;simp only[cb]at hs ⊢;exact fun y hy=>hs y (co hy)
       ·exact h2 x hx
      ·intro j v hj0;have hj:(vs.take sz'++vss.flatten)[j]? =some v:=hj0;rcases ef j sz' with hlt|hge
       ·rw[bq (by omega)]at hj;rw[dn,t6 hlt]at hj;exact hh j v hj
       ·rw[bo (by omega)]at hj;have:=h3 _ v hj;rw[htake]at this
        rwa [show base+sz'+(j-sz')=base+j by omega]at this
    obtain⟨c1,c2,vss,c3,c4⟩:=chunk len (cs.drop off) (vs.drop off) off (by
     simp only[cb]at h3 ⊢;exact fun x hx=>h3 x (cz hx)) h4.drop (by
     have:=h5.sub off (vs.drop off).length;rw[au (bc _)]at this;simpa using this) (by simp only[bk];omega)
    refine .inr ⟨_,cap,vss,by rw[c1];exact e,by rw[c1];exact hlc,?_,c2,c4⟩;intro hne;have hpos:0<len:=by
     rcases ez len with h0|h0
     ·rw[h0]at hne;simp[BV]at hne
     ·exact h0
    rw[hq hpos];exact⟨_,_,rfl,c3⟩
   ·simp at h
  ·simp at h
theorem vM{α:Type}{sz:Nat}{l:List (List α)}{i:Nat}{x:List α}(h: ∀y∈l,y.length=sz)(hi:l[i]? =some x):(l.flatten.drop (i*sz)).take sz=x:=by
 rw[←Gz l i h];have hlt:=Bg hi;rw[da hlt,bz];have e:l[i]=x:=(cg.1 hi).2;rw[e,fc (by rw[h x (d8 hi)];omega),au (by rw[h x (d8 hi)];omega)]
theorem sim_ias(I:Inv tb C)(F:BB C f a nt){o:Oper}{t e:TypeId}{x i:AO}{y j:Operand}(ho:o.op= .indexAddr t y j)(hu:P.underlying t=some (.slice e))(hz:(P.info? e).isSome=true)
  (hx:Bz x y=true) (hi:Bz i j=true) {n:Int} (hn:Ir (eval tb f i)=some n) (h0:0≤n) {r:AV×Option A6} (h:val (WY C.H (P.cellsOf e) (eval tb f x) n.toNat)=some r):
  Yields tb C r ((execOp a.eval o).run P C.w):=by
 have hr:=Ba I F hx;obtain⟨k,_,ej⟩:=Jp (Ba I F hi) hn;generalize eval tb f x=v at*;simp only[WY]at h;cases hels:EX C.H (P.cellsOf e) v with
 |none=>rw[hels]at h;simp[val]at h
 |some els=>
  rw[hels]at h;simp only[aa]at h
  split at h
  ·rename_i hlt;have run: ∀(b off len cap:Nat),a.eval y= .slice (some ⟨b,off,none⟩) len cap→n.toNat<len→(execOp a.eval o).run P C.w= .ok (.value (.pointer (some ⟨b,off+n.toNat*P.cellsOf e,none⟩))) C.w:=by
    intro b off len cap hp hl;have hc:0≤n∧n<(len:Int):=by omega
    simp only[execOp,ho,hp,ej,Instr.indexAt,asIntOf,Sem.run_bind,A9 hu,Result.andThen_ok,Sem.run_pure,Cg hz,t6 hc,Hc]
   have gen: ∀(w:AV),(els[n.toNat]?).map (fun cs=>AV.ip cs 0)=some w→(∃b base cap vss,a.eval y= .slice (some ⟨b,base,none⟩) els.length cap∧b<C.w.heap.size∧ ¬C.own b∧E1 C.w b base vss.flatten∧(∀e'∈els,e'.length=P.cellsOf e∧e'.all scal=true)∧Bl C els vss)→
     Yields tb C (w,none) ((execOp a.eval o).run P C.w):=by
    rintro w hw ⟨b,base,cap,vss,e',hb,hown,hh,hs,hrr⟩;cases hi:els[n.toNat]? with
    |none=>rw[hi]at hw;simp at hw
    |some cs=>
     rw[hi]at hw;obtain rfl:=be hw;obtain⟨vs,hv,rv⟩:=Bl.get hrr hi;have hlens:=j8 (fun x hx=>(hs x hx).1) hrr;have:=hh.sub (n.toNat*P.cellsOf e) (P.cellsOf e);rw[vM hlens hv]at this;exact AB I (run b base _ cap e' hlt) ⟨b,base+n.toNat*P.cellsOf e,vs,rfl,hb,hown,this,(hs cs (d8 hi)).2,rv⟩
   cases v
   case orow id k lo len=>
    simp only[val,ak,ae]at h;subst h;obtain⟨_,fz,sz,els',hg,hl,kk⟩:=hr;simp only[EX,hg,aa]at hels
    split at hels
    ·rename_i hc;obtain⟨hk,hsz,hle⟩:=hc;obtain rfl:=be hels;obtain⟨_,off,cap,e',hlc,hoff,_⟩:=kk hk;have hnl:n.toNat<len:=by simp only[aq,bk]at hlt;omega
     refine AB I (run _ _ _ _ e' hnl) ⟨⟨_,rfl⟩,fz,sz,els',hg,hl,fun _=> ?_⟩;rw[hoff (by omega),←hsz,ga,iw]
     rfl
    ·simp at hels
   case ocel sz id off len=>
    simp only[val,ak,ae]at h;subst h;obtain⟨hobj,q,cap,e',hlc,hq,_⟩:=hr;simp only[EX]at hels;cases hc:BR C.H id with
    |none=>rw[hc]at hels;simp at hels
    |some cs=>
     rw[hc]at hels;simp only[aa]at hels
     split at hels
     ·rename_i hcond;obtain⟨rfl,_⟩:=hcond;obtain rfl:=be hels;have hnl:n.toNat<len:=by
       have: ∀(m:Nat) (cs:List AV),(BV (P.cellsOf e) m cs).length=m:=by
        intro m;induction m with
        |zero=>intro cs;rfl
        |succ m ih=>intro cs;simp[BV,ih]
       rwa [this]at hlt
      refine AB I (run _ _ _ _ e' hnl) ⟨hobj,?_⟩;rw[hq (by omega)]
     ·simp at hels
   case nils=>
    simp only[EX,ae]at hels;subst hels;simp at hlt
   case sl sz els'=>
    simp only[EX]at hels
    split at hels
    ·rename_i e';subst e';obtain rfl:=be hels;rcases hr with ⟨b,base,cap,vss,e',hl,hb,hown,hh,hs,hrr⟩|⟨rfl,_⟩
     case inr=>simp at hlt
     simp only[val,Option.map_map]at h;cases hi:els'[n.toNat]? with
     |none=>rw[hi]at h;simp at h
     |some cs=>
      rw[hi]at h;obtain rfl:=be h;exact gen _ (by rw[hi];rfl) ⟨b,base,cap,vss,e',hb,hown,hh,hs,hrr⟩
    ·simp at hels
   all_goals simp[EX]at hels
  ·simp[val]at h
theorem sim_sll(I:Inv tb C)(F:BB C f a nt){o:Oper}{t e:TypeId}{x:AO}{y:Operand}{lo hi:Option AO}{ylo yhi:Option Operand}(ho:o.op= .slice t y ylo yhi none)(hu:P.underlying t=some (.slice e))(hz:(P.info? e).isSome=true)
  (hx:Bz x y=true) (h1:nC lo ylo=true) (h2:nC hi yhi=true) {len l m:Nat} (hl:Tq (eval tb f x)=some len) (h:HW (eval tb f) len lo hi=some (l,m)) {r:AV×Option A6}
  (hv:val (resl C.H (P.cellsOf e) (eval tb f x) l m)=some r):Yields tb C r ((execOp a.eval o).run P C.w):=by
 have hr:=Ba I F hx;have run: ∀(p:Option Addr) (cap:Nat),len≤cap→a.eval y= .slice p len cap→(execOp a.eval o).run P C.w= .ok (.value (.slice (if cap=l then p else p.map (·.add (l*P.cellsOf e))) (m-l) (cap-l))) C.w∧l≤m∧m≤len:=by
  intro p cap hlc hp;obtain⟨hb,q1,q2⟩:=V2 (P:=P) I F h1 h2 (cap:=cap) true hlc h C.w;refine⟨?_,q1,q2⟩;simp only[execOp,ho,hp,ow,dg,Sem.run_bind,A9 hu,Result.andThen_ok,sq,hb,Cg hz,Sem.run_pure]
 generalize eval tb f x=v at*;cases v<;>simp only[resl,val,dg,reduceCtorEq]at hv
 case nils=>
  simp only[ak,ae]at hv;subst hv;simp only[Tq,ae]at hl;subst hl;obtain⟨q,q1,q2⟩:=run none 0 (bc _) hr;obtain rfl:m=0:=by omega
  obtain rfl:l=0:=by omega
  exact AB I q rfl
 case sl sz els=>
  split at hv
  ·rename_i e';subst e';simp only[ak,ae]at hv;subst hv;simp only[Tq,ae]at hl;subst hl;rcases hr with ⟨b,base,cap,vss,e',hlc,hb,hown,hh,hs,hrr⟩|⟨rfl,p,cap,e'⟩
   case inr=>
    obtain⟨q,q1,q2⟩:=run _ cap (dz _) e';simp only[bu]at q2;obtain rfl:m=0:=by omega
    obtain rfl:l=0:=by omega
    by_cases hc:cap=0
    ·rw[t6 hc]at q;exact AB I q (.inr ⟨by simp,_,_,rfl⟩)
    ·rw[t7 hc]at q;exact AB I q (.inr ⟨by simp,_,_,rfl⟩)
   obtain⟨q,q1,q2⟩:=run _ _ hlc e';have hlens:=j8 (fun x hx=>(hs x hx).1) hrr;have hlen:((els.take m).drop l).length=m-l:=by simp only[bk,aq];omega
   by_cases hc:cap=l
   ·have hm:m=l:=by omega
    rw[t6 hc]at q;refine AB I q<| .inl ⟨b,base,cap-l,[],?_,by omega,hb,hown,fun j v hj=>(by simp at hj),?_,?_⟩
    ·rw[hlen]
    ·intro x hx;rw[c0 (l:=(els.take m).drop l) (by rw[hlen];omega)]at hx;cases hx
    ·rw[c0 (l:=(els.take m).drop l) (by rw[hlen];omega)]
     rfl
   ·rw[t7 hc]at q;simp only[ak,Hc]at q;refine AB I q<| .inl ⟨b,base+l*P.cellsOf e,cap-l,(vss.take m).drop l,by rw[hlen],by rw[hlen];omega,hb,hown,?_,?_,hrr.sub _ _⟩
    ·rw[Gz (sz:=P.cellsOf e) _ _ fun x hx=>hlens x (co hx),F5 _ _ hlens];have:=hh.sub (l*P.cellsOf e) (m*P.cellsOf e-l*P.cellsOf e)
     rwa [←ic]at this
    ·exact fun x hx=>hs x (co (cz hx))
  ·simp at hv
 case orow id n l' len'=>
  simp only[Tq,ae]at hl;subst hl;obtain⟨_,fz,sz,els,hg,hle,k⟩:=hr;simp only[hg,aa]at hv
  split at hv
  ·rename_i hc;obtain⟨hn,hsz,hle'⟩:=hc;simp only[ak,ae]at hv;subst hv;obtain⟨_,off,cap,e',hlc,hoff,hsize,hbo⟩:=k hn;obtain⟨q,q1,q2⟩:=run _ _ hlc e'
   by_cases hc:cap=l
   ·rw[t6 hc]at q;refine AB I q ⟨⟨_,_,rfl⟩,fz,sz,els,hg,hle,fun _=>⟨by omega,off,_,rfl,by omega,fun hp=>by omega,?_,hbo⟩⟩;have:(cap-l)*sz≤cap*sz:=cn _ (by omega);omega
   ·rw[t7 hc]at q;simp only[ak,Hc]at q;refine AB I q ⟨⟨_,_,rfl⟩,fz,sz,els,hg,hle,fun _=>⟨by omega,off+l*P.cellsOf e,_,rfl,by omega,fun hp=> ?_,?_,by omega⟩⟩
    ·rw[hoff (by omega),hsz,ga];omega
    ·rw[hsz]at hsize ⊢;rw[Nat.sub_mul];have:l*P.cellsOf e≤cap*P.cellsOf e:=cn _ (by omega);omega
  ·simp at hv
 case ocel sz id off len'=>
  simp only[Tq,ae]at hl;subst hl
  split at hv
  ·rename_i hsz;subst hsz;simp only[ak,ae]at hv;subst hv;obtain⟨hobj,q0,cap,e',hlc,hoff,hz'⟩:=hr;obtain⟨q,q1,q2⟩:=run _ _ hlc e'
   by_cases hc:cap=l
   ·rw[t6 hc]at q;exact AB I q ⟨hobj,q0,_,rfl,by omega,fun hp=>by omega,hz'⟩
   ·rw[t7 hc]at q;simp only[ak,Hc]at q;exact AB I q ⟨hobj,_,_,rfl,by omega,fun hp=>by rw[hoff (by omega)],hz'⟩
  ·simp at hv
theorem ZN(sz:Nat): ∀(n:Nat) (cs:List AV) (vs:List Value) (w:World) (b base:Nat),cs.all scal=true→Br C cs vs→E1 w b base vs→n*sz≤cs.length→
  (BV sz n cs).length=n∧(∀e∈BV sz n cs,e.length=sz∧e.all scal=true)∧ ∃vss,E1 w b base vss.flatten∧Bl C (BV sz n cs) vss:=by
 intro n
 induction n with
 |zero=>intro cs vs w b base _ _ _ _;exact⟨rfl,fun e he=>(by cases he),[],fun j v hj=>(by simp at hj),rfl⟩
 |succ n ih=>
  intro cs vs w b base hs hr hh hn;rw[ci]at hn;have hdrop:(cs.drop sz).all scal=true:=by
   simp only[cb]at hs ⊢;exact fun x hx=>hs x (cz hx)
  obtain⟨h1,h2,vss,h3,h4⟩:=ih (cs.drop sz) (vs.drop sz) w b (base+sz) hdrop hr.drop (by
   have:=hh.sub sz (vs.drop sz).length
   rwa [au (bc _)]at this) (by simp only[bk];omega)
  have htake:(vs.take sz).length=sz:=by rw[aq,hr.length];omega
  refine⟨by simp[BV,h1],?_,vs.take sz::vss,?_,⟨_,_,rfl,hr.take,h4⟩⟩
  ·intro x hx;rcases bm.1 hx with e|hx
   ·subst e;refine⟨by simp only[aq];omega,?_⟩;simp only[cb]at hs ⊢;exact fun y hy=>hs y (co hy)
   ·exact h2 x hx
  ·intro j v hj0;have hj:(vs.take sz++vss.flatten)[j]? =some v:=hj0;rcases ef j sz with hlt|hge
   ·rw[bq (by omega)]at hj;rw[dn,t6 hlt]at hj;exact hh j v hj
   ·rw[bo (by omega)]at hj;have:=h3 _ v hj;rw[htake]at this
    rwa [show base+sz+(j-sz)=base+j by omega]at this
theorem sim_sla(I:Inv tb C)(F:BB C f a nt){o:Oper}{t e:TypeId}{n:Nat}{x:AO}{y:Operand}{lo hi:Option AO}{ylo yhi:Option Operand}(ho:o.op= .slice t y ylo yhi none)(hz:(P.info? e).isSome=true)(hz0:0<P.cellsOf e)
  (hu:P.underlying t=some (.array n e)∨ ∃u,P.underlying t=some (.pointer u)∧P.underlying u=some (.array n e))
  (hx:Bz x y=true) (h1:nC lo ylo=true) (h2:nC hi yhi=true) {l m:Nat} (h:HW (eval tb f) n lo hi=some (l,m)) {r:AV×Option A6}
  (hv:val (xO C.H n (P.cellsOf e) (eval tb f x) l m)=some r):Yields tb C r ((execOp a.eval o).run P C.w):=by
 have hr:=Ba I F hx;obtain⟨hb,q1,q2⟩:=V2 (P:=P) I F h1 h2 (cap:=n) false (bc _) h C.w;have run: ∀(p:Addr),a.eval y= .pointer (some p)→(execOp a.eval o).run P C.w= .ok (.value (.slice (some (if n=l then p else p.add (l*P.cellsOf e))) (m-l) (n-l))) C.w:=by
  intro p hp;rcases hu with hu|⟨u,hu,hu'⟩
  ·simp only[execOp,ho,hp,ow,dg,Sem.run_bind,A9 hu,Result.andThen_ok,kq,hb,Cg hz,Sem.run_pure]
  ·simp only[execOp,ho,hp,ow,dg,Sem.run_bind,A9 hu,A9 hu',Result.andThen_ok,sq,asAddr,hb,Cg hz,Sem.run_pure]
 generalize eval tb f x=v at*;cases v<;>simp only[xO,val,dg,reduceCtorEq]at hv
 case ptr id off=>
  cases hc:BR C.H id with
  |none=>rw[hc]at hv;simp at hv
  |some cs=>
   rw[hc]at hv;simp only[aa]at hv
   split at hv
   ·simp only[ak,ae]at hv;subst hv;obtain⟨hobj,e'⟩:=hr;have q:=run _ e'
    by_cases hc:n=l
    ·rw[t6 hc]at q;exact AB I q ⟨hobj,off,_,rfl,by omega,fun hp=>by omega,hz0⟩
    ·rw[t7 hc,Hc]at q;exact AB I q ⟨hobj,_,_,rfl,by omega,fun hp=>rfl,hz0⟩
   ·simp at hv
 case ip cs off=>
  split at hv
  ·rename_i hle;simp only[ak,ae]at hv;subst hv;obtain⟨b,base,vs,e',hlt,hown,hh,hs,hrr⟩:=hr;have q:=run _ e';obtain⟨c1,c2,vss,c3,c4⟩:=ZN (C:=C) (P.cellsOf e) n (cs.drop off) (vs.drop off) C.w b (base+off) (by
    simp only[cb]at hs ⊢;exact fun x hx=>hs x (cz hx)) hrr.drop (by
    have:=hh.sub off (vs.drop off).length
    rwa [au (bc _)]at this) (by simp only[bk];omega)
   have hlens:=j8 (fun x hx=>(c2 x hx).1) c4;have hlen:(((BV (P.cellsOf e) n (cs.drop off)).take m).drop l).length=m-l:=by simp only[bk,aq,c1];omega
   by_cases hc:n=l
   ·rw[t6 hc]at q;refine AB I q<| .inl ⟨b,base+off,n-l,[],by rw[hlen],by omega,hlt,hown,fun j v hj=>(by simp at hj),?_,?_⟩
    ·intro x hx;rw[c0 (l:=((BV (P.cellsOf e) n (cs.drop off)).take m).drop l) (by rw[hlen];omega)]at hx;cases hx
    ·rw[c0 (l:=((BV (P.cellsOf e) n (cs.drop off)).take m).drop l) (by rw[hlen];omega)]
     rfl
   ·rw[t7 hc,Hc]at q;refine AB I q<| .inl ⟨b,base+off+l*P.cellsOf e,n-l,(vss.take m).drop l,by rw[hlen],by rw[hlen];omega,hlt,hown,?_,fun x hx=>c2 x (co (cz hx)),c4.sub _ _⟩;rw[Gz (sz:=P.cellsOf e) _ _ fun x hx=>hlens x (co hx),F5 _ _ hlens];have:=c3.sub (l*P.cellsOf e) (m*P.cellsOf e-l*P.cellsOf e)
    rwa [←ic]at this
  ·simp at hv
theorem WZ{w:World}{b o:Nat}{v:Value}{arr:Array Value}{e:TypeId}{fr:Nat×Nat}(h:w.heap[b]? =some (.cells arr e fr)):
  (w.setCell ⟨b,o,none⟩ v).heap[b]? =some (.cells (arr.setIfInBounds o v) e fr):=by
 simp[World.setCell,lg,h]
theorem heap_setCell_other{w:World}{b o c:Nat}{v:Value}(h:c≠b):(w.setCell ⟨b,o,none⟩ v).heap[c]? =w.heap[c]? :=by
 simp[World.setCell,lg,iz h]
theorem HK{b:Nat}: ∀(vs:List Value) (o:Nat) {w:World} {arr:Array Value} {e:TypeId} {fr:Nat×Nat},w.heap[b]? =some (.cells arr e fr)→
  ∃arr',(w.setCells b o vs).heap[b]? =some (.cells arr' e fr)∧arr'.size=arr.size
 |[],_,_,arr,_,_,h=>⟨arr,h,rfl⟩
 |v::r,o,w,arr,e,fr,h=>by
  obtain⟨arr',h1,h2⟩:=HK r (o+1) (WZ (o:=o) (v:=v) h);exact⟨arr',h1,by rw[h2];simp⟩
theorem En{b c:Nat}(hc:c≠b): ∀(vs:List Value) (o:Nat) {w:World},(w.setCells b o vs).heap[c]? =w.heap[c]?
 |[],_,_=>rfl
 |_::r,o,w=>by rw[World.setCells,En hc r (o+1),heap_setCell_other hc]
theorem HG{b:Nat}: ∀(vs:List Value) (o:Nat) {w:World},(w.setCells b o vs).heap.size=w.heap.size
 |[],_,_=>rfl
 |_::r,o,w=>by rw[World.setCells,HG r (o+1)];simp
theorem HI{b:Nat}: ∀(vs:List Value) (o:Nat) {w:World},Rest w (w.setCells b o vs)
 |[],_,_=>⟨rfl,rfl,rfl⟩
 |v::r,o,w=>HI (b:=b) r (o+1) (w:=w.setCell ⟨b,o,none⟩ v)
theorem bZ{w:World}{b o:Nat}{arr:Array Value}{e:TypeId}{fr:Nat×Nat}(h:w.heap[b]? =some (.cells arr e fr)){vs:List Value}(hle:o+vs.length≤arr.size)
  (hf: ∀j,j<vs.length→w.frozen? ⟨b,o+j,none⟩=false) (h1: ∀v∈vs,v.oneCell'=true):(storeCells ⟨b,o,none⟩ vs).run P w= .ok () (w.setCells b o vs):=by
 have:=run_storeCells_cells (P:=P) b o vs 0 w (fun j hj=>by
  simp only[gg,h,i6];simp[ff (show o+j<arr.size by omega)]) (fun j hj=>by simpa using hf j hj) h1
 simpa using this
theorem E1.put{w:World}{b o base:Nat}{arr:Array Value}{e:TypeId}{fr:Nat×Nat}(h:w.heap[b]? =some (.cells arr e fr)){vs us:List Value}(hh:E1 w b base us)
  (hle:o+vs.length≤us.length) (hsz:base+us.length≤arr.size):E1 (w.setCells b (base+o) vs) b base (us.take o++vs++us.drop (o+vs.length)):=by
 intro j v hj;rcases ef j o with hlt|hge
 ·rw[World.cell?_setCells_out b vs (base+o) w _ (fun _ _=> .inl (by simp;omega))];rw[br,bq (by simp only[aq];omega),dn,t6 hlt]at hj;exact hh j v hj
 ·rcases ef j (o+vs.length)with hlt|hge'
  ·have hjv:vs[j-o]? =some v:=by
    rw[br,bo (by simp only[aq];omega)]at hj;simp only[aq]at hj;rw[show min o us.length=o by omega,bq (by omega)]at hj;exact hj
   have hlt':j-o<vs.length:=by omega
   have:=World.cell?_setCells_in b vs (base+o) w (fun i hi=>by
    simp only[gg,h];simp[ff (show base+o+i<arr.size by omega)]) (j-o) hlt'
   rw[show base+o+(j-o)=base+j by omega]at this;rw[this,←hjv,ab hlt']
  ·rw[World.cell?_setCells_out b vs (base+o) w _ (fun _ _=> .inr (by simp;omega))];rw[bo (by simp only[an,aq];omega),gj]at hj;simp only[an,aq]at hj;rw[show o+vs.length+(j-(min o us.length+vs.length))=j by omega]at hj;exact hh j v hj
theorem Iu{w:World}{b o c q:Nat}{vs:List Value}:(w.setCells b o vs).frozen? ⟨c,q,none⟩=w.frozen? ⟨c,q,none⟩:=World.frozen?_setCells b vs o w _
theorem Ra{cs new:List AV}{vs us:List Value}{off:Nat}(r:Br C cs vs)(q:Br C new us):Br C (B7 cs off new) (vs.take off++us++vs.drop (off+us.length)):=by
 rw[q.length];exact pg (pg r.take q) r.drop
theorem OU{cs new:List AV}{off:Nat}(r:cs.all scal=true)(q:new.all scal=true):(B7 cs off new).all scal=true:=by
 simp only[B7,ka,af,cb]at*;exact⟨⟨fun x hx=>r x (co hx),q⟩,fun x hx=>r x (cz hx)⟩
theorem Jf{cs new:List AV}{off:Nat}(h:off+new.length≤cs.length):(B7 cs off new).length=cs.length:=by
 simp only[B7,an,aq,bk];omega
theorem WD{t:TypeId}{b o:Nat}{v:Value}{w:World}{arr:Array Value}{e:TypeId}{fr:Nat×Nat}(hz:(P.info? t).isSome=true)(hsz:v.cells.size=P.cellsOf t)(h:w.heap[b]? =some (.cells arr e fr))
  (hle:o+P.cellsOf t≤arr.size) (hf: ∀j,j<P.cellsOf t→w.frozen? ⟨b,o+j,none⟩=false) (h1: ∀x∈v.cells.toList,x.oneCell'=true):
  (storeVar t ⟨b,o,none⟩ v).run P w= .ok () (w.setCells b o v.cells.toList):=by
 have hne: ¬(v.cells.size≠P.cellsOf t):=by omega
 have hp:=bZ (P:=P) h (vs:=v.cells.toList) (by simpa [hsz]using hle) (fun j hj=>hf j (by simpa [hsz]using hj)) h1;simp only[storeVar,Sem.run_bind,Cg hz,Result.andThen_ok,t7 hne];simpa using hp
theorem sim_st(I:Inv tb C)(F:BB C f a nt){o:Oper}{t:TypeId}{x z:AO}{y u:Operand}(ho:o.op= .store t y u)(hx:Bz x y=true)(hzu:Bz z u=true)(hz:(P.info? t).isSome=true)(hz0:0<P.cellsOf t)
  {H':A6} (h:store C.H (P.cellsOf t) (eval tb f x) (eval tb f z)=some H'):Yields tb C (.junk,some H') ((execOp a.eval o).run P C.w):=by
 have hr:=Ba I F hx;have hv:=Ba I F hzu;generalize eval tb f x=v at*;generalize eval tb f z=q at*;cases v<;>simp only[store,reduceCtorEq]at h
 case ptr id off=>
  cases hc:BR C.H id with
  |none=>rw[hc]at h;simp at h
  |some cs=>
   rw[hc]at h;simp only[aa]at h
   split at h
   ·rename_i hcond;obtain⟨hn,hle⟩:=hcond;obtain rfl:=be h;obtain⟨tl,hg,hlab⟩:=QM hc;obtain⟨_,e'⟩:=hr;obtain⟨vs,arr,et,fr,⟨h1,hlb⟩,h2,h3,h4,h5,h6⟩:=I.obj id _ hg;obtain⟨c1,c2⟩:=QL hv (by omega);have hsz:(a.eval u).cells.size=P.cellsOf t:=by have:=c1.length;rw[hn]at this;simpa using this
    have run:=WD (P:=P) (t:=t) (o:=off) hz hsz h1 (by omega) (fun j hj=>h6 _ (by omega)) (Qv c2 c1);obtain⟨arr',g1,g2⟩:=HK (a.eval u).cells.toList off h1;have hvl:(a.eval u).cells.toList.length=P.cellsOf t:=by simpa using hsz
    obtain⟨X,hI⟩:=upd (D:=⟨C.φ,C.H.set id (BU.cells (EQ C.H id) (B7 cs off (cellsOf q))),C.w.setCells (C.φ id).blk off (a.eval u).cells.toList,C.res⟩) I (HI _ _) hg rfl (fun _ _=>rfl) (by simp only[HG];omega)
     (fun b hb hne=>En hne _ _) (.inl rfl) (fun _=>⟨rfl,rfl⟩) (fun _ _ _ _ e=>by cases e)
    refine⟨_,X,hI ?_,rfl, .inr ⟨?_,trivial⟩⟩
    ·refine⟨_,arr',et,fr,⟨g1,by rw[hlab];exact hlb⟩,by rw[g2,h2,Jf (by rw[hn];exact hle)],OU h3 c2,Ra (h4.ext X) (c1.ext X),?_,?_⟩
     ·have:=E1.put (base:=0) (o:=off) h1 h5 (vs:=(a.eval u).cells.toList) (by rw[hvl,h4.length];exact hle) (by rw[h4.length];omega);simpa using this
     ·intro j hj;rw[Jf (by rw[hn];exact hle)]at hj;rw[Iu];exact h6 j hj
    ·simp only[execOp,ho,e',Instr.storeAt,kq,Sem.run_bind,Sem.run_pure,Result.andThen_ok,run]
   ·simp at h
 case pe id n i off=>
  obtain⟨_,fz,sz,els,hg,hl,k⟩:=hr;simp only[hg,aa]at h
  split at h
  ·rename_i hcond;obtain⟨hfz,hn,hcl⟩:=hcond;cases hi:els[i]? with
   |none=>rw[hi]at h;simp at h
   |some cs=>
    rw[hi]at h;simp only[aa]at h
    split at h
    ·rename_i hle;obtain rfl:=be h;have e':=k hn;obtain⟨tl,hg',hlab⟩:=Ks hg;obtain⟨vss,arr,et,fr,⟨h1,hfr0,hlb⟩,h2,h3,h4,h5,h6,h7,h8,h9⟩:=I.obj id _ hg';obtain⟨c1,c2⟩:=QL hv (by omega);have hsz:(a.eval u).cells.size=P.cellsOf t:=by have:=c1.length;rw[hcl]at this;simpa using this
     have hvl:(a.eval u).cells.toList.length=P.cellsOf t:=by simpa using hsz
     have hcs:=(h4 cs (d8 hi)).1;have hilt:=Bg hi;have hin:i*sz+sz≤els.length*sz:=by
      have:(i+1)*sz≤els.length*sz:=cn _ (by omega)
      rwa [ci]at this
     have hfr: ∀j,j<P.cellsOf t→C.w.frozen? ⟨(C.φ id).blk,(C.φ id).base+i*sz+off+j,none⟩=false:=fun j hj=>h8 hfz _ (by omega);have run:=WD (P:=P) (t:=t) (o:=(C.φ id).base+i*sz+off) hz hsz h1 (by omega) hfr (Qv c2 c1);obtain⟨arr',g1,g2⟩:=HK (a.eval u).cells.toList ((C.φ id).base+i*sz+off) h1;obtain⟨X,hI⟩:=upd (D:=⟨C.φ,C.H.set id (BU.row (EQ C.H id) false sz (els.set i (B7 cs off (cellsOf q)))),C.w.setCells (C.φ id).blk ((C.φ id).base+i*sz+off) (a.eval u).cells.toList,C.res⟩) I (HI _ _) hg' rfl (fun _ _=>rfl) (by simp only[HG];omega)
      (fun b hb hne=>En hne _ _) (.inl rfl) (fun e=>by cases e) (fun _ fz' sz' els' e=>by cases e;exact⟨_,_,_,rfl,by simp,fun _=>rfl⟩)
     refine⟨_,X,hI ?_,rfl, .inr ⟨?_,trivial⟩⟩
     ·obtain⟨vs,hv',rv⟩:=Bl.get h5 hi;have hlens:=j8 (fun x hx=>(h4 x hx).1) h5;refine⟨vss.set i (vs.take off++(a.eval u).cells.toList++vs.drop (off+(a.eval u).cells.toList.length)),arr',et,fr,⟨g1,hfr0,by rw[hlab];exact hlb⟩,by rw[g2];exact h2,h3,?_,?_,by simpa using h6,?_,?_,?_⟩
      ·intro x hx;rcases oq hx with hx|hx
       ·exact h4 x hx
       ·subst hx;exact⟨by rw[Jf (by omega)];exact hcs,OU (h4 cs (d8 hi)).2 c2⟩
      ·exact Bl.set (Ra (rv.ext X) (c1.ext X)) (h5.ext X)
      ·have hfl:(vss.set i (vs.take off++(a.eval u).cells.toList++vs.drop (off+(a.eval u).cells.toList.length))).flatten=
         vss.flatten.take (i*sz+off)++(a.eval u).cells.toList++vss.flatten.drop (i*sz+off+(a.eval u).cells.toList.length):=by
        have hvs:vs.length=sz:=hlens vs (d8 hv');have: ∀(l:List (List Value)) (i:Nat),(∀y∈l,y.length=sz)→l[i]? =some vs→(l.set i (vs.take off++(a.eval u).cells.toList++vs.drop (off+(a.eval u).cells.toList.length))).flatten=
          l.flatten.take (i*sz+off)++(a.eval u).cells.toList++l.flatten.drop (i*sz+off+(a.eval u).cells.toList.length):=by
         intro l
         induction l with
         |nil=>intro i _ e;simp at e
         |cons y l ih=>
          intro i hy e;cases i with
          |zero=>
           simp at e;subst e;simp only[jo,bz,kc,dc];rw[fc (by omega),ed (by omega)];simp
          |succ i=>
           have hyl:=hy y bg;simp only[j4,bz];rw[ih i (fun z hz=>hy z (a8 _ hz)) (by simpa using e)];rw[ci,jq,au (l:=y) (by omega),me,fi (l:=y) (by omega),dt];rw[show i*sz+sz+off-y.length=i*sz+off by omega,show i*sz+sz+off+(a.eval u).cells.toList.length-y.length=i*sz+off+(a.eval u).cells.toList.length by omega];simp
        exact this vss i hlens hv'
       rw[hfl];have hfll:vss.flatten.length=els.length*sz:=by
        have:=(qz h5).length;rw[this];clear this hfl;have: ∀(l:List (List AV)),(∀x∈l,x.length=sz)→l.flatten.length=l.length*sz:=by
         intro l
         induction l with
         |nil=>intro _;simp
         |cons y l ih=>intro hy;rw[bz,an,ih fun z hz=>hy z (a8 _ hz),hy y bg,ba,ci];omega
        exact this els fun x hx=>(h4 x hx).1
       have:=E1.put (base:=(C.φ id).base) (o:=i*sz+off) h1 h7 (vs:=(a.eval u).cells.toList) (by omega) (by omega)
       rwa [←iw]at this
      ·intro _ j hj;rw[Iu];exact h8 hfz j hj
      ·intro _ j hj hj';rw[Iu];exact h9 hfz j (by simpa using hj) hj'
     ·simp only[execOp,ho,e',Instr.storeAt,kq,Sem.run_bind,Sem.run_pure,Result.andThen_ok,run]
    ·simp at h
  ·simp at h
end
end
section
section
variable{cl:Nat→List AV→A6→M2}{P:Program}{tb:CV}{C:CG}{f:Fr}{a:Act}{nt:Nat}
theorem G0{α:Type}{sz:Nat}: ∀(l:List (List α)),(∀x∈l,x.length=sz)→l.flatten.length=l.length*sz
 |[],_=>by simp
 |y::l,h=>by
  rw[bz,an,G0 l fun z hz=>h z (a8 _ hz),h y bg,ba,ci];omega
theorem Q9: ∀{l:List (List AV)},(∀x∈l,x.all scal=true)→l.flatten.all scal=true
 |[],_=>rfl
 |y::l,h=>by
  rw[bz,ka,h y bg,Q9 fun z hz=>h z (a8 _ hz)]
  rfl
theorem bytes_rep(l:List UInt8):Bl C (BS l) (l.map fun c=>[Value.int .u8 c.toNat])∧(∀x∈BS l,x.length=1∧x.all scal=true):=by
 induction l with
 |nil=>exact⟨rfl,fun x hx=>by cases hx⟩
 |cons c l ih=>
  refine⟨⟨_,_,rfl,⟨_,_,rfl,rfl,rfl⟩,ih.1⟩,fun x hx=> ?_⟩;rcases bm.1 hx with e|hx
  ·subst e;exact⟨rfl,rfl⟩
  ·exact ih.2 x hx
theorem uH(I:Inv tb C){x:AV}{v:Value}{sz:Nat}{els:List (List AV)}(hsz:0<sz)(r:Gk C x v)(h:uI C.H sz x=some els):
  (nm v).run P C.w= .ok els.length C.w∧ ∃vss,Bl C els vss∧(∀e∈els,e.length=sz∧e.all scal=true)∧
   ∀(m:Nat) (w:World),m≤els.length→w.heap=C.w.heap→(en sz m v).run P w= .ok (vss.take m).flatten.toArray w:=by
 have slc:EX C.H sz x=some els→(nm v).run P C.w= .ok els.length C.w∧ ∃vss,Bl C els vss∧(∀e∈els,e.length=sz∧e.all scal=true)∧
   ∀(m:Nat) (w:World),m≤els.length→w.heap=C.w.heap→(en sz m v).run P w= .ok (vss.take m).flatten.toArray w:=by
  intro h;rcases rT I hsz r h with ⟨rfl,e⟩|⟨q,cap,vss,e,hlc,hh,hs,hr⟩
  ·subst e;refine⟨rfl,[],rfl,fun e he=>(by cases he),fun m w _ _=> ?_⟩;simp[en]
  ·subst e;refine⟨rfl,vss,hr,hs,fun m w hm hw=> ?_⟩;have hlens:=j8 (fun x hx=>(hs x hx).1) hr;have hlen:(vss.take m).flatten.length=m*sz:=by
    rw[G0 _ fun x hx=>hlens x (co hx),aq,hr.length];congr 1;omega
   by_cases hne:els=[]
   ·subst hne;have hv:vss=[]:=c0 (by rw[hr.length];rfl);subst hv;have hm0:m=0:=by simpa using hm
    subst hm0;simp only[en,kc,List.take_nil,o6]
    rfl
   obtain⟨b,base,rfl,hh2⟩:=hh hne;have hh':E1 w b base (vss.take m).flatten:=by
    intro j u hj;rw[F5 _ _ hlens,dn]at hj
    split at hj
    ·have:=hh2 j u hj
     rwa [RE (w:=C.w) (w':=w) (by rw[hw])]
    ·cases hj
   have:=In (P:=P) hh';rw[hlen]at this;simpa [en]using this
 cases x<;>simp only[uI]at h<;>try exact slc h
 case s l=>
  split at h
  ·rename_i e;subst e;obtain rfl:=be h;have ev:v= .string ⟨l.toArray⟩:=r;subst ev;obtain⟨h1,h2⟩:=bytes_rep (C:=C) l;refine⟨by simp[nm,Ub,BS],_,h1,h2,fun m w hm hw=> ?_⟩;simp only[en,Sem.run_pure];congr 1;rw[hJ];have: ∀(l:List UInt8) (m:Nat),ra m (List.map (fun b:UInt8=>Value.int .u8 b.toNat) l)=(ra m (List.map (fun c:UInt8=>[Value.int .u8 c.toNat]) l)).flatten:=by
    intro l
    induction l with
    |nil=>intro m;simp
    |cons c l ih=>
     intro m;cases m with
     |zero=>simp
     |succ m=>simp[ih]
   simp[ox,this]
  ·simp at h
theorem Rl{t u ty e:TypeId}(ht:P.underlying t=some (.slice e))(hu: ∃d,P.underlying u=some d∧ ∀k,d≠ .int k)(hz:(P.info? e).isSome=true){p:Option Addr}{n cap m:Nat}{x:Value}{w:World}{us:List Value}
  (hl:(nm x).run P w= .ok m w) (hc:(en (P.cellsOf e) m x).run P w= .ok us.toArray w) (hroom:n+m≤cap):
  (mm #[t,u] ty #[.slice p n cap,x]).run P w=(match p with
   |some q=>(storeCells (q.add (n*P.cellsOf e)) us).run P w
   |none=> .ok () w).andThen fun _ w'=> .ok (.slice p (n+m) cap) w':=by
 obtain⟨d,hu,hk⟩:=hu;have hd:(match d with| .int _=>true|_=>false)=false:=by cases d<;>first|rfl|exact absurd rfl (hk _)
 simp only[mm,jl,bw,di,Sem.run_bind,A9 ht,A9 hu,Result.andThen_ok,Cg hz,Sem.run_pure];cases p with
 |none=>cases d<;>first|exact absurd rfl (hk _)|simp[hl,hc,hroom]
 |some q=>cases d<;>first|exact absurd rfl (hk _)|simp[hl,hc,hroom]
theorem WE{t u ty e:TypeId}(ht:P.underlying t=some (.slice e))(hu: ∃d,P.underlying u=some d∧ ∀k,d≠ .int k){i:TypeInfo}(hi:P.info? e=some i){z:Value}(hzz:i.zero=some z){p:Option Addr}{n cap m:Nat}{x:Value}{w:World}
  {us olds:List Value} (hl:(nm x).run P w= .ok m w) (hc: ∀w',w'.heap=w.heap→(en (P.cellsOf e) m x).run P w'= .ok us.toArray w')
  (ho: ∀w',w'.heap=w.heap→(en (P.cellsOf e) n (.slice p n cap)).run P w'= .ok olds.toArray w') (hroom:cap<n+m) (hb:(n+m)*i.bytes≤140737488355328) (hbz:0<i.bytes):
  ∃K,n+m≤K∧(mm #[t,u] ty #[.slice p n cap,x]).run P w=
   .ok (.slice (some ⟨w.heap.size,0,none⟩) (n+m) K) ({w with drawn:=w.drawn+1}.alloc (.cells (olds.toArray++us.toArray++ll z.cells (K-(n+m))) e)):=by
 obtain⟨d,hu,hk⟩:=hu;have hz:(P.info? e).isSome=true:=by rw[hi];rfl
 have hcells:P.cellsOf e=i.size:=by simp[ml,hi]
 have hch:(choose (.appendCap (n+m) cap e)).run P w= .ok (grownCap w (n+m) cap e) {w with drawn:=w.drawn+1}:=by
  simp[Question.forced,grownCap]
 have hnr: ¬(n+m≤cap):=by omega
 have hfit:=growslice_fits (bytes:=i.bytes) hroom hb;have hfit': ¬(Builtin.nextslicecap (n+m) cap*i.bytes>2^48):=by omega
 refine⟨grownCap w (n+m) cap e,grownCap_ge w (n+m) cap e,?_⟩;have h1:=hc {w with drawn:=w.drawn+1} rfl;have h2:=ho {w with drawn:=w.drawn+1} rfl;have hbz':i.bytes≠0:=by omega
 simp only[mm,jl,bw,di,Sem.run_bind,A9 ht,A9 hu,Result.andThen_ok,Cg hz,Sem.run_pure];cases d<;>first
  |exact absurd rfl (hk _)
  |(simp only[ah,ud,hl,Result.andThen_ok,Sem.run_bind,Sem.run_pure,t7 hnr,Sem.run_ite,HH hi,hbz',or_self,and_false,hfit',hch,run_askRoom,h1,h2,zeroValue,hzz,newRow,run_newObj,gt_iff_lt]
    rfl)
theorem AbN{fz:Bool}{sz:Nat}{els:List (List AV)}{vss:List (List Value)}{arr:Array Value}{e:TypeId}{w:World}(hw:w.heap=C.w.heap)(hsz:0<sz)(hs: ∀x∈els,x.length=sz∧x.all scal=true)(hr:Bl C els vss)
  (harr: ∀(j:Nat) (v:Value),vss.flatten[j]? =some v→arr[j]? =some v) (hle:els.length*sz≤arr.size):let p:Place:=⟨C.w.heap.size,0,arr.size⟩
  let w':=w.alloc (.cells arr e)
  C.w.heap.size<w'.heap.size∧(∀b,b<C.w.heap.size→w'.heap[b]? =C.w.heap[b]?)∧ ∀D:CG,IV C D→D.w=w'→Obj D p (BU.row (some e) fz sz els):=by
 have hsize:w.heap.size=C.w.heap.size:=by rw[hw]
 have hn:(w.alloc (.cells arr e)).heap[C.w.heap.size]? =some (.cells arr e):=by rw[←hsize];exact IR _ _
 refine⟨by rw[H3,hsize];omega,fun b hb=>by rw[alloc_old _ _ (by omega),hw],?_⟩;intro D X hD;refine⟨vss,arr,e,(0,0),⟨by rw[hD];exact hn,bc _,fun k hk=>by cases hk;rfl⟩,rfl,hsz,hs,sy X hr,by simpa using hle,?_,?_,?_⟩
 ·intro j v hj;rw[hD];simp only[gg,hn,dc];simpa using harr j v hj
 ·intro _ o _;rw[hD];simp only[j1,hn];simp
 ·intro _ o _ _;rw[hD];simp only[j1,hn];simp
theorem Vm(I:Inv tb C){fz:Bool}{sz:Nat}{els:List (List AV)}{vss:List (List Value)}{arr:Array Value}{e:TypeId}{w:World}(hrest:Rest C.w w)(hw:w.heap=C.w.heap)(hsz:0<sz)(hs: ∀x∈els,x.length=sz∧x.all scal=true)(hr:Bl C els vss)
  (harr: ∀(j:Nat) (v:Value),vss.flatten[j]? =some v→arr[j]? =some v) {K:Nat} (hK:els.length≤K) (hle:K*sz≤arr.size) {x:Result Next}
  (h:x= .ok (.value (.slice (some ⟨C.w.heap.size,0,none⟩) els.length K)) (w.alloc (.cells arr e))):
  Yields tb C (.orow C.H.length els.length 0 els.length,some (C.H++[BU.row (some e) fz sz els])) x:=by
 have hle':els.length*sz≤arr.size:=dj (cn _ hK) hle;obtain⟨h1,h2,h3⟩:=AbN (fz:=fz) (e:=e) hw hsz hs hr harr hle';refine QT (w:=w.alloc (.cells arr e)) I (p:=⟨C.w.heap.size,0,arr.size⟩) hrest h h1 rfl h2 (h3 _ (more (w:=w.alloc (.cells arr e)) I hrest h1 rfl h2).1 rfl) ?_;intro hφ;refine⟨⟨_,_,rfl⟩,fz,sz,els,by simp[q5,rowAt],bc _,fun _=>⟨by omega,0,K,by rw[hφ],hK,fun _=>by rw[hφ];simp,by rw[hφ];simpa using hle,by rw[hφ];exact dz _⟩⟩
theorem VN{vss:List (List Value)}{us:List Value}{rest:Array Value}(j:Nat)(v:Value)(h:vss.flatten[j]? =some v)(e:us=vss.flatten):(#[]++us.toArray++rest)[j]? =some v:=by
 subst e;have:=Bg h;rw[lr (by simpa using this)];simpa using h
theorem sim_app(I:Inv tb C)(F:BB C f a nt){o:Oper}{c:Call}{t u e:TypeId}{s x:AO}{y1 y2:Operand}(ho:o.op= .call c)(hc:c.callee= .builtin .append)(hargs:c.args= #[y1,y2])(htys:c.argTypes= #[t,u])
  (ht:P.underlying t=some (.slice e)) (hu: ∃d,P.underlying u=some d∧ ∀k,d≠ .int k) {i:TypeInfo} (hi:P.info? e=some i) {z:Value} (hzz:i.zero=some z) (hzs:z.cells.size=P.cellsOf e) (hz0:0<P.cellsOf e) (hbz:0<i.bytes)
  (h1:Bz s y1=true) (h2:Bz x y2=true) {new:List (List AV)} (hn:uI C.H (P.cellsOf e) (eval tb f x)=some new) {r:AV×Option A6} (h:Zh C.H e (P.cellsOf e) i.bytes (eval tb f s) new=some r):
  Yields tb C r ((execOp a.eval o).run P C.w):=by
 have hz:(P.info? e).isSome=true:=by rw[hi];rfl
 have r1:=Ba I F h1;obtain⟨hl,vss,hrr,hs,hfc⟩:=uH (P:=P) I hz0 (Ba I F h2) hn;have hlens:=j8 (fun x hx=>(hs x hx).1) hrr;have hfc': ∀w',w'.heap=C.w.heap→(en (P.cellsOf e) new.length (a.eval y2)).run P w'= .ok vss.flatten.toArray w':=by
  intro w' hw;have:=hfc new.length w' (bc _) hw
  rwa [au (by rw[hrr.length];omega)]at this
 have hul:vss.flatten.length=new.length*P.cellsOf e:=by rw[G0 _ hlens,hrr.length]
 have run: ∀{v w'},(mm #[t,u] o.type #[a.eval y1,a.eval y2]).run P C.w= .ok v w'→(execOp a.eval o).run P C.w= .ok (.value v) w':=by
  intro v w' hv;refine F9 ho hc fun q=> ?_;simp only[hargs,htys,f7,bh,eo,builtin,Sem.run_bind,hv,Result.andThen_ok,Sem.run_pure]
 generalize eval tb f s=v at*;cases v<;>simp only[Zh,reduceCtorEq]at h
 case nils=>
  have e1:a.eval y1= .slice none 0 0:=r1
  split at h
  ·rename_i h0;obtain rfl:=be h;have:=Rl (P:=P) (ty:=o.type) ht hu hz (p:=none) (n:=0) (cap:=0) hl (hfc' C.w rfl) (by omega);refine AB I (v:= .slice none 0 0) (run ?_) rfl;rw[e1,this];simp[h0]
  ·rename_i h0
   split at h
   ·rename_i hb;obtain rfl:=be h;obtain⟨K,hK,hrun⟩:=WE (P:=P) (ty:=o.type) (p:=none) (n:=0) (cap:=0) (olds:=[]) ht hu hi hzz hl hfc' (fun w' _=>by simp[en]) (by omega) (by rw[dc];unfold Ci at hb;omega) hbz;rw[←e1]at hrun;simp only[dc]at hrun hK;refine Vm (w:={C.w with drawn:=C.w.drawn+1}) I ⟨rfl,rfl,rfl⟩ rfl hz0 hs hrr (fun j v hj=>VN j v hj rfl) hK ?_ (run hrun);simp only[Array.size_append,lm,size_zeroCells,hzs,hul,bu,dc];rw[←ga,show new.length+(K-new.length)=K by omega];exact bc _
   ·simp at h
 case orow id n lo len=>
  obtain⟨_,fz,sz,els,hg,hle,k⟩:=r1;simp only[hg,aa]at h
  split at h
  ·rename_i hcond;obtain⟨rfl,hn',rfl,hsz,hb,hfz⟩:=hcond;obtain⟨_,off,cap,e1,hlc,hoff,hsize,hbo⟩:=k hn';subst hsz;subst hn';obtain⟨tl,hg',hlab⟩:=Ks hg;obtain⟨ws,arr,et,fr,⟨g1,hfr0,hlb⟩,g2,g3,g4,g5,g6,g7,g8,g9⟩:=I.obj id _ hg';have hwl:=j8 (fun x hx=>(g4 x hx).1) g5;have hwfl:ws.flatten.length=els.length*P.cellsOf e:=by rw[G0 _ hwl,g5.length]
   split at h
   ·rename_i h0;obtain rfl:=be h;have:=Rl (P:=P) (ty:=o.type) ht hu hz (p:=some ⟨(C.φ id).blk,off,none⟩) (n:=els.length) (cap:=cap) hl (hfc' C.w rfl) (by omega);have hv0:vss.flatten=[]:=c0 (by rw[hul,h0];simp);rw[hv0]at this;refine AB I (v:= .slice (some ⟨(C.φ id).blk,off,none⟩) els.length cap) (run ?_) ⟨⟨_,_,rfl⟩,fz,_,els,hg,bc _,fun _=>⟨by omega,off,cap,rfl,hlc,hoff,hsize,hbo⟩⟩;rw[e1,this];simp[h0,storeCells]
   ·rename_i h0;obtain rfl:=be h;have hpos:0<new.length:=by omega
    by_cases hroom:els.length+new.length≤cap
    ·
     have hcap:(els.length+new.length)*P.cellsOf e≤cap*P.cellsOf e:=cn _ hroom;rw[ga]at hcap;have hoffs:off=(C.φ id).base∨els.length=0:=by
      rcases ez els.length with h|h
      ·exact .inr h
      ·exact .inl (by rw[hoff h];simp)
     have hst:=bZ (P:=P) (o:=off+els.length*P.cellsOf e) (vs:=vss.flatten) g1 (by rw[hul];omega) (fun j hj=>g9 hfz _ (by
       rcases hoffs with h|h
       ·omega
       ·rw[h];omega) (by rw[hul]at hj;omega)) (Qv (Q9 fun x hx=>(hs x hx).2) hrr.flat)
     have:=Rl (P:=P) (ty:=o.type) ht hu hz (p:=some ⟨(C.φ id).blk,off,none⟩) (n:=els.length) (cap:=cap) hl (hfc' C.w rfl) hroom;simp only[Hc,hst,Result.andThen_ok]at this;obtain⟨arr',q1,q2⟩:=HK vss.flatten (off+els.length*P.cellsOf e) g1;obtain⟨X,hI⟩:=upd (D:=⟨fun j=>if j=id then⟨(C.φ id).blk,off,(C.φ id).size⟩else C.φ j,C.H.set id (BU.row (ZA (EQ C.H id) e) fz (P.cellsOf e) (els++new)),C.w.setCells (C.φ id).blk (off+els.length*P.cellsOf e) vss.flatten,C.res⟩) I (HI _ _) hg' rfl
      (fun j hj=>t7 hj) (by simp only[HG];omega) (fun b hb hne=>En hne _ _) (.inl (by simp)) (fun e=>by cases e)
      (fun _ fz' sz' els' e=>by cases e;exact⟨_,_,_,rfl,by simp,fun e=>absurd e (by rw[an];omega)⟩)
     refine⟨_,X,hI ?_,rfl, .inl ⟨.slice (some ⟨(C.φ id).blk,off,none⟩) (els.length+new.length) cap,run (by rw[e1,this]),?_⟩⟩
     ·simp only[uc];refine⟨ws++vss,arr',et,fr,⟨q1,hfr0,fun k hk=>by
       unfold ZA at hk
       split at hk
       ·rename_i hl';rw[hlab]at hl';cases hk;exact hlb _ hl'
       ·cases hk⟩,by rw[q2];exact g2,g3,?_,s6 (sy X g5) (sy X hrr),?_,?_,?_,?_⟩
      ·intro y hy;rcases cf.1 hy with hy|hy
       ·exact g4 y hy
       ·exact hs y hy
      ·simp only[an];rw[ga];omega
      ·intro j v hj;rw[gy]at hj;rcases ef j ws.flatten.length with hlt|hge
       ·rw[bq hlt]at hj;rw[World.cell?_setCells_out _ _ _ _ _ fun _ _=> .inl (by simp;omega)];have hoff':off=(C.φ id).base:=hoffs.resolve_right fun h0=>by rw[h0]at hwfl;omega
        rw[hoff'];exact g7 j v hj
       ·rw[bo hge]at hj;have hlt':=Bg hj;have:=World.cell?_setCells_in (C.φ id).blk vss.flatten (off+els.length*P.cellsOf e) C.w (fun q hq=>by
         simp only[gg,g1];simp[ff (show off+els.length*P.cellsOf e+q<arr.size by omega)]) (j-ws.flatten.length) hlt'
        rw[show off+els.length*P.cellsOf e+(j-ws.flatten.length)=off+j by omega]at this;rw[this,←hj,ab hlt']
      ·intro hf j hj;rw[Iu];exact g8 hf j hj
      ·intro _ j hj hj';simp only[an]at hj;rw[ga]at hj;rw[Iu];refine g9 hfz j ?_ hj';rcases hoffs with h|h
       ·omega
       ·rw[h];omega
     ·exact⟨⟨_,_,rfl⟩,fz,P.cellsOf e,els++new,yR (de (Bg hg')),by simp,fun _=>⟨by simp,off,cap,by simp,by omega,fun _=>by simp,by simpa using hsize,by simp⟩⟩
    ·
     have hold: ∀w',w'.heap=C.w.heap→(en (P.cellsOf e) els.length (.slice (some ⟨(C.φ id).blk,off,none⟩) els.length cap)).run P w'= .ok ws.flatten.toArray w':=by
      intro w' hw;have hh:E1 w' (C.φ id).blk off ws.flatten:=by
       intro j v hj;have hlt:=Bg hj;have hoff':off=(C.φ id).base:=by
        rcases ez els.length with h|h
        ·rw[h]at hwfl;omega
        ·rw[hoff h];simp
       rw[RE (w:=C.w) (w':=w') (by rw[hw]),hoff'];exact g7 j v hj
      have:=In (P:=P) hh;rw[hwfl]at this;simpa [en]using this
     obtain⟨K,hK,hrun⟩:=WE (P:=P) (ty:=o.type) (p:=some ⟨(C.φ id).blk,off,none⟩) (n:=els.length) (cap:=cap) (olds:=ws.flatten) ht hu hi hzz hl hfc' hold (by omega) (by unfold Ci at hb;omega) hbz;rw[←e1]at hrun;have hall: ∀x∈els++new,x.length=P.cellsOf e∧x.all scal=true:=by
      intro y hy;rcases cf.1 hy with hy|hy
      ·exact g4 y hy
      ·exact hs y hy
     have hsize':(ws.flatten.toArray++vss.flatten.toArray++ll z.cells (K-(els.length+new.length))).size=K*P.cellsOf e:=by
      simp only[Array.size_append,lm,size_zeroCells,hzs,hul,hwfl];rw[←ga,←ga];congr 1;omega
     obtain⟨w1,w2,w3⟩:=AbN (fz:=fz) (e:=e) (w:={C.w with drawn:=C.w.drawn+1}) (vss:=ws++vss) (arr:=ws.flatten.toArray++vss.flatten.toArray++ll z.cells (K-(els.length+new.length))) rfl hz0 hall (s6 g5 hrr)
      (fun j v hj=>by
       rw[gy]at hj;have:=Bg hj;rw[lr (by simpa using this)];simpa using hj) (by rw[hsize',an];exact cn _ hK)
     obtain⟨X,hI⟩:=upd (D:=⟨fun j=>if j=id then⟨C.w.heap.size,0,(ws.flatten.toArray++vss.flatten.toArray++ll z.cells (K-(els.length+new.length))).size⟩else C.φ j,C.H.set id (BU.row (ZA (EQ C.H id) e) fz (P.cellsOf e) (els++new)),{C.w with drawn:=C.w.drawn+1}.alloc (.cells (ws.flatten.toArray++vss.flatten.toArray++ll z.cells (K-(els.length+new.length))) e),C.res⟩) I ⟨rfl,rfl,rfl⟩ hg' rfl
      (fun j hj=>t7 hj) (ph w1) (fun b hb _=>w2 b hb) (.inr ⟨by simp,by simp⟩) (fun e=>by cases e)
      (fun _ fz' sz' els' e=>by cases e;exact⟨_,_,_,rfl,by simp,fun e=>absurd e (by rw[an];omega)⟩)
     refine⟨_,X,hI ?_,rfl, .inl ⟨_,run hrun,?_⟩⟩
     ·simp only[uc];obtain⟨vss',arr'',e'',fr'',⟨y1,y2,y3⟩,yy⟩:=w3 _ X rfl;exact⟨vss',arr'',e'',fr'',⟨y1,y2,fun k hk=>by
       unfold ZA at hk
       split at hk
       ·cases hk;exact y3 _ rfl
       ·cases hk⟩,yy⟩
     ·exact⟨⟨_,_,rfl⟩,fz,P.cellsOf e,els++new,yR (de (Bg hg')),by simp,fun _=>⟨by simp,0,K,by simp,hK,fun _=>by simp,by simp only[uc,hsize'];omega,by simp⟩⟩
  ·simp at h
theorem kU{sz m:Nat}{l:List (List AV)}(h: ∀x∈l,x.length=sz)(hm:m≤l.length):(l.take m).flatten.length=m*sz:=by
 rw[G0 _ fun x hx=>h x (co hx),aq,fq hm]
theorem sim_cpy(I:Inv tb C)(F:BB C f a nt){o:Oper}{c:Call}{t e:TypeId}{ts:Array TypeId}{d x:AO}{y1 y2:Operand}(ho:o.op= .call c)(hc:c.callee= .builtin .copy)(hargs:c.args= #[y1,y2])(htys:c.argTypes=ts)(ht0:ts[0]? =some t)
  (ht:P.underlying t=some (.slice e)) (hz:(P.info? e).isSome=true) (hz0:0<P.cellsOf e) (h1:Bz d y1=true) (h2:Bz x y2=true) {src:List (List AV)} (hn:uI C.H (P.cellsOf e) (eval tb f x)=some src) {r:AV×Option A6}
  (h:rZ C.H (P.cellsOf e) (eval tb f d) src=some r):Yields tb C r ((execOp a.eval o).run P C.w):=by
 have r1:=Ba I F h1;obtain⟨hl,vss,hrr,hs,hfc⟩:=uH (P:=P) I hz0 (Ba I F h2) hn;have hlens:=j8 (fun x hx=>(hs x hx).1) hrr;have run: ∀{v w'},(oy ts o.type #[a.eval y1,a.eval y2]).run P C.w= .ok v w'→(execOp a.eval o).run P C.w= .ok (.value v) w':=by
  intro v w' hv;refine F9 ho hc fun q=> ?_;simp only[hargs,htys,f7,bh,eo,builtin,Sem.run_bind,hv,Result.andThen_ok,Sem.run_pure]
 have body: ∀{p:Option Addr} {len cap:Nat},a.eval y1= .slice p len cap→(oy ts o.type #[a.eval y1,a.eval y2]).run P C.w=
   (match p with
    |some q=>(storeCells q (vss.take (min src.length len)).flatten).run P C.w
    |none=> .ok () C.w).andThen fun _ w'=> .ok (goInt ((min src.length len:Nat):Int)) w':=by
  intro p len cap he;have hm:min src.length len≤src.length:=Nat.min_le_left _ _;have hf:=hfc (min src.length len) C.w hm rfl;have hmin:Nat.min src.length len=min src.length len:=rfl;simp only[oy,ht0,jl,bw,di,Sem.run_bind,A9 ht,Result.andThen_ok,he,hl,Cg hz,hmin,hf];cases p<;>simp
 have hvt: ∀m,m≤src.length→Br C (src.take m).flatten (vss.take m).flatten∧(src.take m).flatten.all scal=true∧(src.take m).flatten.length=m*P.cellsOf e∧(vss.take m).flatten.length=m*P.cellsOf e:=by
  intro m hm;have hr:=qz (r7 (n:=m) hrr);have hlen:=kU (m:=m) (fun x hx=>(hs x hx).1) hm;exact⟨hr,Q9 fun x hx=>(hs x (co hx)).2,hlen,by rw[hr.length,hlen]⟩
 generalize eval tb f d=v at*;cases v<;>simp only[rZ,reduceCtorEq]at h
 case nils=>
  obtain rfl:=be h;have e1:a.eval y1= .slice none 0 0:=r1;refine AB I (v:=goInt 0) (run ?_) rfl;rw[body e1];simp
 case ocel sz id off len=>
  obtain⟨_,o',cap,e1,hlc,hoff,_⟩:=r1;cases hcs:BR C.H id with
  |none=>rw[hcs]at h;simp at h
  |some cs=>
   rw[hcs]at h;simp only[aa]at h
   split at h
   ·rename_i hcond;obtain⟨hsz,hle⟩:=hcond;obtain rfl:=be h;obtain⟨tl,hg,hlab⟩:=QM hcs;obtain⟨vs,arr,et,fr,⟨g1,hlb⟩,g2,g3,g4,g5,g6⟩:=I.obj id _ hg;generalize hm:min src.length len=m at*;have hms:m≤src.length:=by omega
    have hml:m*P.cellsOf e≤len*P.cellsOf e:=cn _ (by omega);obtain⟨q1,q2,q3,q4⟩:=hvt m hms;have hsp:cs.take off++(src.take m).flatten++cs.drop (off+m*P.cellsOf e)=B7 cs off (src.take m).flatten:=by simp only[B7,q3]
    have hst:(storeCells ⟨(C.φ id).blk,o',none⟩ (vss.take m).flatten).run P C.w= .ok () (C.w.setCells (C.φ id).blk off (vss.take m).flatten):=by
     by_cases h0:0<len
     ·rw[hoff h0];exact bZ g1 (by rw[q4,g2];omega) (fun j hj=>g6 _ (by rw[q4]at hj;omega)) (Qv q2 q1)
     ·have:m=0:=by omega
      subst this;simp[storeCells,World.setCells]
    obtain⟨arr',k1,k2⟩:=HK (vss.take m).flatten off g1;obtain⟨X,hI⟩:=upd (D:=⟨C.φ,C.H.set id (BU.cells (EQ C.H id) (B7 cs off (src.take m).flatten)),C.w.setCells (C.φ id).blk off (vss.take m).flatten,C.res⟩) I (HI _ _) hg rfl (fun _ _=>rfl) (by simp only[HG];omega)
     (fun b hb hne=>En hne _ _) (.inl rfl) (fun _=>⟨rfl,rfl⟩) (fun _ _ _ _ e=>by cases e)
    refine⟨_,X,hI ?_,by simp only[io,hsp], .inl ⟨goInt m,run ?_,rfl⟩⟩
    ·refine⟨_,arr',et,fr,⟨k1,by rw[hlab];exact hlb⟩,by rw[k2,g2,Jf (by rw[q3];omega)],OU g3 q2,Ra (g4.ext X) (q1.ext X),?_,?_⟩
     ·have:=E1.put (base:=0) (o:=off) g1 g5 (vs:=(vss.take m).flatten) (by rw[q4,g4.length];omega) (by rw[g4.length];omega);simpa using this
     ·intro j hj;rw[Jf (by rw[q3];omega)]at hj;rw[Iu];exact g6 j hj
    ·rw[body e1];simp only[hm,hst,Result.andThen_ok]
   ·simp at h
 case orow id n lo len=>
  obtain⟨_,fz,sz,els,hg,hle,k⟩:=r1;simp only[hg,aa]at h
  split at h
  ·rename_i hcond;obtain⟨hfz,hn',hsz,hlo⟩:=hcond;obtain rfl:=be h;subst hsz;obtain⟨_,off,cap,e1,hlc,hoff,hsize,hbo⟩:=k hn';obtain⟨tl,hg',hlab⟩:=Ks hg;obtain⟨ws,arr,et,fr,⟨g1,hfr0,hlb⟩,g2,g3,g4,g5,g6,g7,g8,g9⟩:=I.obj id _ hg';generalize hm:min src.length len=m at*;have hms:m≤src.length:=by omega
   obtain⟨q1,q2,q3,q4⟩:=hvt m hms;have hwl:=j8 (fun x hx=>(g4 x hx).1) g5;have hwfl:ws.flatten.length=els.length*P.cellsOf e:=by rw[G0 _ hwl,g5.length]
   have hb1:lo*P.cellsOf e+m*P.cellsOf e≤els.length*P.cellsOf e:=by
    rw[←ga];exact cn _ (by omega)
   have hst:(storeCells ⟨(C.φ id).blk,off,none⟩ (vss.take m).flatten).run P C.w= .ok () (C.w.setCells (C.φ id).blk ((C.φ id).base+lo*P.cellsOf e) (vss.take m).flatten):=by
    by_cases h0:0<len
    ·rw[hoff h0];exact bZ g1 (by rw[q4,g2];omega) (fun j hj=>g8 hfz _ (by rw[q4]at hj;omega)) (Qv q2 q1)
    ·have:m=0:=by omega
     subst this;simp[storeCells,World.setCells]
   obtain⟨arr',k1,k2⟩:=HK (vss.take m).flatten ((C.φ id).base+lo*P.cellsOf e) g1;obtain⟨X,hI⟩:=upd (D:=⟨C.φ,C.H.set id (BU.row (EQ C.H id) false (P.cellsOf e) (els.take lo++src.take m++els.drop (lo+m))),C.w.setCells (C.φ id).blk ((C.φ id).base+lo*P.cellsOf e) (vss.take m).flatten,C.res⟩) I (HI _ _) hg' rfl (fun _ _=>rfl) (by simp only[HG];omega)
    (fun b hb hne=>En hne _ _) (.inl rfl) (fun e=>by cases e) (fun _ fz' sz' els' e=>by cases e;exact⟨_,_,_,rfl,by simp only[an,aq,bk];omega,fun _=>rfl⟩)
   have hnl:(els.take lo++src.take m++els.drop (lo+m)).length=els.length:=by simp only[an,aq,bk];omega
   refine⟨_,X,hI ?_,rfl, .inl ⟨goInt m,run ?_,rfl⟩⟩
   ·refine⟨ws.take lo++vss.take m++ws.drop (lo+m),arr',et,fr,⟨k1,hfr0,by rw[hlab];exact hlb⟩,by rw[k2];exact g2,g3,?_,?_,by rw[hnl];exact g6,?_,?_,?_⟩
    ·intro y hy;simp only[cf]at hy;rcases hy with (hy|hy)|hy
     ·exact g4 y (co hy)
     ·exact hs y (co hy)
     ·exact g4 y (cz hy)
    ·exact s6 (s6 (r7 (g5.ext X)) (r7 (hrr.ext X))) (Bl.drop (g5.ext X))
    ·have hfl:(ws.take lo++vss.take m++ws.drop (lo+m)).flatten=ws.flatten.take (lo*P.cellsOf e)++(vss.take m).flatten++ws.flatten.drop (lo*P.cellsOf e+(vss.take m).flatten.length):=by
      rw[gy,gy,F5 _ _ hwl,Gz _ _ hwl,q4,←ga]
     rw[hfl];exact E1.put (base:=(C.φ id).base) (o:=lo*P.cellsOf e) g1 g7 (vs:=(vss.take m).flatten) (by omega) (by omega)
    ·intro _ j hj;rw[Iu];exact g8 hfz j hj
    ·intro _ j hj hj';rw[Iu];exact g9 hfz j (by rwa [hnl]at hj) hj'
   ·rw[body e1];simp only[hm,hst,Result.andThen_ok]
  ·simp at h
end
end
section
def yO(P:Program)(sh:TypeId→Option (List CK)):Nat→List Field→Option (List CK)
 |_,[]=>some []
 |pos,f::fs=>(sh f.type).bind fun l=>if f.offset=pos∧f.name≠ "_" ∧l.length=P.cellsOf f.type then(yO P sh (pos+l.length) fs).map (l++ ·)else none
def aR(P:Program):Nat→TypeId→Option (List CK)
 |0,_=>none
 |d+1,t=>
  match P.underlying t with
  |some .bool=>some [.b]
  |some (.int k)=>some [.i k]
  |some .string=>some [.s]
  |some (.struct fs)=>if P.stoodInHeld t then none else yO P (aR P d) 0 fs.toList
  |some (.array n e)=>(aR P d e).bind fun l=>if l.length=P.cellsOf e then some (az n l).flatten else none
  |_=>none
theorem LB: ∀{l:List CK} {x y:List AV} {b:Bool},NE l x y=some b→x.length=l.length∧y.length=l.length
 |[],[],[],_,_=>⟨rfl,rfl⟩
 |[],[],_::_,_,h=>by simp[NE]at h
 |[],_::_,_,_,h=>by simp[NE]at h
 |_::_,[],_,_,h=>by simp[NE]at h
 |_::_,_::_,[],_,h=>by simp[NE]at h
 |c::l,v::x,u::y,b,h=>by
  simp only[NE]at h;obtain⟨a,_,h⟩:=ad.1 h;obtain⟨d,h,_⟩:=aj.1 h;obtain⟨h1,h2⟩:=LB h;simp[h1,h2]
theorem VR: ∀{l m:List CK} {x y:List AV} {b:Bool},NE (l++m) x y=some b→ ∃a c,NE l (x.take l.length) (y.take l.length)=some a∧NE m (x.drop l.length) (y.drop l.length)=some c∧b=(a&&c)
 |[],m,x,y,b,h=>⟨true,b,by simp[NE],by simpa using h,by simp⟩
 |c::l,m,[],_,_,h=>by simp[NE]at h
 |c::l,m,_::_,[],_,h=>by simp[NE]at h
 |c::l,m,v::x,u::y,b,h=>by
  simp only[cd,NE]at h;obtain⟨a,ha,h⟩:=ad.1 h;obtain⟨d,h',hd⟩:=aj.1 h;subst hd;obtain⟨p,q,h1,h2,hpq⟩:=VR h';subst hpq;refine⟨a&&p,q,?_,by simpa using h2,by simp[Bool.and_assoc]⟩;simp only[ba,i',NE,ha,aa,h1,ak]
section
variable{cl:Nat→List AV→A6→M2}{P:Program}{tb:CV}{C:CG}{f:Fr}{a:Act}{nt:Nat}
def jN(P:Program)(t:TypeId)(cs:List Value)(v:Value):Prop:=if FJ P t=true then v= .agg cs.toArray else cs=[v]
theorem Uc{d:Nat}{t:TypeId}{l:List CK}(h:aR P d t=some l)(ha:FJ P t=false):l.length=1:=by
 cases d with
 |zero=>simp[aR]at h
 |succ d=>
  simp only[aR]at h;simp only[FJ]at ha
  split at h<;>simp_all
  all_goals (subst h;rfl)
theorem Qn{d:Nat}{t:TypeId}{l:List CK}(h:aR P d t=some l):(P.underlying t).isSome=true:=by
 cases d with
 |zero=>simp[aR]at h
 |succ d=>
  simp only[aR]at h;cases hu:P.underlying t with
  |none=>rw[hu]at h;simp at h
  |some _=>rfl
theorem Mm{d:Nat}{t:TypeId}{l:List CK}(h:aR P d t=some l)(hc:l.length=P.cellsOf t){cs:List Value}{off:Nat}(hle:off+l.length≤cs.length)(w:World):
  ∃v,(part t cs.toArray off).run P w= .ok v w∧jN P t ((cs.drop off).take l.length) v:=by
 have hu:=Qn h;have hi:(P.info? t).isSome=true:=by
  obtain⟨d,hd⟩:=bn.1 hu;exact info_of_underlying hd
 cases ha:FJ P t with
 |true=>
  refine⟨.agg (cs.toArray.extract off (off+P.cellsOf t)),?_,?_⟩
  ·simp only[part,Sem.run_bind,FN t w hu,ha,Result.andThen_ok,uc,Cg hi,Sem.run_pure]
  ·simp only[jN,ha,uc];congr 1;rw[←kr,ls,hc];simp[po]
 |false=>
  have h1:=Uc h ha;have hlt:off<cs.length:=by omega
  refine⟨cs[off],?_,?_⟩
  ·simp only[part,Sem.run_bind,FN t w hu,ha,Result.andThen_ok,ah,ud];simp[hlt]
  ·simp only[jN,ha,ah,ud,h1];rw[da hlt]
   rfl
def ckT:CK→TypeDesc
 | .b=> .bool
 | .i k=> .int k
 | .s=> .string
theorem cA{c:CK}{x y:AV}{v u:Value}{b:Bool}(h:eq1 c x y=some b)(rx:Gk C x v)(ry:Gk C y u):
  (∃p q,c= .b∧v= .bool p∧u= .bool q∧b=(p==q))∨(∃k p q,c= .i k∧v= .int k p∧u= .int k q∧b=(p==q))∨ ∃p q:List UInt8,c= .s∧v= .string ⟨p.toArray⟩∧u= .string ⟨q.toArray⟩∧b=(p==q):=by
 unfold eq1 at h
 split at h
 ·rename_i p q;simp only[ae]at h;exact .inl ⟨p,q,rfl,rx,ry,h.symm⟩
 ·rename_i k k1 p k2 q
  split at h
  ·rename_i hk;obtain⟨rfl,rfl⟩:=hk;simp only[ae]at h;exact .inr (.inl ⟨_,p,q,rfl,rx,ry,h.symm⟩)
  ·cases h
 ·rename_i p q;simp only[ae]at h;exact .inr (.inr ⟨p,q,rfl,rx,ry,h.symm⟩)
 ·cases h
theorem yP(d:Nat){c:CK}{t:TypeId}{x y:AV}{v u:Value}{b:Bool}(h:eq1 c x y=some b)(rx:Gk C x v)(ry:Gk C y u)(w:World)
  (ht:P.underlying t=some (ckT c)):(d6 (d+1) t v u).run P w= .ok b w:=by
 rcases cA h rx ry with ⟨p,q,rfl,rfl,rfl,rfl⟩|⟨k,p,q,rfl,rfl,rfl,rfl⟩|⟨p,q,rfl,rfl,rfl,rfl⟩
 ·exact run_equalIn_bool' w d t p q ht
 ·exact run_equalIn_int w d t k k p q ht
 ·rw[run_equalIn_string w d t _ _ ht,KW,KW]
theorem one_of{x y:List AV}{cx cy:List Value}{c:CK}{b:Bool}(h:NE [c] x y=some b)(rx:Br C x cx)(ry:Br C y cy): ∃a e v u,x=[a]∧y=[e]∧cx=[v]∧cy=[u]∧Gk C a v∧Gk C e u∧eq1 c a e=some b:=by
 obtain⟨h1,h2⟩:=LB h
 match x,y,h1,h2 with
 |[p],[q],_,_=>
  obtain⟨v,r,e1,rv,e2⟩:=rx;obtain⟨u,r',e3,ru,e4⟩:=ry;simp only[NE]at h;obtain⟨b',hb,h⟩:=ad.1 h;simp only[ak,ae,lc]at h;subst h;exact⟨p,q,v,u,rfl,rfl,by rw[e1,show r=[]from e2],by rw[e3,show r'=[]from e4],rv,ru,hb⟩
def EqFor(P:Program)(C:CG)(dd:Nat)(t:TypeId)(l:List CK):Prop:=
 ∀(ax ay:List AV) (cx cy:List Value) (b:Bool) (x y:Value) (w:World),Br C ax cx→Br C ay cy→NE l ax ay=some b→jN P t cx x→jN P t cy y→(d6 dd t x y).run P w= .ok b w
theorem V1(dd d:Nat)(IH: ∀t l,aR P d t=some l→EqFor P C dd t l): ∀(fs:List Field) (pos:Nat) (l:List CK),yO P (aR P d) pos fs=some l→ ∀(ax ay:List AV) (cx cy:List Value) (b:Bool) (w:World),
  Br C ax (cx.drop pos)→Br C ay (cy.drop pos)→NE l ax ay=some b→(Op.eqFields dd cx.toArray cy.toArray fs).run P w= .ok b w
 |[],pos,l,h,ax,ay,cx,cy,b,w,rx,ry,e=>by
  simp only[yO,ae]at h;subst h;obtain⟨h1,h2⟩:=LB e
  match ax,ay,h1,h2 with
  |[],[],_,_=>
   simp only[NE,ae]at e;subst e;simp[Op.eqFields]
 |f::fs,pos,l,h,ax,ay,cx,cy,b,w,rx,ry,e=>by
  simp only[yO]at h;obtain⟨m,hm,h⟩:=ad.1 h
  split at h
  ·rename_i hc;obtain⟨hoff,hname,hcells⟩:=hc;obtain⟨r,hr,rfl⟩:=aj.1 h;obtain⟨p,q,e1,e2,rfl⟩:=VR e;obtain⟨n1,n2⟩:=LB e;rw[an]at n1 n2;have lx:=rx.length;have ly:=ry.length;rw[bk]at lx ly
   by_cases h0:m.length=0
   ·
    obtain⟨v,hv,iv⟩: ∃v,(part f.type cx.toArray f.offset).run P w= .ok v w∧jN P f.type ((cx.drop f.offset).take m.length) v:=by
     cases ha:FJ P f.type with
     |false=>have:=Uc hm ha;omega
     |true=>
      have hu:=Qn hm;have hi:(P.info? f.type).isSome=true:=by
       obtain⟨d,hd⟩:=bn.1 hu;exact info_of_underlying hd
      refine⟨.agg (cx.toArray.extract f.offset (f.offset+P.cellsOf f.type)),?_,?_⟩
      ·simp only[part,Sem.run_bind,FN f.type w hu,ha,Result.andThen_ok,uc,Cg hi,Sem.run_pure]
      ·simp only[jN,ha,uc];congr 1;rw[←kr,ls,hcells];simp[po]
    obtain⟨u,hu',iu⟩: ∃v,(part f.type cy.toArray f.offset).run P w= .ok v w∧jN P f.type ((cy.drop f.offset).take m.length) v:=by
     cases ha:FJ P f.type with
     |false=>have:=Uc hm ha;omega
     |true=>
      have hu:=Qn hm;have hi:(P.info? f.type).isSome=true:=by
       obtain⟨d,hd⟩:=bn.1 hu;exact info_of_underlying hd
      refine⟨.agg (cy.toArray.extract f.offset (f.offset+P.cellsOf f.type)),?_,?_⟩
      ·simp only[part,Sem.run_bind,FN f.type w hu,ha,Result.andThen_ok,uc,Cg hi,Sem.run_pure]
      ·simp only[jN,ha,uc];congr 1;rw[←kr,ls,hcells];simp[po]
    have hq:=IH f.type m hm _ _ _ _ _ v u w (by rw[hoff];exact rx.take) (by rw[hoff];exact ry.take) e1 iv iu;simp only[Op.eqFields,hname,ne_eq,not_false_eq_true,uc,Sem.run_bind,hv,hu',hq,Result.andThen_ok];cases p
    ·simp
    ·simp only[cq,ah,ud,kf];exact V1 dd d IH fs _ r hr _ _ cx cy q w (by rw[←cw];exact rx.drop) (by rw[←cw];exact ry.drop) e2
   ·obtain⟨v,hv,iv⟩:=Mm (P:=P) hm hcells (cs:=cx) (off:=f.offset) (by omega) w;obtain⟨u,hu,iu⟩:=Mm (P:=P) hm hcells (cs:=cy) (off:=f.offset) (by omega) w;have hq:=IH f.type m hm _ _ _ _ _ v u w (by rw[hoff];exact rx.take) (by rw[hoff];exact ry.take) e1 iv iu;simp only[Op.eqFields,hname,ne_eq,not_false_eq_true,uc,Sem.run_bind,hv,hu,hq,Result.andThen_ok];cases p
    ·simp
    ·simp only[cq,ah,ud,kf];exact V1 dd d IH fs _ r hr _ _ cx cy q w (by rw[←cw];exact rx.drop) (by rw[←cw];exact ry.drop) e2
  ·cases h
theorem mI(dd:Nat){e:TypeId}{d:Nat}{m:List CK}(hm:aR P d e=some m)(hc:m.length=P.cellsOf e)(hz:FJ P e=true∨0<m.length)(IH:EqFor P C dd e m): ∀(n pos:Nat) (ax ay:List AV) (cx cy:List Value) (b:Bool) (w:World),
  Br C ax (cx.drop (pos*m.length))→Br C ay (cy.drop (pos*m.length))→NE (az n m).flatten ax ay=some b→(Op.eqItems dd e (P.cellsOf e) cx.toArray cy.toArray (dp pos n)).run P w= .ok b w
 |0,pos,ax,ay,cx,cy,b,w,rx,ry,h=>by
  simp only[List.replicate_zero,o6]at h;obtain⟨h1,h2⟩:=LB h
  match ax,ay,h1,h2 with
  |[],[],_,_=>
   simp only[NE,ae]at h;subst h;simp[Op.eqItems]
 |n+1,pos,ax,ay,cx,cy,b,w,rx,ry,h=>by
  rw[kj,bz]at h;obtain⟨p,q,e1,e2,rfl⟩:=VR h;obtain⟨n1,n2⟩:=LB h;rw[an]at n1 n2;have lx:=rx.length;have ly:=ry.length;rw[bk]at lx ly;have prt: ∀cs:List Value,pos*m.length+m.length≤cs.length∨(m.length=0∧FJ P e=true)→ ∃v,(part e cs.toArray (pos*P.cellsOf e)).run P w= .ok v w∧jN P e ((cs.drop (pos*m.length)).take m.length) v:=by
   intro cs hcs;rw[←hc];rcases hcs with hcs|⟨h0,ha⟩
   ·exact Mm (P:=P) hm hc hcs w
   ·have hu:=Qn hm;have hi:(P.info? e).isSome=true:=by
     obtain⟨d,hd⟩:=bn.1 hu;exact info_of_underlying hd
    refine⟨.agg (cs.toArray.extract (pos*m.length) (pos*m.length+P.cellsOf e)),?_,?_⟩
    ·simp only[part,Sem.run_bind,FN e w hu,ha,Result.andThen_ok,uc,Cg hi,Sem.run_pure]
    ·simp only[jN,ha,uc];congr 1;rw[←kr,ls,←hc];simp[po]
  obtain⟨v,hv,iv⟩:=prt cx (by
   rcases ez m.length with h0|h0
   ·exact .inr ⟨h0,hz.resolve_right (by omega)⟩
   ·left;omega)
  obtain⟨u,hu,iu⟩:=prt cy (by
   rcases ez m.length with h0|h0
   ·exact .inr ⟨h0,hz.resolve_right (by omega)⟩
   ·left;omega)
  have hq:=IH _ _ _ _ _ v u w rx.take ry.take e1 iv iu;simp only[nh,Op.eqItems,Sem.run_bind,hv,hu,hq,Result.andThen_ok];cases p
  ·simp
  ·simp only[cq,ah,ud,kf];refine mI dd hm hc hz IH n (pos+1) _ _ cx cy q w ?_ ?_ e2
   ·rw[ci,←cw];exact rx.drop
   ·rw[ci,←cw];exact ry.drop
theorem Xs(k:Nat): ∀(d:Nat) (t:TypeId) (l:List CK),aR P d t=some l→EqFor P C (k+d) t l
 |0,_,_,h=>by simp[aR]at h
 |d+1,t,l,h=>by
  intro ax ay cx cy b x y w rx ry e ix iy;simp only[aR]at h;have plain: ∀c:CK,l=[c]→P.underlying t=some (ckT c)→(d6 (k+(d+1)) t x y).run P w= .ok b w:=by
   intro c hl hu;subst hl;obtain⟨p,q,v,u,rfl,rfl,rfl,rfl,rv,ru,h1⟩:=one_of e rx ry;have hag:FJ P t=false:=by
    simp only[FJ,hu];cases c<;>rfl
   simp only[jN,hag,ah,ud,gr,and_true]at ix iy;subst ix;subst iy;exact yP (k+d) h1 rv ru w hu
  split at h
  ·rename_i hu;exact plain .b (by simpa using h.symm) hu
  ·rename_i q hu;exact plain (.i q) (by simpa using h.symm) hu
  ·rename_i hu;exact plain .s (by simpa using h.symm) hu
  ·rename_i fs hu
   split at h
   ·cases h
   ·rename_i hst;have hag:FJ P t=true:=by simp only[FJ,hu]
    simp only[jN,hag,uc]at ix iy;subst ix;subst iy;have hf:P.fieldsOf t=fs:=by simp only[Program.fieldsOf,hu]
    rw[show k+(d+1)=(k+d)+1 from rfl,run_equalIn_struct w (k+d) t _ _ (by rw[hf];exact hu) (by simpa using hst),hf];exact V1 (k+d) d (fun t l=>Xs k d t l) fs.toList 0 l h _ _ cx cy b w (by simpa using rx) (by simpa using ry) e
  ·rename_i n el hu;obtain⟨m,hm,h⟩:=ad.1 h
   split at h
   ·rename_i hc;obtain rfl:=be h;have hag:FJ P t=true:=by simp only[FJ,hu]
    simp only[jN,hag,uc]at ix iy;subst ix;subst iy;obtain⟨i,hi⟩: ∃i,P.info? el=some i:=by
     obtain⟨dd,hd⟩:=bn.1 (Qn hm);exact bn.1 (info_of_underlying hd)
    rw[show k+(d+1)=(k+d)+1 from rfl,run_equalIn_array w (k+d) _ _ hu hi,nn];refine mI (k+d) hm hc ?_ (Xs k d el m hm) n 0 _ _ cx cy b w (by simpa using rx) (by simpa using ry) e;cases ha:FJ P el with
    |true=>exact .inl rfl
    |false=>right;have:=Uc hm ha;omega
   ·cases h
  ·cases h
end
end
section
section
variable{cl:Nat→List AV→A6→M2}{P:Program}{tb:CV}{C:CG}{f:Fr}{a:Act}{nt:Nat}
def okEK(P:Program)(ek:EK)(t:TypeId):Bool:=
 match ek,P.underlying t with
 | .one .b,some .bool=>true
 | .agg l,some (.struct _)=>decide (aR P 50 t=some l)&& !P.eqGuardType P.depth t
 | .agg l,some (.array _ _)=>decide (aR P 50 t=some l)&& !P.eqGuardType P.depth t
 | .p,some (.pointer _)=>true
 | .m,some (.map _ _)=>true
 | .f,some (.func _ _ _)=>true
 | .n,some (.interface _)=>true
 | .sl,some (.slice _)=>true
 |_,_=>false
theorem Gq{op:BinOp}{t:TypeId}{x y:Value}{b:Bool}{w:World}(h:(d6 10000 t x y).run P w= .ok b w)(hb:(∃p q,x= .bool p∧y= .bool q)∨(∃p q,x= .agg p∧y= .agg q)∨(∃p q,x= .pointer p∧y= .pointer q)∨
  (∃p q,x= .map p∧y= .map q)∨(x= .nilFunc∨y= .nilFunc)∧(∀k n,x≠ .int k n∧y≠ .int k n)∨(x= .nilIface∨y= .nilIface)∧(∀k n,x≠ .int k n∧y≠ .int k n)∨(∃p l c q l' c',x= .slice p l c∧y= .slice q l' c')):
  (op= .eql→(er op t x y).run P w= .ok (.bool b) w)∧(op= .neq→(er op t x y).run P w= .ok (.bool (!b)) w):=by
 have h':(Op.equal t x y).run P w= .ok b w:=h;constructor<;>rintro rfl
 ·rcases hb with ⟨p,q,rfl,rfl⟩|⟨p,q,rfl,rfl⟩|⟨p,q,rfl,rfl⟩|⟨p,q,rfl,rfl⟩|⟨rfl|rfl,_⟩|⟨rfl|rfl,_⟩|⟨p,l,c,q,l',c',rfl,rfl⟩<;>
   first
   |(simp only[er,Sem.run_bind,h',Result.andThen_ok,Sem.run_pure];done)
   |(cases x<;>simp only[er,Sem.run_bind,h',Result.andThen_ok,Sem.run_pure])
   |(cases y<;>simp only[er,Sem.run_bind,h',Result.andThen_ok,Sem.run_pure])
 ·rcases hb with ⟨p,q,rfl,rfl⟩|⟨p,q,rfl,rfl⟩|⟨p,q,rfl,rfl⟩|⟨p,q,rfl,rfl⟩|⟨rfl|rfl,_⟩|⟨rfl|rfl,_⟩|⟨p,l,c,q,l',c',rfl,rfl⟩<;>
   first
   |(simp only[er,Sem.run_bind,h',Result.andThen_ok,Sem.run_pure];done)
   |(cases x<;>simp only[er,Sem.run_bind,h',Result.andThen_ok,Sem.run_pure])
   |(cases y<;>simp only[er,Sem.run_bind,h',Result.andThen_ok,Sem.run_pure])
theorem oP{t:TypeId}{l:List CK}{x y:List AV}{v u:Value}{b:Bool}(hu:FJ P t=true)(hk:aR P 50 t=some l)(hg:P.eqGuardType P.depth t=false)(h:NE l x y=some b)(rx:Gk C (.agg x) v)(ry:Gk C (.agg y) u)(p q:Operand)(w:World):
  (∀op,(eqGuard op t p q v u).run P w= .ok () w)∧ ∀op,(op= .eql→(er op t v u).run P w= .ok (.bool b) w)∧(op= .neq→(er op t v u).run P w= .ok (.bool (!b)) w):=by
 obtain⟨cx,rfl,_,r1⟩:=rx;obtain⟨cy,rfl,_,r2⟩:=ry;refine⟨fun op=>run_eqGuard_agg w op t p q _ _ hg,fun op=>Gq (Xs (C:=C) 9950 50 t l hk _ _ cx cy b _ _ w r1 r2 h ?_ ?_) (.inr (.inl ⟨_,_,rfl,rfl⟩))⟩
 ·simp only[jN,hu,uc]
 ·simp only[jN,hu,uc]
theorem Q7{t:TypeId}{v u:Value}(p q:Operand)(w:World)(h1: ∀l,v≠ .agg l)(h2:v≠ .nilIface∨u≠ .nilIface): ∀op,(eqGuard op t p q v u).run P w= .ok () w:=by
 intro op;cases v<;>first
  |exact absurd rfl (h1 _)
  |(simp only[eqGuard];split<;>rfl)
  |(cases u<;>first
    |exact absurd rfl (h2.resolve_left fun h=>h rfl)
    |(simp only[eqGuard];split<;>rfl))
theorem eqIn_ptr(d:Nat){t e:TypeId}(hu:P.underlying t=some (.pointer e)){o1 o2:Option Addr}{b:Bool}(h:(o1=none∧b=o2.isNone)∨(o2=none∧o1.isSome=true∧b=false))(w:World):
  (d6 (d+1) t (.pointer o1) (.pointer o2)).run P w= .ok b w:=by
 rcases h with ⟨rfl,rfl⟩|⟨rfl,h1,rfl⟩
 ·simp only[d6,Sem.run_bind,A9 hu,Result.andThen_ok,Sem.run_pure]
 ·cases o1 with
  |none=>cases h1
  |some a=>simp only[d6,Sem.run_bind,A9 hu,Result.andThen_ok,Sem.run_pure]
theorem eqIn_map(d:Nat){t k e:TypeId}(hu:P.underlying t=some (.map k e)){o1 o2:Option Nat}{b:Bool}(h:(o1=none∧b=o2.isNone)∨(o2=none∧o1.isSome=true∧b=false))(w:World):
  (d6 (d+1) t (.map o1) (.map o2)).run P w= .ok b w:=by
 rcases h with ⟨rfl,rfl⟩|⟨rfl,h1,rfl⟩
 ·simp only[d6,Sem.run_bind,A9 hu,Result.andThen_ok,Sem.run_pure]
 ·cases o1 with
  |none=>cases h1
  |some a=>simp only[d6,Sem.run_bind,A9 hu,Result.andThen_ok,Sem.run_pure]
theorem eqIn_fnn(d:Nat){t:TypeId}{x1 x2 x3}(hu:P.underlying t=some (.func x1 x2 x3))(w:World):(d6 (d+1) t .nilFunc .nilFunc).run P w= .ok true w:=by
 simp only[d6,Sem.run_bind,A9 hu,Result.andThen_ok,Sem.run_pure]
theorem eqIn_fnf(d:Nat){t:TypeId}{x1 x2 x3}(hu:P.underlying t=some (.func x1 x2 x3)){p q r}(w:World):(d6 (d+1) t .nilFunc (.func p q r)).run P w= .ok false w:=by
 simp only[d6,Sem.run_bind,A9 hu,Result.andThen_ok,Sem.run_pure]
theorem eqIn_ffn(d:Nat){t:TypeId}{x1 x2 x3}(hu:P.underlying t=some (.func x1 x2 x3)){p q r}(w:World):(d6 (d+1) t (.func p q r) .nilFunc).run P w= .ok false w:=by
 simp only[d6,Sem.run_bind,A9 hu,Result.andThen_ok,Sem.run_pure]
theorem eqIn_ni(d:Nat){t:TypeId}{x1}(hu:P.underlying t=some (.interface x1)){p q}(w:World):(d6 (d+1) t .nilIface (.iface p q)).run P w= .ok false w:=by
 simp only[d6,Sem.run_bind,A9 hu,Result.andThen_ok,Sem.run_pure]
theorem eqIn_in(d:Nat){t:TypeId}{x1}(hu:P.underlying t=some (.interface x1)){p q}(w:World):(d6 (d+1) t (.iface p q) .nilIface).run P w= .ok false w:=by
 simp only[d6,Sem.run_bind,A9 hu,Result.andThen_ok,Sem.run_pure]
theorem eqIn_sl(d:Nat){t e:TypeId}(hu:P.underlying t=some (.slice e)){o1 o2:Option Addr}{l c l' c':Nat}{b:Bool}(h:(o1=none∧b=o2.isNone)∨(o2=none∧o1.isSome=true∧b=false))(w:World):
  (d6 (d+1) t (.slice o1 l c) (.slice o2 l' c')).run P w= .ok b w:=by
 rcases h with ⟨rfl,rfl⟩|⟨rfl,h1,rfl⟩
 ·simp only[d6,Sem.run_bind,A9 hu,Result.andThen_ok,Sem.run_pure]
 ·cases o1 with
  |none=>cases h1
  |some a=>simp only[d6,Sem.run_bind,A9 hu,Result.andThen_ok,Sem.run_pure]
theorem eqK_sound{ek:EK}{t:TypeId}{x y:AV}{v u:Value}{b:Bool}(hk:okEK P ek t=true)(h:jL ek x y=some b)(rx:Gk C x v)(ry:Gk C y u)(p q:Operand)(w:World):
  (∀op,(eqGuard op t p q v u).run P w= .ok () w)∧ ∀op,(op= .eql→(er op t v u).run P w= .ok (.bool b) w)∧(op= .neq→(er op t v u).run P w= .ok (.bool (!b)) w):=by
 unfold okEK at hk
 split at hk
 ·rename_i hu;simp only[jL]at h;rcases cA h rx ry with ⟨p,q,_,rfl,rfl,rfl⟩|⟨k,p,q,e,_⟩|⟨p,q,e,_⟩
  ·exact⟨fun op=>by cases op<;>rfl,fun op=>Gq (run_equalIn_bool' w 9999 t p q hu) (.inl ⟨_,_,rfl,rfl⟩)⟩
  ·cases e
  ·cases e
 ·rename_i l fs hu;simp only[af,t8,ck]at hk;unfold jL at h
  split at h<;>first|contradiction|skip
  rename_i l' cx cy e;cases e;exact oP (by simp only[FJ,hu]) hk.1 hk.2 h rx ry p q w
 ·rename_i l n e hu;simp only[af,t8,ck]at hk;unfold jL at h
  split at h<;>first|contradiction|skip
  rename_i l' cx cy e;cases e;exact oP (by simp only[FJ,hu]) hk.1 hk.2 h rx ry p q w
 ·rename_i e hu;have fin: ∀(o1 o2:Option Addr),v= .pointer o1→u= .pointer o2→((o1=none∧b=o2.isNone)∨(o2=none∧o1.isSome=true∧b=false))→
    (∀op,(eqGuard op t p q v u).run P w= .ok () w)∧ ∀op,(op= .eql→(er op t v u).run P w= .ok (.bool b) w)∧(op= .neq→(er op t v u).run P w= .ok (.bool (!b)) w):=by
   rintro o1 o2 rfl rfl hh;refine⟨Q7 p q w (fun l e=>by cases e) (.inl fun e=>by cases e),fun op=>Gq ?_ (.inr (.inr (.inl ⟨_,_,rfl,rfl⟩)))⟩;exact eqIn_ptr 9999 hu hh w
  unfold jL at h
  split at h<;>first|contradiction|(simp only[ae]at h;subst h)
  ·exact fin none none rx ry (.inl ⟨rfl,rfl⟩)
  ·exact fin none _ rx ry.2 (.inl ⟨rfl,rfl⟩)
  ·obtain⟨⟨a,e⟩,_⟩:=ry;exact fin none _ rx e (.inl ⟨rfl,rfl⟩)
  ·obtain⟨_,_,_,e,_⟩:=ry;exact fin none _ rx e (.inl ⟨rfl,rfl⟩)
  ·exact fin _ none rx.2 ry (.inr ⟨rfl,rfl,rfl⟩)
  ·obtain⟨⟨a,e⟩,_⟩:=rx;exact fin _ none e ry (.inr ⟨rfl,rfl,rfl⟩)
  ·obtain⟨_,_,_,e,_⟩:=rx;exact fin _ none e ry (.inr ⟨rfl,rfl,rfl⟩)
 ·rename_i k e hu;have fin: ∀(o1 o2:Option Nat),v= .map o1→u= .map o2→((o1=none∧b=o2.isNone)∨(o2=none∧o1.isSome=true∧b=false))→
    (∀op,(eqGuard op t p q v u).run P w= .ok () w)∧ ∀op,(op= .eql→(er op t v u).run P w= .ok (.bool b) w)∧(op= .neq→(er op t v u).run P w= .ok (.bool (!b)) w):=by
   rintro o1 o2 rfl rfl hh;refine⟨Q7 p q w (fun l e=>by cases e) (.inl fun e=>by cases e),fun op=>Gq ?_ (.inr (.inr (.inr (.inl ⟨_,_,rfl,rfl⟩))))⟩;exact eqIn_map 9999 hu hh w
  unfold jL at h
  split at h<;>first|contradiction|(simp only[ae]at h;subst h)
  ·exact fin none none rx ry (.inl ⟨rfl,rfl⟩)
  ·exact fin none _ rx ry.2 (.inl ⟨rfl,rfl⟩)
  ·exact fin _ none rx.2 ry (.inr ⟨rfl,rfl,rfl⟩)
 ·rename_i x1 x2 x3 hu;have fin:(d6 10000 t v u).run P w= .ok b w→(v= .nilFunc∨u= .nilFunc)∧(∀k n,v≠ .int k n∧u≠ .int k n)→(∀l,v≠ .agg l)→v≠ .nilIface→
    (∀op,(eqGuard op t p q v u).run P w= .ok () w)∧ ∀op,(op= .eql→(er op t v u).run P w= .ok (.bool b) w)∧(op= .neq→(er op t v u).run P w= .ok (.bool (!b)) w):=
   fun h1 h2 h3 h4=>⟨Q7 p q w h3 (.inl h4),fun op=>Gq h1 (.inr (.inr (.inr (.inr (.inl h2)))))⟩
  unfold jL at h
  split at h<;>first|contradiction|(simp only[ae]at h;subst h)
  ·obtain rfl:=show v= .nilFunc from rx
   obtain rfl:=show u= .nilFunc from ry
   exact fin (eqIn_fnn 9999 hu w) ⟨.inl rfl,fun _ _=>⟨fun e=>(by cases e),fun e=>(by cases e)⟩⟩ (fun _ e=>by cases e) (fun e=>by cases e)
  ·obtain rfl:=show v= .nilFunc from rx
   obtain⟨_,_,rfl,_⟩:=ry;exact fin (eqIn_fnf 9999 hu w) ⟨.inl rfl,fun _ _=>⟨fun e=>(by cases e),fun e=>(by cases e)⟩⟩ (fun _ e=>by cases e) (fun e=>by cases e)
  ·obtain rfl:=show u= .nilFunc from ry
   obtain⟨_,_,rfl,_⟩:=rx;exact fin (eqIn_ffn 9999 hu w) ⟨.inr rfl,fun _ _=>⟨fun e=>(by cases e),fun e=>(by cases e)⟩⟩ (fun _ e=>by cases e) (fun e=>by cases e)
 ·rename_i x1 hu;have fin:(d6 10000 t v u).run P w= .ok b w→(v= .nilIface∨u= .nilIface)∧(∀k n,v≠ .int k n∧u≠ .int k n)→(∀l,v≠ .agg l)→(v≠ .nilIface∨u≠ .nilIface)→
    (∀op,(eqGuard op t p q v u).run P w= .ok () w)∧ ∀op,(op= .eql→(er op t v u).run P w= .ok (.bool b) w)∧(op= .neq→(er op t v u).run P w= .ok (.bool (!b)) w):=
   fun h1 h2 h3 h4=>⟨Q7 p q w h3 h4,fun op=>Gq h1 (.inr (.inr (.inr (.inr (.inr (.inl h2))))))⟩
  unfold jL at h
  split at h<;>first|contradiction|(simp only[ae]at h;subst h)
  ·obtain rfl:=show v= .nilIface from rx
   obtain⟨_,_,rfl,_⟩:=ry;exact fin (eqIn_ni 9999 hu w) ⟨.inl rfl,fun _ _=>⟨fun e=>(by cases e),fun e=>(by cases e)⟩⟩ (fun _ e=>by cases e) (.inr fun e=>by cases e)
  ·obtain rfl:=show u= .nilIface from ry
   obtain⟨_,_,rfl,_⟩:=rx;exact fin (eqIn_in 9999 hu w) ⟨.inr rfl,fun _ _=>⟨fun e=>(by cases e),fun e=>(by cases e)⟩⟩ (fun _ e=>by cases e) (.inl fun e=>by cases e)
 ·rename_i x1 hu;have fin: ∀(o1 o2:Option Addr) (l c l' c':Nat),v= .slice o1 l c→u= .slice o2 l' c'→((o1=none∧b=o2.isNone)∨(o2=none∧o1.isSome=true∧b=false))→
    (∀op,(eqGuard op t p q v u).run P w= .ok () w)∧ ∀op,(op= .eql→(er op t v u).run P w= .ok (.bool b) w)∧(op= .neq→(er op t v u).run P w= .ok (.bool (!b)) w):=by
   rintro o1 o2 l c l' c' rfl rfl hh;refine⟨Q7 p q w (fun l e=>by cases e) (.inl fun e=>by cases e),fun op=>Gq ?_ (.inr (.inr (.inr (.inr (.inr (.inr ⟨_,_,_,_,_,_,rfl,rfl⟩))))))⟩;exact eqIn_sl 9999 hu hh w
  have some_sl: ∀{sz els y},Gk C (.sl sz els) y→ ∃o l c,y= .slice (some o) l c:=by
   intro sz els y r;rcases r with ⟨_,_,_,_,e,_⟩|⟨_,_,_,e⟩<;>exact⟨_,_,_,e⟩
  have some_or: ∀{id n lo len y},Gk C (.orow id n lo len) y→ ∃o l c,y= .slice (some o) l c:=by
   intro id n lo len y r;obtain⟨⟨_,_,e⟩,_⟩:=r;exact⟨_,_,_,e⟩
  have some_oc: ∀{id n lo len y},Gk C (.ocel id n lo len) y→ ∃o l c,y= .slice (some o) l c:=by
   intro id n lo len y r;obtain⟨_,_,_,e,_⟩:=r;exact⟨_,_,_,e⟩
  unfold jL at h
  split at h<;>first|contradiction|(simp only[ae]at h;subst h)
  ·exact fin none none _ _ _ _ rx ry (.inl ⟨rfl,rfl⟩)
  ·obtain⟨o,l,c,e⟩:=some_sl rx;exact fin _ none _ _ _ _ e ry (.inr ⟨rfl,rfl,rfl⟩)
  ·obtain⟨o,l,c,e⟩:=some_or rx;exact fin _ none _ _ _ _ e ry (.inr ⟨rfl,rfl,rfl⟩)
  ·obtain⟨o,l,c,e⟩:=some_oc rx;exact fin _ none _ _ _ _ e ry (.inr ⟨rfl,rfl,rfl⟩)
  ·obtain⟨o,l,c,e⟩:=some_sl ry;exact fin none _ _ _ _ _ rx e (.inl ⟨rfl,rfl⟩)
  ·obtain⟨o,l,c,e⟩:=some_or ry;exact fin none _ _ _ _ _ rx e (.inl ⟨rfl,rfl⟩)
  ·obtain⟨o,l,c,e⟩:=some_oc ry;exact fin none _ _ _ _ _ rx e (.inl ⟨rfl,rfl⟩)
 ·cases hk
theorem sim_eq(I:Inv tb C)(F:BB C f a nt){o:Oper}{op:BinOp}{t u:TypeId}{ek:EK}{neg:Bool}{x1 x2:AO}{y1 y2:Operand}(ho:o.op= .binOp op t y1 y2 u)(hop:op=if neg then .neq else .eql)(hk:okEK P ek t=true)
  (h1:Bz x1 y1=true) (h2:Bz x2 y2=true) {b:Bool} (h:jL ek (eval tb f x1) (eval tb f x2)=some b):Yields tb C (.b (if neg then !b else b),none) ((execOp a.eval o).run P C.w):=by
 obtain⟨q1,q2⟩:=eqK_sound hk h (Ba I F h1) (Ba I F h2) y1 y2 C.w;cases neg with
 |true=>
  simp only[uc]at hop;refine AB I (v:= .bool (!b)) ?_ rfl;simp only[execOp,ho,Sem.run_bind,q1 op,Result.andThen_ok,(q2 op).2 hop,Sem.run_pure]
 |false=>
  simp only[ah,ud]at hop;refine AB I (v:= .bool b) ?_ rfl;simp only[execOp,ho,Sem.run_bind,q1 op,Result.andThen_ok,(q2 op).1 hop,Sem.run_pure]
end
end
section
section
variable{cl:Nat→List AV→A6→M2}{P:Program}{tb:CV}{C:CG}{f:Fr}{a:Act}{nt:Nat}
theorem Xe: ∀(l:List Value) (off k:Nat) (cs:Array Value),off+k+l.length≤cs.size→
  ((l.zipIdx k).foldl (fun cs (p:Value×Nat)=>cs.setIfInBounds (off+p.2) p.1) cs).toList=cs.toList.take (off+k)++l++cs.toList.drop (off+k+l.length)
 |[],off,k,cs,_=>by simp
 |v::l,off,k,cs,h=>by
  simp only[ba]at h;rw[kn,nv];rw[Xe l off (k+1) _ (by simp only[Array.size_setIfInBounds];omega)];simp only[oa];have hlt:off+k<cs.toList.length:=by simp only[mf];omega
  rw[←iw,List.take_set,List.drop_set_of_lt (by omega)];have ht:(cs.toList.take (off+k+1)).set (off+k) v=cs.toList.take (off+k)++[v]:=by
   rw[bf hlt,qg _ _ (by simp only[aq];omega)];simp only[aq];rw[show off+k-min (off+k) cs.toList.length=0 by omega]
   rfl
  rw[ht];simp only[ba];rw[show off+k+1+l.length=off+k+(l.length+1) by omega];simp
def Ng(place:Nat→Option (Nat×Nat)):List (Nat×Nat×AO)→List (Nat×Operand)→Bool
 |[],[]=>true
 |(off,n,x)::r,(i,y)::q=>(match place i with
  |some (off',n')=>fx off off'&&fx n n'
  |none=>false)&&kh 0 n&&Bz x y&&Ng place r q
 |_,_=>false
theorem qL{place:Nat→Option (Nat×Nat)}{off n i:Nat}{x:AO}{y:Operand}{r:List (Nat×Nat×AO)}{q:List (Nat×Operand)}(h:Ng place ((off,n,x)::r) ((i,y)::q)=true):
  place i=some (off,n)∧0<n∧Bz x y=true∧Ng place r q=true:=by
 simp only[Ng,af]at h;obtain⟨⟨⟨h1,h2⟩,h3⟩,h4⟩:=h;refine⟨?_,by simpa using h2,h3,h4⟩
 split at h1
 ·rename_i o' n' hp;simp only[af,lu]at h1;rw[hp,h1.1,h1.2]
 ·cases h1
theorem nW{place:Nat→Option (Nat×Nat)}{cells:Array Value}{i off n:Nat}{v:Value}{rest:List (Nat×Value)}(hp:place i=some (off,n))(hn:v.cells.size=n)(hle:off+n≤cells.size):
  ∃cells':Array Value,ni place cells ((i,v)::rest)=ni place cells' rest∧cells'.toList=cells.toList.take off++v.cells.toList++cells.toList.drop (off+v.cells.toList.length):=by
 refine⟨v.cells.zipIdx.foldl (fun cs (c,j)=>cs.setIfInBounds (off+j) c) cells,?_,?_⟩
 ·simp only[ni,hp];rw[t7];simp;omega
 ·rw[←Array.foldl_toList,Array.toList_zipIdx];have:=Xe v.cells.toList off 0 cells (by simp;omega);simpa using this
theorem vT(I:Inv tb C)(F:BB C f a nt){place:Nat→Option (Nat×Nat)}: ∀(ps:List (Nat×Nat×AO)) (ys:List (Nat×Operand)),Ng place ps ys=true→ ∀{cs cs':List AV} {cells:Array Value},Br C cs cells.toList→cs.all scal=true→
  Po cs (eval tb f) ps=some cs'→ ∃cells',ni place cells (ys.map fun(i,y)=>(i,a.eval y))=some cells'∧Br C cs' cells'.toList∧cs'.all scal=true
 |[],[],_,cs,cs',cells,hr,hs,h=>by
  simp only[Po,ae]at h;subst h;exact⟨cells,rfl,hr,hs⟩
 |[],_::_,h,_,_,_,_,_,_=>by simp[Ng]at h
 |(_,_,_)::_,[],h,_,_,_,_,_,_=>by simp[Ng]at h
 |(off,n,x)::ps,(i,y)::ys,hok,cs,cs',cells,hr,hs,h=>by
  obtain⟨h1,h2,h3,h4⟩:=qL hok;simp only[Po]at h
  split at h
  ·rename_i hc;obtain⟨hn,hle⟩:=hc;obtain⟨c1,c2⟩:=QL (Ba I F h3) (by omega);have hsz:(a.eval y).cells.size=n:=by have:=c1.length;rw[hn]at this;simpa using this
   have hcl:cells.size=cs.length:=by have:=hr.length;simpa using this
   obtain⟨cells1,e1,e2⟩:=nW (rest:=ys.map fun(i,y)=>(i,a.eval y)) h1 hsz (by omega:off+n≤cells.size);obtain⟨cells2,e3,e4,e5⟩:=vT I F ps ys h4 (cells:=cells1) (by rw[e2];exact Ra hr c1) (OU hs c2) h;exact⟨cells2,by rw[bh,e1,e3],e4,e5⟩
  ·cases h
def plc?(P:Program)(t:TypeId):Option (Nat→Option (Nat×Nat)):=
 match P.underlying t with
 |some (.array _ e)=>if(P.info? e).isSome then some fun i=>some (i*P.cellsOf e,P.cellsOf e)else none
 |some (.struct fields)=>if fields.toList.all fun f=>(P.info? f.type).isSome then some fun i=>match fields[i]? with
  |some f=>some (f.offset,P.cellsOf f.type)
  |none=>none
  else none
 |_=>none
theorem mS: ∀(fs:List Field),fs.all (fun f=>(P.info? f.type).isSome)=true→fs.mapM (fun f=>(P.info? f.type).map fun i=>(f.offset,i.size))=some (fs.map fun f=>(f.offset,P.cellsOf f.type))
 |[],_=>by simp
 |f::fs,h=>by
  simp only[fy,af]at h;obtain⟨i,hi⟩:=bn.1 h.1;rw[qp,mS fs h.2];simp[hi,ml]
theorem built_of{t:TypeId}{place:Nat→Option (Nat×Nat)}{it:TypeInfo}{z:Value}(h:plc? P t=some place)(hi:P.info? t=some it)(hz:it.zero=some z)(parts:List (Nat×Value)):P.built t parts=ni place z.cells parts:=by
 unfold plc? at h;unfold Program.built
 split at h
 ·rename_i n e hu
  split at h
  ·rename_i hs;obtain⟨ie,he⟩:=bn.1 hs;obtain rfl:=be h;simp only[hi,hu,hz,he,ml];simp
  ·cases h
 ·rename_i fs hu
  split at h
  ·rename_i hs;obtain rfl:=be h;simp only[hi,hu,hz,mS fs.toList hs];congr 1;funext i;simp only[jl,ge,qh];cases fs[i]? <;>rfl
  ·cases h
 ·cases h
theorem sim_bld(I:Inv tb C)(F:BB C f a nt){o:Oper}{t:TypeId}{zero:List AV}{ps:List (Nat×Nat×AO)}{ys:Array (Nat×Operand)}(ho:o.op= .build t ys){place:Nat→Option (Nat×Nat)}{it:TypeInfo}{z:Value}(h:plc? P t=some place)
  (hi:P.info? t=some it) (hz:it.zero=some z) (hzs:P8 zero z.cells.toList=true) (hp:Ng place ps ys.toList=true) {cs:List AV} (hv:Po zero (eval tb f) ps=some cs):Yields tb C (.agg cs,none) ((execOp a.eval o).run P C.w):=by
 obtain⟨r1,r2⟩:=Oa (C:=C) hzs;obtain⟨cells,e1,e2,e3⟩:=vT I F ps ys.toList hp r1 r2 hv;refine AB I (v:= .agg cells) ?_ ⟨cells.toList,by simp,e3,e2⟩;have hb:P.built t (ys.map fun(i,x)=>(i,a.eval x)).toList=some cells:=by
  rw[built_of h hi hz,md];exact e1
 simp only[execOp,ho,Sem.run_bind,run_build C.w t _ cells hb,Result.andThen_ok,Sem.run_pure]
theorem ZH{α:Type}{sz:Nat}(new:List α)(hn:new.length=sz): ∀(l:List (List α)) (i:Nat),(∀y∈l,y.length=sz)→i<l.length→
  (l.set i new).flatten=l.flatten.take (i*sz)++new++l.flatten.drop (i*sz+new.length)
 |[],_,_,h=>by simp at h
 |y::l,0,hy,_=>by
  have hyl:=hy y bg;simp only[jo,bz,kc,dc,lq,dt];rw[me,fi (by omega),show new.length-y.length=0 by omega];simp
 |y::l,i+1,hy,h=>by
  have hyl:=hy y bg;simp only[j4,bz];rw[ZH new hn l i (fun z hz=>hy z (a8 _ hz)) (by simpa using h)];rw[ci,jq,au (l:=y) (by omega),me,fi (l:=y) (by omega),dt];rw[show i*sz+sz-y.length=i*sz by omega,show i*sz+sz+new.length-y.length=i*sz+new.length by omega];simp
def Nh(sz:Nat):List (Nat×AO)→List (Nat×Operand)→Bool
 |[],[]=>true
 |(i,x)::r,(j,y)::q=>i==j&&Bz x y&&Nh sz r q
 |_,_=>false
theorem nX(I:Inv tb C)(F:BB C f a nt){sz:Nat}(hsz:0<sz): ∀(ps:List (Nat×AO)) (ys:List (Nat×Operand)),Nh sz ps ys=true→ ∀{els els':List (List AV)} {vss:List (List Value)} {cells:Array Value},Bl C els vss→
  (∀e∈els,e.length=sz∧e.all scal=true)→cells.toList=vss.flatten→Pp els sz (eval tb f) ps=some els'→
  ∃cells' vss',ni (fun i=>some (i*sz,sz)) cells (ys.map fun(i,y)=>(i,a.eval y))=some cells'∧Bl C els' vss'∧(∀e∈els',e.length=sz∧e.all scal=true)∧cells'.toList=vss'.flatten∧els'.length=els.length
 |[],[],_,els,els',vss,cells,hr,hs,hc,h=>by
  simp only[Pp,ae]at h;subst h;exact⟨cells,vss,rfl,hr,hs,hc,rfl⟩
 |[],_::_,h,_,_,_,_,_,_,_,_=>by simp[Nh]at h
 |(_,_)::_,[],h,_,_,_,_,_,_,_,_=>by simp[Nh]at h
 |(i,x)::ps,(j,y)::ys,hok,els,els',vss,cells,hr,hs,hc,h=>by
  simp only[Nh,af,beq_iff_eq]at hok;obtain⟨⟨rfl,h3⟩,h4⟩:=hok;simp only[Pp]at h
  split at h
  ·rename_i hcc;obtain⟨hn,hi⟩:=hcc;obtain⟨c1,c2⟩:=QL (Ba I F h3) (by omega);have hvl:(a.eval y).cells.toList.length=sz:=by rw[c1.length,hn]
   have hlens:=j8 (fun x hx=>(hs x hx).1) hr;have hcl:cells.size=els.length*sz:=by
    rw[←mf,hc,G0 _ hlens,hr.length]
   have hle:i*sz+sz≤cells.size:=by
    rw[hcl,←ci];exact cn _ hi
   obtain⟨cells1,e1,e2⟩:=nW (place:=fun i=>some (i*sz,sz)) (rest:=ys.map fun(i,y)=>(i,a.eval y)) rfl (by simpa using hvl) hle;obtain⟨cells2,vss2,e3,e4,e5,e6,e7⟩:=nX I F hsz ps ys h4 (cells:=cells1) (Bl.set (i:=i) c1 hr) (fun e he=>by
    rcases oq he with he|he
    ·exact hs e he
    ·subst he;exact⟨hn,c2⟩) (by rw[e2,hc,ZH _ hvl _ _ hlens (by rw[hr.length];exact hi)]) h
   exact⟨cells2,vss2,by rw[bh,e1,e3],e4,e5,e6,by rw[e7];simp⟩
  ·cases h
theorem cO(z:Array Value)(n:Nat):((su (n*z.size)).map (z[· %z.size]!)).toList=(az n z.toList).flatten:=by
 apply List.ext_getElem
 ·simp[rc]
 ·intro i h1 h2;have hi:i<n*z.size:=by simpa using h1
  have hpos:0<z.size:=by
   rcases ez z.size with h|h
   ·rw[h]at hi;simp at hi
   ·exact h
  have hmod:i%z.size<z.size:=td _ hpos;have key: ∀(n i:Nat),i<n*z.size→(az n z.toList).flatten[i]? =z.toList[i%z.size]? :=by
   intro n
   induction n with
   |zero=>intro i h;simp at h
   |succ n ih=>
    intro i h;rw[kj,bz];rcases ef i z.size with hlt|hge
    ·rw[bq (by simpa using hlt),j3 hlt]
    ·rw[bo (by simpa using hge)];simp only[mf];rw[ih (i-z.size) (by rw[ci]at h;omega),←Nat.mod_eq_sub_mod hge]
  have:=key n i hi;rw[ab h2]at this;simp only[md,Array.toList_range,nj,List.getElem_range];rw[getElem!_pos z (i%z.size) hmod];have h3:z.toList[i%z.size]? =some z[i%z.size]:=by simp[hmod]
  rw[h3]at this;exact(be this).symm
theorem bls_run(I:Inv tb C)(F:BB C f a nt){o:Oper}{t e:TypeId}{len:Nat}{zero:List (List AV)}{ps:List (Nat×AO)}{ys:Array (Nat×Operand)}(ho:o.op= .buildSlice t len ys)(hu:P.underlying t=some (.slice e)){i:TypeInfo}{z:Value}
  (hi:P.info? e=some i) (hz:i.zero=some z) (hzz:z.cells.size=P.cellsOf e) (hz0:0<P.cellsOf e) (hb:len*P.cellsOf e≤2^24) (hl:zero.length=len) (hzs:zero.all (P8 · z.cells.toList)=true) (hp:Nh (P.cellsOf e) ps ys.toList=true)
  {els:List (List AV)} (hv:Pp zero (P.cellsOf e) (eval tb f) ps=some els): ∃(cells:Array Value) (vss:List (List Value)),Bl C els vss∧(∀x∈els,x.length=P.cellsOf e∧x.all scal=true)∧
   cells.toList=vss.flatten∧els.length*P.cellsOf e≤cells.size∧(execOp a.eval o).run P C.w= .ok (.value (.slice (some ⟨C.w.heap.size,0,none⟩) els.length els.length)) (C.w.alloc (.cells cells e)):=by
 have hinfo:(P.info? e).isSome=true:=by rw[hi];rfl
 have hcells:P.cellsOf e=i.size:=by simp[ml,hi]
 have hz1: ∀l:List (List AV),l.all (P8 · z.cells.toList)=true→Bl C l (az l.length z.cells.toList)∧ ∀e'∈l,e'.length=P.cellsOf e∧e'.all scal=true:=by
  intro l
  induction l with
  |nil=>intro _;exact⟨rfl,fun e he=>by cases he⟩
  |cons x l ih=>
   intro h;simp only[fy,af]at h;obtain⟨r1,r2⟩:=Oa (C:=C) h.1;obtain⟨q1,q2⟩:=ih h.2;refine⟨⟨_,_,by rw[ba,kj],r1,q1⟩,fun e' he=> ?_⟩;rcases bm.1 he with rfl|he
   ·exact⟨by rw[←r1.length];simpa using hzz,r2⟩
   ·exact q2 e' he
 obtain⟨q1,q2⟩:=hz1 zero hzs;have hc:((su (len*P.cellsOf e)).map (fun j=>(if len*P.cellsOf e=0 then(#[]:Array Value)else z.cells)[j%(if len*P.cellsOf e=0 then(#[]:Array Value)else z.cells).size]!)).toList=(az zero.length z.cells.toList).flatten:=by
  by_cases h0:len*P.cellsOf e=0
  ·have hl0:len=0:=by
    rcases Nat.mul_eq_zero.1 h0 with h|h
    ·exact h
    ·omega
   rw[hl,hl0];simp
  ·simp only[t7 h0];rw[hl,←hzz];exact cO z.cells len
 obtain⟨cells,vss,e1,e2,e3,e4,e5⟩:=nX I F hz0 ps ys.toList hp q1 q2 hc hv;have hel:els.length=len:=by rw[e5,hl]
 have hsize:cells.size=els.length*P.cellsOf e:=by
  rw[←mf,e4,G0 _ (j8 (fun x hx=>(e3 x hx).1) e2),e2.length]
 refine⟨cells,vss,e2,e3,e4,by omega,?_⟩
 ·have hnb: ¬(len*P.cellsOf e>2^24):=by omega
  have e1':ni (fun i=>some (i*P.cellsOf e,P.cellsOf e)) ((su (len*P.cellsOf e)).map (fun j=>(if len*P.cellsOf e=0 then(#[]:Array Value)else z.cells)[j%(if len*P.cellsOf e=0 then(#[]:Array Value)else z.cells).size]!))
    (ys.map fun x=>(x.fst,a.eval x.snd)).toList=some cells:=by
   rw[md];exact e1
  by_cases h0:len*P.cellsOf e=0
  ·simp only[t6 h0]at e1';simp only[execOp,ho,Instr.buildSlice,Sem.run_bind,A9 hu,Result.andThen_ok,Cg hinfo,t7 hnb,Sem.run_pure,t6 h0,e1',newRow,run_newObj,hel]
   rfl
  ·simp only[t7 h0]at e1';simp only[execOp,ho,Instr.buildSlice,Sem.run_bind,A9 hu,Result.andThen_ok,Cg hinfo,t7 hnb,Sem.run_pure,t7 h0,zeroValue,HH hi,hz,e1',newRow,run_newObj,hel]
   rfl
theorem sim_bls(I:Inv tb C)(F:BB C f a nt){o:Oper}{t e:TypeId}{len:Nat}{zero:List (List AV)}{ps:List (Nat×AO)}{ys:Array (Nat×Operand)}(ho:o.op= .buildSlice t len ys)(hu:P.underlying t=some (.slice e)){i:TypeInfo}{z:Value}
  (hi:P.info? e=some i) (hz:i.zero=some z) (hzz:z.cells.size=P.cellsOf e) (hz0:0<P.cellsOf e) (hb:len*P.cellsOf e≤2^24) (hl:zero.length=len) (hzs:zero.all (P8 · z.cells.toList)=true) (hp:Nh (P.cellsOf e) ps ys.toList=true)
  {els:List (List AV)} (hv:Pp zero (P.cellsOf e) (eval tb f) ps=some els):Yields tb C (.orow C.H.length els.length 0 els.length,some (C.H++[BU.row (some e) false (P.cellsOf e) els])) ((execOp a.eval o).run P C.w):=by
 obtain⟨cells,vss,e2,e3,e4,e5,e6⟩:=bls_run I F ho hu hi hz hzz hz0 hb hl hzs hp hv;refine Vm (e:=e) (w:=C.w) (arr:=cells) (K:=els.length) I ⟨rfl,rfl,rfl⟩ rfl hz0 e3 e2 (fun j v hj=> ?_) (bc _) e5 e6;rw[←e4]at hj;simpa using hj
theorem sim_bll(I:Inv tb C)(F:BB C f a nt){o:Oper}{t e:TypeId}{len:Nat}{zero:List (List AV)}{ps:List (Nat×AO)}{ys:Array (Nat×Operand)}(ho:o.op= .buildSlice t len ys)(hu:P.underlying t=some (.slice e)){i:TypeInfo}{z:Value}
  (hi:P.info? e=some i) (hz:i.zero=some z) (hzz:z.cells.size=P.cellsOf e) (hz0:0<P.cellsOf e) (hb:len*P.cellsOf e≤2^24) (hl:zero.length=len) (hzs:zero.all (P8 · z.cells.toList)=true) (hp:Nh (P.cellsOf e) ps ys.toList=true)
  {els:List (List AV)} (hv:Pp zero (P.cellsOf e) (eval tb f) ps=some els):Yields tb C (.sl (P.cellsOf e) els,none) ((execOp a.eval o).run P C.w):=by
 obtain⟨cells,vss,e2,e3,e4,e5,e6⟩:=bls_run I F ho hu hi hz hzz hz0 hb hl hzs hp hv;obtain⟨X,ID⟩:=grown (w:=C.w.alloc (.cells cells e)) I ⟨rfl,rfl,rfl⟩ (by rw[H3];omega) fun b hb=>alloc_old _ _ hb;refine⟨_,X,ID,rfl, .inl ⟨_,e6, .inl ⟨C.w.heap.size,0,els.length,vss,rfl,bc _,by rw[H3];omega,?_,fun j v hj=> ?_,e3,sy X e2⟩⟩⟩
 ·rintro(⟨id,hid,e'⟩|hr)
  ·have:=I.lt id hid;simp only at e';omega
  ·exact absurd (I.rs _ hr).1 (Nat.lt_irrefl _)
 ·have hn:(C.w.alloc (.cells cells e)).heap[C.w.heap.size]? =some (.cells cells e):=IR _ _;simp only[gg,hn,dc];rw[←e4]at hj;simpa using hj
theorem sim_s2a(I:Inv tb C)(F:BB C f a nt){o:Oper}{t e:TypeId}{n:Nat}{x:AO}{y:Operand}(ho:o.op= .sliceToArrayPointer t y)(hu:P.underlying t=some (.array n e))(hn:0<n)(hx:Bz x y=true){r:AV×Option A6}
  (h:val (ZR n (P.cellsOf e) (eval tb f x))=some r):Yields tb C r ((execOp a.eval o).run P C.w):=by
 have hr:=Ba I F hx;have run: ∀{p:Option Addr} {len cap:Nat},a.eval y= .slice p len cap→n≤len→(execOp a.eval o).run P C.w= .ok (.value (.pointer p)) C.w:=by
  intro p len cap he hle;simp only[execOp,ho,he,Instr.arrayAt,Sem.run_bind,A9 hu,Result.andThen_ok,t7 (show¬len<n by omega),Sem.run_pure]
 generalize eval tb f x=v at*;cases v<;>simp only[ZR,val,dg,reduceCtorEq]at h
 case ocel sz id off len=>
  split at h
  ·rename_i hc;simp only[ak,ae]at h;subst h;obtain⟨hobj,o',cap,e',hlc,hoff,hsz⟩:=hr;refine AB I (run e' hc.2) ⟨hobj,?_⟩;rw[hoff (by omega)]
  ·simp at h
 case orow id k lo len=>
  split at h
  ·rename_i hc;simp only[ak,ae]at h;subst h;obtain⟨⟨p,c,e'⟩,fz,sz,els,hg,hl,hk⟩:=hr
   by_cases hkn:k=els.length
   ·obtain⟨hle,off,cap,e'',hlc,hoff,_⟩:=hk hkn;refine AB I (run e'' hc.1) ⟨⟨_,rfl⟩,fz,sz,els,hg,hl,fun _=> ?_⟩;rw[hoff (by omega)]
    rfl
   ·exact AB I (run e' hc.1) ⟨⟨_,rfl⟩,fz,sz,els,hg,hl,fun q=>absurd q hkn⟩
  ·simp at h
 case sl sz els=>
  split at h
  ·rename_i hc;simp only[ak,ae]at h;subst h;rcases hr with ⟨b,base,cap,vss,e',hlc,hlt,hown,hh,hs,hrr⟩|⟨rfl,_⟩
   case inr=>have:=hc.2;simp at this;omega
   refine AB I (run e' hc.2) ⟨b,base,(vss.take n).flatten,by simp,hlt,hown,?_,Q9 fun x hx=>(hs x (co hx)).2,qz hrr.take⟩;have hlens:=j8 (fun x hx=>(hs x hx).1) hrr;rw[F5 _ _ hlens];have:=hh.sub 0 (n*sz);simpa using this
  ·simp at h
theorem AbK(I:Inv tb C)(F:BB C f a nt){o:Oper}{c:Call}{mx:Bool}{x1 x2:AO}{y1 y2:Operand}(ho:o.op= .call c)(hc:c.callee= .builtin (if mx then .max else .min))(ha:c.args= #[y1,y2])(h1:Bz x1 y1=true)(h2:Bz x2 y2=true)
  {k:IntKind} {p q:Int} (e1:eval tb f x1= .i k p) (e2:eval tb f x2= .i k q):Yields tb C (.i k (if mx then(if q>p then q else p)else(if q<p then q else p)),none) ((execOp a.eval o).run P C.w):=by
 have r1:=Ba I F h1;have r2:=Ba I F h2;rw[e1]at r1;rw[e2]at r2;have r1':a.eval y1= .int k p:=r1;have r2':a.eval y2= .int k q:=r2;refine AB I (v:= .int k (if mx then(if q>p then q else p)else(if q<p then q else p))) (F9 ho hc fun qs=> ?_) rfl;cases mx
 ·simp only[ha,f7,bh,eo,ah,ud,builtin,Sem.run_bind,Builtin.min_,List.foldlM_cons,List.foldlM_nil,r1',r2',Builtin.min2]
  split<;>simp_all
 ·simp only[ha,f7,bh,eo,uc,builtin,Sem.run_bind,Builtin.max_,List.foldlM_cons,List.foldlM_nil,r1',r2',Builtin.max2]
  split<;>simp_all
end
end
section
section
variable{cl:Nat→List AV→A6→M2}{P:Program}{tb:CV}{C:CG}{f:Fr}{a:Act}{nt:Nat}
def qH:Value→Bool
 | .bool _=>true
 | .int _ _=>true
 | .string _=>true
 |_=>false
theorem Z0{v:Value}(h:qH v=true)(n:Nat):my n v v=true:=by
 cases v<;>simp only[qH,ah]at h<;>cases n<;>simp[my,beq_toListBytes]
theorem wO{c:CK}{x y:AV}{v u:Value}(h:eq1 c x y=some true)(rx:Gk C x v)(ry:Gk C y u):v=u∧qH v=true:=by
 rcases cA h rx ry with ⟨p,q,_,rfl,rfl,e⟩|⟨k,p,q,_,rfl,rfl,e⟩|⟨p,q,_,rfl,rfl,e⟩
 all_goals
  have:=eq_of_beq e.symm;subst this;exact⟨rfl,rfl⟩
theorem wN: ∀{l:List CK} {x y:List AV} {cx cy:List Value},NE l x y=some true→Br C x cx→Br C y cy→cx=cy∧cx.all qH=true
 |[],[],[],_,_,_,rx,ry=>by
  simp only[Br]at rx ry;subst rx;subst ry;exact⟨rfl,rfl⟩
 |[],[],_::_,_,_,h,_,_=>by simp[NE]at h
 |[],_::_,_,_,_,h,_,_=>by simp[NE]at h
 |_::_,[],_,_,_,h,_,_=>by simp[NE]at h
 |_::_,_::_,[],_,_,h,_,_=>by simp[NE]at h
 |c::l,v::x,u::y,_,_,h,⟨p,cx,e1,r1,r2⟩,⟨q,cy,e2,r3,r4⟩=>by
  subst e1;subst e2;simp only[NE]at h;obtain⟨a,ha,h⟩:=ad.1 h;obtain⟨d,hd,h⟩:=aj.1 h;simp only[af]at h;obtain⟨rfl,rfl⟩:=h;obtain⟨rfl,h1⟩:=wO ha r1 r3;obtain⟨rfl,h2⟩:=wN hd r2 r4;exact⟨rfl,by simp[h1,h2]⟩
def Sj(P:Program)(ek:EK)(t:TypeId):Bool:=
 match ek,P.underlying t with
 | .one .b,some .bool=>true
 | .one (.i k),some (.int q)=>decide (k=q)
 | .one .s,some .string=>true
 | .agg l,some (.struct _)=>decide (aR P 50 t=some l)
 | .agg l,some (.array _ _)=>decide (aR P 50 t=some l)
 |_,_=>false
theorem V9{ek:EK}{t:TypeId}(h:Sj P ek t=true):(∃c,ek= .one c∧P.underlying t=some (ckT c))∨
  ∃l d,ek= .agg l∧FJ P t=true∧aR P 50 t=some l∧P.underlying t=some d∧ ∀v u,j2 d v u=none:=by
 unfold Sj at h
 split at h
 ·rename_i hu;exact .inl ⟨.b,rfl,hu⟩
 ·rename_i k q hu;have:k=q:=by simpa using h
  subst this;exact .inl ⟨.i k,rfl,hu⟩
 ·rename_i hu;exact .inl ⟨.s,rfl,hu⟩
 ·rename_i l fs hu;exact .inr ⟨l,_,rfl,by simp only[FJ,hu],by simpa using h,hu,fun v u=>by simp[j2]⟩
 ·rename_i l n e hu;exact .inr ⟨l,_,rfl,by simp only[FJ,hu],by simpa using h,hu,fun v u=>by simp[j2]⟩
 ·cases h
def CheckFor(P:Program)(em:Bool)(dd:Nat)(t:TypeId)(l:List CK):Prop:=
 ∀(cx:List Value) (x:Value) (w:World),cx.length=l.length→jN P t cx x→(ku em dd t x).run P w= .ok () w
theorem Pw(em:Bool)(d:Nat){c:CK}{t:TypeId}(hu:P.underlying t=some (ckT c))(x:Value)(w:World):(ku em (d+1) t x).run P w= .ok () w:=by
 rw[ku];simp only[Sem.run_bind,A9 hu,Result.andThen_ok];cases c<;>cases x<;>simp[ckT]
theorem T6(em:Bool)(k:Nat): ∀(d:Nat) (t:TypeId) (l:List CK),aR P d t=some l→CheckFor P em (k+d) t l
 |0,_,_,h=>by simp[aR]at h
 |d+1,t,l,h=>by
  intro cx x w hl ix;simp only[aR]at h
  split at h
  ·rename_i hu;exact Pw em (k+d) (c:= .b) hu x w
  ·rename_i q hu;exact Pw em (k+d) (c:= .i q) hu x w
  ·rename_i hu;exact Pw em (k+d) (c:= .s) hu x w
  ·rename_i fs hu
   split at h
   ·cases h
   ·have hag:FJ P t=true:=by simp only[FJ,hu]
    simp only[jN,hag,uc]at ix;subst ix;rw[show k+(d+1)=(k+d)+1 from rfl,ku];simp only[Sem.run_bind,A9 hu,Result.andThen_ok];rw[←Array.forIn_toList];have key: ∀(L:List Field) (pos:Nat) (m:List CK),yO P (aR P d) pos L=some m→pos+m.length≤cx.length→
      (forIn L PUnit.unit fun f (_:PUnit)=>(do
       if f.name≠ "_" then ku em (k+d) f.type (←part f.type cx.toArray f.offset)
       pure (ForInStep.yield PUnit.unit):Sem (ForInStep PUnit))).run P w= .ok PUnit.unit w:=by
     intro L
     induction L with
     |nil=>intro _ _ _ _;simp
     |cons f L ih=>
      intro pos m hm hle;simp only[yO]at hm;obtain⟨m1,hm1,hm⟩:=ad.1 hm
      split at hm
      ·rename_i hc;obtain⟨hoff,hname,hcells⟩:=hc;obtain⟨r,hr,rfl⟩:=aj.1 hm;rw[an]at hle;obtain⟨v,hv,iv⟩:=Mm (P:=P) hm1 hcells (cs:=cx) (off:=f.offset) (by omega) w;have hck:=T6 em k d f.type m1 hm1 _ v w (by simp only[aq,bk];omega) iv;simp only[List.forIn_cons,Sem.run_bind,hname,ne_eq,not_false_eq_true,uc,Result.andThen_ok,hv,hck,Sem.run_pure];exact ih _ r hr (by omega)
      ·cases hm
    have:=key fs.toList 0 l h (by omega);simp only[ne_eq,ite_not]at this ⊢;simp at this ⊢;rw[this]
    rfl
  ·rename_i n el hu;obtain⟨m,hm,h⟩:=ad.1 h
   split at h
   ·rename_i hc;obtain rfl:=be h;have hag:FJ P t=true:=by simp only[FJ,hu]
    simp only[jN,hag,uc]at ix;subst ix;obtain⟨i,hi⟩: ∃i,P.info? el=some i:=by
     obtain⟨dd,hd⟩:=bn.1 (Qn hm);exact bn.1 (info_of_underlying hd)
    rw[show k+(d+1)=(k+d)+1 from rfl,ku];simp only[Sem.run_bind,A9 hu,Result.andThen_ok];simp only[Std.Legacy.Range.forIn_eq_forIn_range',Std.Legacy.Range.size,ny,Nat.add_one_sub_one,Nat.div_one];have hlen:(az n m).flatten.length=n*m.length:=by simp[rc]
    rw[hlen]at hl;have each: ∀j∈dp 0 n,j<n:=fun j hj=>by simpa using hj
    generalize dp 0 n=is at each
    induction is with
    |nil=>simp
    |cons j is ih=>
     have hj:=each j (by simp);have hmul:(j+1)*m.length≤n*m.length:=cn _ hj;rw[ci]at hmul;obtain⟨v,hv,iv⟩:=Mm (P:=P) hm hc (cs:=cx) (off:=j*P.cellsOf el) (by rw[←hc];omega) w;have hck:=T6 em k d el m hm _ v w (by simp only[aq,bk];rw[←hc];omega) iv;have hsz:(sizeOf el).run P w= .ok (P.cellsOf el) w:=Cg (by rw[hi];rfl) w;simp only[List.forIn_cons,Sem.run_bind,hsz,Result.andThen_ok,hv,hck,Sem.run_pure];exact ih (fun y hy=>each y (by simp[hy]))
   ·cases h
  ·cases h
theorem NG{ek:EK}{t:TypeId}(hk:Sj P ek t=true){x:AV}{v:Value}(hx:Sm ek x=true)(r:Gk C x v)(em:Bool)(w:World):(ku em 10000 t v).run P w= .ok () w:=by
 rcases V9 hk with ⟨c,rfl,hu⟩|⟨l,d,rfl,ha,hs,hu,_⟩
 ·exact Pw em 9999 hu v w
 ·cases x<;>simp only[Sm,ah]at hx;rename_i cs;obtain⟨vs,rfl,_,rr⟩:=r;exact T6 em 9950 50 t l hs vs _ w (by rw[rr.length];exact cm hx) (by simp only[jN,ha,uc])
theorem key_eq{ek:EK}{t:TypeId}(hk:Sj P ek t=true){x y:AV}{v u:Value}{b:Bool}(h:jL ek x y=some b)(rx:Gk C x v)(ry:Gk C y u):
  ((∃d,P.underlying t=some d∧j2 d v u=some b)∨((∃d,P.underlying t=some d∧ ∀v u,j2 d v u=none)∧ ∀w,(Op.equal t v u).run P w= .ok b w))∧
  (b=true→v=u∧ ∀w,(mq v v).run P w= .ok v w):=by
 rcases V9 hk with ⟨c,rfl,hu⟩|⟨l,d,rfl,ha,hs,hu,hn⟩
 ·simp only[jL]at h;refine⟨.inl ⟨_,hu,?_⟩,fun hb=> ?_⟩
  ·rcases cA h rx ry with ⟨p,q,rfl,rfl,rfl,e⟩|⟨k,p,q,rfl,rfl,rfl,e⟩|⟨p,q,rfl,rfl,rfl,e⟩
   ·simp[ckT,j2,e]
   ·simp[ckT,j2,e]
   ·simp only[ckT,j2,e,beq_toListBytes];rw[KW,KW]
  ·subst hb;obtain⟨rfl,hp⟩:=wO h rx ry;exact⟨rfl,fun w=>by simp[mq,Z0 hp]⟩
 ·unfold jL at h
  split at h<;>first|contradiction|skip
  rename_i l' cx cy e;cases e;obtain⟨vx,rfl,_,r1⟩:=rx;obtain⟨vy,rfl,_,r2⟩:=ry;refine⟨.inr ⟨⟨d,hu,hn⟩,fun w=> ?_⟩,fun hb=> ?_⟩
  ·exact Xs (C:=C) 9950 50 t l hs _ _ vx vy b _ _ w r1 r2 h (by simp only[jN,ha,uc]) (by simp only[jN,ha,uc])
  ·subst hb;obtain⟨rfl,hp⟩:=wN h r1 r2;refine⟨rfl,fun w=> ?_⟩;have hs:my 10000 (.agg vx.toArray) (.agg vx.toArray)=true:=by
    show my (9999+1) _ _=true;simp only[my,beq_self_eq_true,kf,cb];rintro⟨p,q⟩ hp';obtain⟨i,hi,e⟩:=rd hp';rw[List.getElem_zip,ch]at e;obtain⟨rfl,rfl⟩:=e;exact Z0 (cb.1 hp _ (eu _)) 9999
   simp[mq,hs]
def Found(P:Program)(C:CG)(ms:List MapEntry)(i:Nat)(kv:Value):Option (Nat×AV)→Option (Nat×Value)→Prop
 |none,r=>r=none
 |some (n,v),r=> ∃j e,n=i+j∧r=some (n,e.val)∧ms[j]? =some e∧e.key=kv∧Gk C v e.val∧ ∀w,(mq kv kv).run P w= .ok kv w
theorem Found.up{ms:List MapEntry}{m:MapEntry}{i:Nat}{kv:Value}{r:Option (Nat×AV)}{r':Option (Nat×Value)}(h:Found P C ms (i+1) kv r r'):Found P C (m::ms) i kv r r':=by
 cases r with
 |none=>exact h
 |some p=>
  obtain⟨j,e,h1,h2⟩:=h;exact⟨j+1,e,by omega,h2⟩
theorem vQ{ek:EK}{t:TypeId}(hk:Sj P ek t=true){kx:AV}{kv:Value}(rk:Gk C kx kv){d:TypeDesc}(hu:P.underlying t=some d): ∀(es:List (AV×AV)) (ms:List MapEntry) (i:Nat) {r:Option (Nat×AV)},
  Br C (es.map (·.1)) (ms.map (·.key))→Br C (es.map (·.2)) (ms.map (·.val))→find ek kx es i=some r→
  (∃r',kg d kv ms i=some r'∧Found P C ms i kv r r')∨(kg d kv ms i=none∧(∀v u,j2 d v u=none)∧ ∃r',(∀w,(nk t kv ms i).run P w= .ok r' w)∧Found P C ms i kv r r')
 |[],[],i,r,_,_,h=>by
  simp only[find,ae]at h;subst h;exact .inl ⟨none,rfl,rfl⟩
 |[],_::_,_,_,r1,_,_=>by simp[Br]at r1
 |_::_,[],_,_,⟨_,_,e,_⟩,_,_=>by simp at e
 |(x,v)::es,m::ms,i,r,⟨u,us,e1,r1,r2⟩,⟨q,qs,e2,r3,r4⟩,h=>by
  simp only[bh,gr]at e1 e2;obtain⟨rfl,rfl⟩:=e1;obtain⟨rfl,rfl⟩:=e2;simp only[find]at h;obtain⟨b,hb,h⟩:=ad.1 h;obtain⟨q1,q2⟩:=key_eq hk hb rk r1;cases b with
  |true=>
   simp only[uc,ae]at h;subst h;obtain⟨hkv,hst⟩:=q2 rfl;have fd:Found P C (m::ms) i kv (some (i,v)) (some (i,m.val)):=⟨0,m,rfl,rfl,rfl,hkv.symm,r3,hst⟩;rcases q1 with ⟨d',hu',hs⟩|⟨⟨d',hu',hs⟩,hq⟩
   ·rw[hu]at hu';cases hu';exact .inl ⟨_,by simp only[kg,hs],fd⟩
   ·rw[hu]at hu';cases hu';exact .inr ⟨by simp only[kg,hs],hs,_,fun w=>by simp[nk,hq],fd⟩
  |false=>
   simp only[ah,ud]at h;have ih:=vQ hk rk hu es ms (i+1) r2 r4 h;rcases q1 with ⟨d',hu',hs⟩|⟨⟨d',hu',hs⟩,hq⟩
   ·rw[hu]at hu';cases hu';rcases ih with ⟨r',h1,h2⟩|⟨h1,h2,_⟩
    ·exact .inl ⟨r',by simp only[kg,hs,h1],h2.up⟩
    ·rw[h2]at hs;cases hs
   ·rw[hu]at hu';cases hu';refine .inr ⟨by simp only[kg,hs],hs,?_⟩;rcases ih with ⟨r',h1,h2⟩|⟨_,_,r',h1,h2⟩
    ·refine⟨r',fun w=> ?_,h2.up⟩;have:ms=[]∧r'=none:=by
      cases ms with
      |nil=>exact⟨rfl,by simpa [kg]using h1.symm⟩
      |cons m' ms=>simp[kg,hs]at h1
     obtain⟨rfl,rfl⟩:=this;simp[nk,hq]
    ·exact⟨r',fun w=>by simp[nk,hq,h1],h2.up⟩
theorem vR{ek:EK}{t:TypeId}(hk:Sj P ek t=true){kx:AV}{kv:Value}(rk:Gk C kx kv){es:List (AV×AV)}{ms:List MapEntry}{r:Option (Nat×AV)}(r1:Br C (es.map (·.1)) (ms.map (·.key)))(r2:Br C (es.map (·.2)) (ms.map (·.val)))
  (h:find ek kx es 0=some r): ∃r',(∀w,(rh t kv ms).run P w= .ok r' w)∧Found P C ms 0 kv r r':=by
 obtain⟨d,hu⟩: ∃d,P.underlying t=some d:=by
  rcases V9 hk with ⟨c,_,hu⟩|⟨_,d,_,_,_,hu,_⟩
  ·exact⟨_,hu⟩
  ·exact⟨_,hu⟩
 rcases vQ hk rk hu es ms 0 r1 r2 h with ⟨r',h1,h2⟩|⟨h1,_,r',h2,h3⟩
 ·exact⟨r',fun w=>by simp only[rh,Sem.run_bind,A9 hu,Result.andThen_ok,h1,Sem.run_pure],h2⟩
 ·exact⟨r',fun w=>by simp only[rh,Sem.run_bind,A9 hu,Result.andThen_ok,h1,h2],h3⟩
theorem map_rep(I:Inv tb C){x:AV}{v:Value}{es:List (AV×AV)}(r:Gk C x v)(h:N0 C.H x=some es): ∃(ms:List MapEntry),Br C (es.map (·.1)) (ms.map (·.key))∧Br C (es.map (·.2)) (ms.map (·.val))∧
  ((v= .map none∧ms=[])∨ ∃b clock,v= .map (some b)∧C.w.heap[b]? =some (.map ms.toArray clock)):=by
 cases x<;>simp only[N0,reduceCtorEq]at h
 case nilm=>
  obtain rfl:=be h;exact⟨[],rfl,rfl, .inl ⟨r,rfl⟩⟩
 case mp id=>
  have hg:C.H[id]? =some (.map es):=by
   unfold Sk at h
   split at h
   ·rename_i es' hg;rw[hg];rw[be h]
   ·cases h
  obtain⟨ms,clock,h1,h2,h3⟩:=I.obj id _ hg;exact⟨ms,h2,h3, .inr ⟨_,clock,r.2,h1⟩⟩
theorem sim_lkp(I:Inv tb C)(F:BB C f a nt){o:Oper}{t kt e:TypeId}{ek:EK}{zero:AV}{ok:Bool}{m k:AO}{y1 y2:Operand}(ho:o.op= .lookup t y1 y2 ok)(hu:P.underlying t=some (.map kt e)){i:TypeInfo}{z:Value}(hi:P.info? e=some i)(hz:i.zero=some z)
  (hzv:isV zero z=true) (hk:Sj P ek kt=true) (h1:Bz m y1=true) (h2:Bz k y2=true) {es:List (AV×AV)} (he:N0 C.H (eval tb f m)=some es) (hko:Sm ek (eval tb f k)=true) {q:Option (Nat×AV)} (hq:find ek (eval tb f k) es 0=some q):
  Yields tb C ((match(generalizing:=false) q with
    |some (_,v)=>(if ok then .tup [v, .b true]else v,none)
    |none=>(if ok then .tup [zero, .b false]else zero,none)):AV×Option A6) ((execOp a.eval o).run P C.w):=by
 have r1:=Ba I F h1;have r2:=Ba I F h2;obtain⟨ms,g1,g2,g3⟩:=map_rep I r1 he;obtain⟨r',f1,f2⟩:=vR hk r2 g1 g2 hq;have hzz: ∀w,(zeroValue e).run P w= .ok z w:=fun w=>by simp only[zeroValue,Sem.run_bind,HH hi,Result.andThen_ok,hz,Sem.run_pure]
 have run: ∀{v:Value} {b:Bool},((∃n,r'=some (n,v))∧b=true)∨(r'=none∧v=z∧b=false)→(execOp a.eval o).run P C.w= .ok (.value (if ok then .tuple #[v, .bool b]else v)) C.w:=by
  rintro v b (⟨⟨n,rfl⟩,rfl⟩|⟨rfl,rfl,rfl⟩)<;>rcases g3 with ⟨e1,rfl⟩|⟨b',clock,e1,hb⟩
  ·simp only[execOp,ho,e1,pp,Sem.run_bind,A9 hu,Result.andThen_ok,Sem.run_pure,NG hk hko r2,f1]
  ·simp only[execOp,ho,e1,pp,Sem.run_bind,A9 hu,Result.andThen_ok,Sem.run_pure,MapKept.run_getObj_map hb,NG hk hko r2,f1]
  ·simp only[execOp,ho,e1,pp,Sem.run_bind,A9 hu,Result.andThen_ok,Sem.run_pure,NG hk hko r2,f1,hzz]
  ·simp only[execOp,ho,e1,pp,Sem.run_bind,A9 hu,Result.andThen_ok,Sem.run_pure,MapKept.run_getObj_map hb,NG hk hko r2,f1,hzz]
 cases q with
 |none=>
  simp only[Found]at f2;subst f2;have hr:=run (v:=z) (b:=false) (.inr ⟨rfl,rfl,rfl⟩);refine AB I hr ?_;have hzr:Gk C zero z:=isV_rep hzv;cases ok
  ·exact hzr
  ·exact⟨[z, .bool false],rfl,z,[.bool false],rfl,hzr, .bool false,[],rfl,rfl,rfl⟩
 |some p=>
  obtain⟨n,v⟩:=p;obtain⟨j,e0,hn,rfl,hj,hkey,hv,_⟩:=f2;have hr:=run (v:=e0.val) (b:=true) (.inl ⟨⟨_,rfl⟩,rfl⟩);refine AB I hr ?_;cases ok
  ·exact hv
  ·exact⟨[e0.val, .bool true],rfl,e0.val,[.bool true],rfl,hv, .bool true,[],rfl,rfl,rfl⟩
theorem sim_lenm(I:Inv tb C)(F:BB C f a nt){o:Oper}{c:Call}{t kt e:TypeId}{x:AO}{y:Operand}(ho:o.op= .call c)(hc:c.callee= .builtin .len)(ht:c.argTypes[0]? =some t)(ha:c.args= #[y])(hx:Bz x y=true)(hu:P.underlying t=some (.map kt e))
  {es:List (AV×AV)} (he:N0 C.H (eval tb f x)=some es):Yields tb C (.i .i64 (es.length:Nat),none) ((execOp a.eval o).run P C.w):=by
 have r:=Ba I F hx;obtain⟨ms,g1,g2,g3⟩:=map_rep I r he;have hl:ms.length=es.length:=by have:=g1.length;simpa using this
 refine AB I (v:= .int .i64 (es.length:Nat)) (F9 ho hc fun q=> ?_) rfl;rcases g3 with ⟨e1,rfl⟩|⟨b,clock,e1,hb⟩
 ·simp only[ha,f7,bh,eo,builtin,Sem.run_bind,nz,ht,e1,jl,bw,A9 hu,Result.andThen_ok,Sem.run_pure,←hl,goInt]
  rfl
 ·simp only[ha,f7,bh,eo,builtin,Sem.run_bind,nz,ht,e1,jl,bw,A9 hu,Result.andThen_ok,MapKept.run_getObj_map hb,Sem.run_pure,←hl,goInt];simp
theorem sim_mkm(I:Inv tb C){o:Oper}{t:TypeId}(ho:o.op= .makeMap t none):Yields tb C (.mp C.H.length,some (C.H++[BU.map []])) ((execOp a.eval o).run P C.w):=by
 have hlt:C.w.heap.size<(C.w.alloc (.map #[] 0)).heap.size:=by rw[H3];omega
 refine QT (w:=C.w.alloc (.map #[] 0)) (v:= .map (some C.w.heap.size)) I (p:=⟨C.w.heap.size,0,0⟩) ⟨rfl,rfl,rfl⟩ ?_ hlt rfl (fun b hb=>alloc_old _ _ hb) ?_ ?_
 ·simp only[execOp,ho,Instr.makeMap,dg,Sem.run_bind,Sem.run_pure,Result.andThen_ok,run_newObj]
  rfl
 ·exact⟨[],0,IR _ _,rfl,rfl⟩
 ·intro hφ;exact⟨⟨BU.map [],by simp[q5],rfl⟩,by rw[hφ]⟩
theorem eZ{α:Type}(g:α→α): ∀(l:List α) (i:Nat) (x:α),l[i]? =some x→l.modify i g=l.set i (g x)
 |[],_,_,h=>by simp at h
 |y::l,0,x,h=>by simp at h;subst h;simp[List.modify]
 |y::l,i+1,x,h=>by
  have:=eZ g l i x (by simpa using h);simp[this]
theorem cS(I:Inv tb C){id:Nat}{es es':List (AV×AV)}(hg:C.H[id]? =some (.map es)){ms:List MapEntry}{clock clock':Nat}(hb:C.w.heap[(C.φ id).blk]? =some (.map ms.toArray clock)){ms':List MapEntry}
  (h1:Br C (es'.map (·.1)) (ms'.map (·.key))) (h2:Br C (es'.map (·.2)) (ms'.map (·.val))) {x:Result Next} {r:AV}
  (hx:(∃v,x= .ok (.value v) {C.w with heap:=C.w.heap.setIfInBounds (C.φ id).blk (.map ms'.toArray clock')}∧ ∀D,Gk D r v)∨(x= .ok .skip {C.w with heap:=C.w.heap.setIfInBounds (C.φ id).blk (.map ms'.toArray clock')}∧ ∀D,Gk D r undef)):
  Yields tb C (r,some (C.H.set id (BU.map es'))) x:=by
 have hlt:(C.φ id).blk<C.w.heap.size:=by
  by_cases h:(C.φ id).blk<C.w.heap.size
  ·exact h
  ·rw[kz (by omega)]at hb;cases hb
 obtain⟨X,hI⟩:=upd (D:=⟨C.φ,C.H.set id (BU.map es'),{C.w with heap:=C.w.heap.setIfInBounds (C.φ id).blk (.map ms'.toArray clock')},C.res⟩) I ⟨rfl,rfl,rfl⟩ hg rfl (fun _ _=>rfl) (by simp)
  (fun b hb hne=>jh (iz hne)) (.inl rfl) (fun _=>⟨rfl,rfl⟩) (fun _ _ _ _ e=>by cases e)
 refine⟨_,X,hI ⟨ms',clock',?_,ri X h1,ri X h2⟩,rfl,?_⟩
 ·exact Array.getElem?_setIfInBounds_self_of_lt hlt
 ·rcases hx with ⟨v,e,h⟩|⟨e,h⟩
  ·exact .inl ⟨v,e,h _⟩
  ·exact .inr ⟨e,h _⟩
theorem map_at(I:Inv tb C){id:Nat}{es:List (AV×AV)}(h:Sk C.H id=some es):C.H[id]? =some (.map es)∧ ∃(ms:List MapEntry) (clock:Nat),C.w.heap[(C.φ id).blk]? =some (.map ms.toArray clock)∧Br C (es.map (·.1)) (ms.map (·.key))∧Br C (es.map (·.2)) (ms.map (·.val)):=by
 have hg:C.H[id]? =some (.map es):=by
  unfold Sk at h
  split at h
  ·rename_i es' hg;rw[hg];rw[be h]
  ·cases h
 exact⟨hg,I.obj id _ hg⟩
theorem sim_mup(I:Inv tb C)(F:BB C f a nt){o:Oper}{t kt e:TypeId}{ek:EK}{m k v:AO}{y1 y2 y3:Operand}(ho:o.op= .mapUpdate t y1 y2 y3∨o.op= .insert t y1 y2 y3)(hu:P.underlying t=some (.map kt e))(hk:Sj P ek kt=true)(h1:Bz m y1=true)(h2:Bz k y2=true)(h3:Bz v y3=true)
  {id:Nat} (hm:eval tb f m= .mp id) {es:List (AV×AV)} (he:Sk C.H id=some es) (hko:Sm ek (eval tb f k)=true) {q:Option (Nat×AV)} (hq:find ek (eval tb f k) es 0=some q):
  Yields tb C ((match(generalizing:=false) q with
    |some (i,_)=>(.junk,some (C.H.set id (BU.map (es.set i (eval tb f k,eval tb f v)))))
    |none=>(.junk,some (C.H.set id (BU.map (es++[(eval tb f k,eval tb f v)]))))):AV×Option A6) ((execOp a.eval o).run P C.w):=by
 have r1:=Ba I F h1;have r2:=Ba I F h2;have r3:=Ba I F h3;rw[hm]at r1;have e1:a.eval y1= .map (some (C.φ id).blk):=r1.2;obtain⟨hg,ms,clock,hb,g1,g2⟩:=map_at I he;obtain⟨r',f1,f2⟩:=vR hk r2 g1 g2 hq;have ho':execOp a.eval o=(qc t (a.eval y1) (a.eval y2) (a.eval y3)>>= fun _=>pure .skip):=by
  rcases ho with ho|ho<;>simp only[execOp,ho]
 cases q with
 |none=>
  simp only[Found]at f2;subst f2;refine cS (ms':=ms++[{key:=a.eval y2,val:=a.eval y3,born:=clock}]) (clock':=clock+1) I hg hb ?_ ?_ (.inr ⟨?_,fun D=>trivial⟩)
  ·simp only[df,bh,eo];exact pg g1 ⟨_,[],rfl,r2,rfl⟩
  ·simp only[df,bh,eo];exact pg g2 ⟨_,[],rfl,r3,rfl⟩
  ·rw[ho'];simp only[e1,qc,Sem.run_bind,A9 hu,Result.andThen_ok,MapKept.run_getObj_map hb,NG hk hko r2,f1,MapKept.run_setObj_map _ hb,Sem.run_pure];simp
 |some p=>
  obtain⟨n,v0⟩:=p;obtain⟨j,e0,hn,rfl,hj,hkey,hv,hst⟩:=f2;obtain rfl:n=j:=by omega
  have hmod:=eZ (fun x:MapEntry=>{x with key:=a.eval y2,val:=a.eval y3}) ms n e0 hj;refine cS (ms':=ms.set n {e0 with key:=a.eval y2,val:=a.eval y3}) (clock':=clock) I hg hb ?_ ?_ (.inr ⟨?_,fun D=>trivial⟩)
  ·simp only[List.map_set];exact Br.set r2 g1
  ·simp only[List.map_set];exact Br.set r3 g2
  ·rw[ho'];have hj':ms.toArray[n]? =some e0:=by simpa using hj
   simp only[e1,qc,Sem.run_bind,A9 hu,Result.andThen_ok,MapKept.run_getObj_map hb,NG hk hko r2,f1,hj',ak,io,hkey,hst,MapKept.run_setObj_map _ hb,Sem.run_pure];congr 4;rw[←hmod];simp
end
end
section
section
variable{cl:Nat→List AV→A6→M2}{P:Program}{tb:CV}{C:CG}{f:Fr}{a:Act}{nt:Nat}
theorem Sh{x:List AV}{v:List Value}(h:Br C x v): ∀n,Bl C (az n x) (az n v)
 |0=>rfl
 |n+1=>⟨v,_,rfl,h,Sh h n⟩
theorem sim_mks(I:Inv tb C)(F:BB C f a nt){o:Oper}{t e:TypeId}{x1 x2:AO}{y1 y2:Operand}(ho:o.op= .makeSlice t y1 y2)(hu:P.underlying t=some (.slice e)){i:TypeInfo}{z:Value}(hi:P.info? e=some i)(hz:i.zero=some z)
  {zero:List AV} (hzs:P8 zero z.cells.toList=true) (hsz:i.size=z.cells.size) (hz0:0<i.size) (h1:Bz x1 y1=true) (h2:Bz x2 y2=true) {l c:Int} (e1:Ir (eval tb f x1)=some l) (e2:Ir (eval tb f x2)=some c)
  (hc:0≤l∧l≤c∧c*i.bytes≤Ci) (hc63:c≤9223372036854775807):Yields tb C (.orow C.H.length l.toNat 0 l.toNat,some (C.H++[BU.row (some e) false i.size (az l.toNat zero)])) ((execOp a.eval o).run P C.w):=by
 obtain⟨k1,_,r1⟩:=Jp (Ba I F h1) e1;obtain⟨k2,_,r2⟩:=Jp (Ba I F h2) e2;obtain⟨hr,hs⟩:=Oa (C:=C) hzs;have hlen:zero.length=i.size:=by rw[←hr.length,hsz];simp
 have hrun:=run_make (P:=P) C.w t e i z hu hi hz k1 k2 l c hc.1 hc.2.1 (by have:=hc.2.2;unfold Ci at this;rw[Int.mul_comm];omega) hc63;have hle:l.toNat≤c.toNat:=by have:=hc.2.1;omega
 have hy:=Vm (fz:=false) (sz:=i.size) (els:=az l.toNat zero) (vss:=az l.toNat z.cells.toList) (arr:=madeCells z.cells (c.toNat*i.size)) (e:=e) (w:=C.w) (K:=c.toNat)
  (x:=(execOp a.eval o).run P C.w) I ⟨rfl,rfl,rfl⟩ rfl hz0 (fun x hx=>by rw[List.eq_of_mem_replicate hx];exact⟨hlen,hs⟩) (Sh hr _) (fun j v hj=> ?_) (by simpa using hle) (by rw[size_madeCells];exact bc _) ?_
 ·simpa using hy
 ·have hmade:(madeCells z.cells (c.toNat*i.size)).toList=(az c.toNat z.cells.toList).flatten:=by
   rw[hsz];exact cO z.cells c.toNat
  have hsplit:(az c.toNat z.cells.toList).flatten=(az l.toNat z.cells.toList).flatten++(az (c.toNat-l.toNat) z.cells.toList).flatten:=by
   rw[←gy,List.replicate_append_replicate,show l.toNat+(c.toNat-l.toNat)=c.toNat by omega]
  rw[←qh,hmade,hsplit,bq (Bg hj)];exact hj
 ·simp only[execOp,ho,r1,r2,Sem.run_bind,hrun,Result.andThen_ok,Sem.run_pure,qi]
theorem ZQ: ∀{els:List (List AV)} {vss:List (List Value)} {l:List UInt8},Bl C els vss→F7 els=some l→ ∃ns:List Int,vss.flatten=ns.map (Value.int .u8)∧l=ns.map fun n=>bb n.toNat
 |[],_,_,r,h=>by
  rw[show _=[]from r];simp only[F7,ae]at h;subst h;exact⟨[],rfl,rfl⟩
 |e::els,_,l,⟨v,q,e1,r1,r2⟩,h=>by
  unfold F7 at h
  split at h
  ·rename_i he;cases he
  ·rename_i n r' he;cases he;obtain⟨l',hl,rfl⟩:=aj.1 h;obtain⟨ns,h1,h2⟩:=ZQ r2 hl;obtain⟨u,us,e2,ru,e3⟩:=r1;have e3':us=[]:=e3;have ru':u= .int .u8 n:=ru;subst e3';subst e2;subst ru';exact⟨n::ns,by rw[e1];simp[h1],by simp[h2]⟩
  ·cases h
theorem gF: ∀(ns:List Int) (b:ByteArray),ns.foldl (fun r n=>r.push (bb n.toNat)) b=⟨b.data++(ns.map fun n=>bb n.toNat).toArray⟩
 |[],b=>by apply mh;simp
 |n::ns,b=>by
  rw[nv,gF ns];apply mh;simp[qq]
theorem sim_cvs(I:Inv tb C)(F:BB C f a nt){o:Oper}{s d e:TypeId}{x:AO}{y:Operand}(ho:o.op= .convert s d y)(hs:P.underlying s=some (.slice e))(he:P.underlying e=some (.int .u8))(hd:P.underlying d=some .string)(hx:Bz x y=true)
  {els:List (List AV)} {l:List UInt8} (h:EX C.H 1 (eval tb f x)=some els) (hl:F7 els=some l):Yields tb C (.s l,none) ((execOp a.eval o).run P C.w):=by
 have r:=Ba I F hx;refine AB I (v:= .string ⟨l.toArray⟩) ?_ rfl;rcases rT I (by omega) r h with ⟨rfl,ev⟩|⟨q,cap,vss,ev,hlc,hh,hsz,hr⟩
 ·simp only[F7,ae]at hl;subst hl;simp only[execOp,ho,ev,Sem.run_bind,run_convert_bytes_string C.w s d e _ _ _ hs he hd]
  rfl
 ·obtain⟨ns,h1,h2⟩:=ZQ hr hl;have hlen:ns.length=els.length:=by
   have:=ue jd h1;rw[G0 _ (j8 (fun x hx=>(hsz x hx).1) hr),hr.length]at this;simpa using this.symm
  have hload:(loadCells q els.length).run P C.w= .ok (ns.map (Value.int .u8)).toArray C.w:=by
   by_cases hne:els=[]
   ·subst hne;have:ns=[]:=c0 (by simpa using hlen);subst this
    rfl
   ·obtain⟨b,base,rfl,hh2⟩:=hh hne;have:=In (P:=P) hh2;rw[h1]at this;simpa [hlen]using this
  have:=run_bytesToString (P:=P) C.w q els.length cap ns hload;simp only[execOp,ho,ev,Sem.run_bind,run_convert_bytes_string C.w s d e _ _ _ hs he hd,this,Result.andThen_ok,Sem.run_pure];rw[gF,h2];rw[show ByteArray.empty.data= #[]from rfl];simp
theorem sim_rng(I:Inv tb C)(F:BB C f a nt){o:Oper}{t:TypeId}{x:AO}{y:Operand}(ho:o.op= .range t y)(ht:P.underlying t=some .string)(hx:Bz x y=true){l:List UInt8}(h:eval tb f x= .s l):
  Yields tb C (.ptr C.H.length 0,some (C.H++[BU.iter l 0])) ((execOp a.eval o).run P C.w):=by
 have r:=Ba I F hx;rw[h]at r;have e1:a.eval y= .string ⟨l.toArray⟩:=r;have hlt:C.w.heap.size<(C.w.alloc (.stringIter ⟨l.toArray⟩ 0)).heap.size:=by rw[H3];omega
 refine QT (w:=C.w.alloc (.stringIter ⟨l.toArray⟩ 0)) (v:= .pointer (some ⟨C.w.heap.size,0,none⟩)) I (p:=⟨C.w.heap.size,0,0⟩) ⟨rfl,rfl,rfl⟩ ?_ hlt rfl (fun b hb=>alloc_old _ _ hb) ?_ ?_
 ·simp only[execOp,ho,e1,Instr.range,Sem.run_bind,A9 ht,Result.andThen_ok,Sem.run_pure,run_newObj]
  rfl
 ·exact IR _ _
 ·intro hφ;exact⟨⟨BU.iter l 0,by simp[q5],rfl⟩,by rw[hφ]⟩
theorem sim_nxt(I:Inv tb C)(F:BB C f a nt){o:Oper}{x:AO}{y:Operand}(ho:o.op= .next y true)(hx:Bz x y=true){id:Nat}{l:List UInt8}{pos:Nat}(h:eval tb f x= .ptr id 0)(hi:fO C.H id=some (l,pos)){r:AV×Option A6}
  (hr:(if pos<l.length then some (AV.tup [.b true, .i .i64 pos, .i .i32 (il ⟨l.toArray⟩ pos).1],some (C.H.set id (BU.iter l (pos+(il ⟨l.toArray⟩ pos).2))))else some (AV.tup [.b false],none))=some r):
  Yields tb C r ((execOp a.eval o).run P C.w):=by
 have rv:=Ba I F hx;rw[h]at rv;obtain⟨_,e1⟩:=rv;have hH:C.H[id]? =some (.iter l pos):=by
  simp only[fO]at hi
  split at hi
  ·rename_i l' p' hg;cases hi;exact hg
  ·cases hi
 have hobj:C.w.heap[(C.φ id).blk]? =some (.stringIter ⟨l.toArray⟩ pos):=I.obj id _ hH;have hsize:(⟨l.toArray⟩:ByteArray).size=l.length:=by simp[lw]
 have hget:(getObj (C.φ id).blk).run P C.w= .ok (.stringIter ⟨l.toArray⟩ pos) C.w:=by
  simp[getObj,sb,hobj]
 by_cases hp:pos<l.length
 ·rw[t6 hp]at hr;cases hr;have hlt:=I.lt id (Bg hH);have hset:(setObj (C.φ id).blk (.stringIter ⟨l.toArray⟩ (pos+(il ⟨l.toArray⟩ pos).2))).run P C.w= .ok () {C.w with heap:=C.w.heap.setIfInBounds (C.φ id).blk (.stringIter ⟨l.toArray⟩ (pos+(il ⟨l.toArray⟩ pos).2))}:=by
   simp[setObj,sb,hobj]
  let D:CG:=⟨C.φ,C.H.set id (.iter l (pos+(il ⟨l.toArray⟩ pos).2)),{C.w with heap:=C.w.heap.setIfInBounds (C.φ id).blk (.stringIter ⟨l.toArray⟩ (pos+(il ⟨l.toArray⟩ pos).2))},C.res⟩
  obtain⟨X,hI⟩:=upd (D:=D) I ⟨rfl,rfl,rfl⟩ hH rfl (fun _ _=>rfl) (by simp[D]) (fun b hb hne=>by simp only[D];rw[jh (iz hne)]) (.inl rfl) (fun _=>⟨rfl,rfl⟩) (fun _ fz sz els h=>by cases h);refine⟨D,X,hI (by simp[Obj,D,hlt]),rfl, .inl ⟨.tuple #[.bool true, .int .i64 pos, .int .i32 (il ⟨l.toArray⟩ pos).1],?_,⟨[.bool true, .int .i64 pos, .int .i32 (il ⟨l.toArray⟩ pos).1],rfl,_,_,rfl,rfl,_,_,rfl,rfl,_,_,rfl,rfl,rfl⟩⟩⟩;simp only[execOp,ho,e1,Instr.next,Sem.run_bind,hget,Result.andThen_ok,hsize,t6 hp,hset,Sem.run_pure]
  rfl
 ·rw[t7 hp]at hr;cases hr;refine AB I (v:= .tuple #[.bool false]) ?_ ⟨[.bool false],rfl,_,_,rfl,rfl,rfl⟩;simp only[execOp,ho,e1,Instr.next,Sem.run_bind,hget,Result.andThen_ok,hsize,t7 hp,Sem.run_pure]
end
end
section
section
variable{cl:Nat→List AV→A6→M2}{P:Program}{tb:CV}{C:CG}{f:Fr}{a:Act}{nt:Nat}
theorem sim_cvp(I:Inv tb C)(F:BB C f a nt){o:Oper}{s d t:TypeId}{j:TypeInfo}{x:AO}{y:Operand}(ho:o.op= .convert s d y)(hs:P.underlying s=some (.pointer t))(hd:P.underlying d=some .unsafePointer)(ht:P.info? t=some j)(hj:j.size≠0)
  (hx:Bz x y=true) {r:AV×Option A6} (h:BA tb cl (eval tb f) C.H (.cvp x)=some r):Yields tb C r ((execOp a.eval o).run P C.w):=by
 have r1:=Ba I F hx;simp only[BA]at h
 split at h
 ·rename_i hv;cases h;rw[hv]at r1;have e1:a.eval y= .pointer none:=r1;have hrun:(convert s d (.pointer none)).run P C.w= .ok (.pointer none) C.w:=by
   simp[convert,A9 hs,A9 hd,rl]
  exact AB I (v:= .pointer none) (by simp only[execOp,ho,e1,Sem.run_bind,hrun,Result.andThen_ok,Sem.run_pure]) rfl
 ·rename_i id off hv;obtain⟨cs,hcs,h⟩:=ad.1 h
  split at h
  ·rename_i hlt;cases h;rw[hv]at r1;have r0:=r1;obtain⟨_,e1⟩:=r1;obtain⟨tl,hg,_⟩:=QM hcs;obtain⟨vs,arr,e,fr,⟨h1,_⟩,h2,_⟩:=I.obj id _ hg;have hsh:C.w.shape? (C.φ id).blk=some (e,arr.size):=by simp only[sc,h1]
   have hrun:=Lib.run_to_unsafe (P:=P) C.w ⟨(C.φ id).blk,off,none⟩ hs hd ht hj hsh (by rw[h2];exact hlt);exact AB I (v:= .pointer (some ⟨(C.φ id).blk,off,none⟩)) (by simp only[execOp,ho,e1,Sem.run_bind,hrun,Result.andThen_ok,Sem.run_pure]) (e1▸r0)
  ·cases h
 ·cases h
theorem sim_cvu(I:Inv tb C)(F:BB C f a nt){o:Oper}{s d u t n:Nat}{j:TypeInfo}{x:AO}{y:Operand}(ho:o.op= .convert s d y)(hs:P.underlying s=some .unsafePointer)(hd:P.underlying d=some (.pointer u))(hu:P.info? u=some j)
  (hl:liesAt P P.depth t (n/P.cellsOf t) 0 u 1=true) (hx:Bz x y=true) {r:AV×Option A6} (h:BA tb cl (eval tb f) C.H (.cvu t n x)=some r):Yields tb C r ((execOp a.eval o).run P C.w):=by
 have r1:=Ba I F hx;simp only[BA]at h
 split at h
 ·rename_i hv;cases h;rw[hv]at r1;have e1:a.eval y= .pointer none:=r1;have hrun:(convert s d (.pointer none)).run P C.w= .ok (.pointer none) C.w:=by
   simp[convert,A9 hs,A9 hd,rl]
  exact AB I (v:= .pointer none) (by simp only[execOp,ho,e1,Sem.run_bind,hrun,Result.andThen_ok,Sem.run_pure]) rfl
 ·rename_i id off hv;obtain⟨cs,hcs,h⟩:=ad.1 h
  split at h
  ·rename_i hlt;cases h;obtain⟨rfl,hn,hlab⟩:=hlt;rw[hv]at r1;have r0:=r1;obtain⟨_,e1⟩:=r1;obtain⟨tl,hg,hlab'⟩:=QM hcs;obtain⟨vs,arr,e,fr,⟨h1,hb⟩,h2,_⟩:=I.obj id _ hg;have het:e=t:=hb t (by rw[←hlab',hlab]);subst het;have hsh:C.w.shape? (C.φ id).blk=some (e,arr.size):=by simp only[sc,h1]
   have hrun:=Lib.run_from_unsafe (P:=P) C.w ⟨(C.φ id).blk,0,none⟩ hs hd hu hsh (by rw[h2,hn];exact hl);exact AB I (v:= .pointer (some ⟨(C.φ id).blk,0,none⟩)) (by simp only[execOp,ho,e1,Sem.run_bind,hrun,Result.andThen_ok,Sem.run_pure]) (e1▸r0)
  ·cases h
 ·cases h
theorem sim_capn(I:Inv tb C)(F:BB C f a nt){o:Oper}{c:Call}{t e:TypeId}{x:AO}{y:Operand}(ho:o.op= .call c)(hc:c.callee= .builtin .cap)(ht:c.argTypes[0]? =some t)(ha:c.args= #[y])
  (hx:Bz x y=true) (h:eval tb f x= .nils) (hu:P.underlying t=some (.slice e)):Yields tb C (.i .i64 0,none) ((execOp a.eval o).run P C.w):=by
 have r:=Ba I F hx;rw[h]at r;have r':a.eval y= .slice none 0 0:=r;refine AB I (v:= .int .i64 0) (F9 ho hc fun q=> ?_) rfl;simp only[ha,f7,bh,eo,builtin,Sem.run_bind,Builtin.cap_,ht];simp[r',A9 hu,goInt]
theorem eqIn_nn(d:Nat){t:TypeId}{x1}(hu:P.underlying t=some (.interface x1))(w:World):(d6 (d+1) t .nilIface .nilIface).run P w= .ok true w:=by
 simp only[d6,Sem.run_bind,A9 hu,Result.andThen_ok,Sem.run_pure]
theorem sim_isni(I:Inv tb C)(F:BB C f a nt){o:Oper}{op:BinOp}{t t':TypeId}{ms:Array (String×TypeId)}{neg:Bool}{x:AO}{p:Operand}(ho:o.op= .binOp op t p (.const .nilIface) t')(h0:op=if neg then .neq else .eql)(ht:P.underlying t=some (.interface ms))
  (hx:Bz x p=true) {r:AV×Option A6} (h:BA tb cl (eval tb f) C.H (.isni neg x)=some r):Yields tb C r ((execOp a.eval o).run P C.w):=by
 have r1:=Ba I F hx;simp only[BA]at h;have fin: ∀(v:Value) (b:Bool),a.eval p=v→r=(.b (if neg then !b else b),none)→(d6 10000 t v .nilIface).run P C.w= .ok b C.w→(∀l,v≠ .agg l)→(∀k n,v≠ .int k n)→Yields tb C r ((execOp a.eval o).run P C.w):=by
  rintro v b e rfl hq h3 h4;have hg:(eqGuard op t p (.const .nilIface) v .nilIface).run P C.w= .ok () C.w:=by
   cases v<;>first
    |exact absurd rfl (h3 _)
    |(simp only[eqGuard];split<;>rfl)
    |(simp only[eqGuard];cases p<;>(split<;>rfl))
  have q2: ∀op,(op= .eql→(er op t v .nilIface).run P C.w= .ok (.bool b) C.w)∧(op= .neq→(er op t v .nilIface).run P C.w= .ok (.bool (!b)) C.w):=
   fun op=>Gq hq (.inr (.inr (.inr (.inr (.inr (.inl ⟨.inr rfl,fun k n=>⟨h4 k n,fun e=>(by cases e)⟩⟩))))))
  have ec:a.eval (.const .nilIface)= .nilIface:=rfl;cases neg with
  |true=>
   simp only[uc]at h0;refine AB I (v:= .bool (!b)) ?_ rfl;simp only[execOp,ho,e,ec,Sem.run_bind,hg,Result.andThen_ok,(q2 op).2 h0,Sem.run_pure]
  |false=>
   simp only[ah,ud]at h0;refine AB I (v:= .bool b) ?_ rfl;simp only[execOp,ho,e,ec,Sem.run_bind,hg,Result.andThen_ok,(q2 op).1 h0,Sem.run_pure]
 split at h
 ·rename_i hv;rw[hv]at r1;cases h;refine fin .nilIface true r1 (by cases neg<;>rfl) ?_ (fun l e=>by cases e) (fun k n e=>by cases e);exact eqIn_nn 9999 ht C.w
 ·rename_i hv;rw[hv]at r1;cases h;obtain⟨u,z,e,_⟩:=r1;exact fin (.iface u z) false e (by cases neg<;>rfl) (eqIn_in 9999 ht C.w) (fun l e=>by cases e) (fun k n e=>by cases e)
 ·cases h
theorem sim_eqp(I:Inv tb C)(F:BB C f a nt){o:Oper}{op:BinOp}{t u t':TypeId}{j:TypeInfo}{neg:Bool}{x y:AO}{p q:Operand}(ho:o.op= .binOp op t p q t')(h0:op=if neg then .neq else .eql)(ht:P.underlying t=some (.pointer u))(hu:P.info? u=some j)
  (hx:Bz x p=true) (hy:Bz y q=true) {r:AV×Option A6} (h:BA tb cl (eval tb f) C.H (.eqp neg x y)=some r):Yields tb C r ((execOp a.eval o).run P C.w):=by
 have r1:=Ba I F hx;have r2:=Ba I F hy;simp only[BA]at h
 split at h
 ·rename_i i1 o1 i2 o2 hv1 hv2
  split at h
  ·rename_i hc;obtain⟨rfl,rfl⟩:=hc;cases h;rw[hv1]at r1;rw[hv2]at r2;obtain⟨_,e1⟩:=r1;obtain⟨_,e2⟩:=r2;have hg:(eqGuard op t p q (.pointer (some ⟨(C.φ i1).blk,o1,none⟩)) (.pointer (some ⟨(C.φ i1).blk,o1,none⟩))).run P C.w= .ok () C.w:=Q7 p q C.w (fun l e=>by cases e) (.inl fun e=>by cases e) op;refine AB I (v:= .bool (!neg)) ?_ rfl;cases neg
   ·simp only[ah,ud]at h0;subst h0;have:=run_eql_ptr_same (P:=P) C.w ⟨(C.φ i1).blk,o1,none⟩ ht hu;simp only[execOp,ho,e1,e2,Sem.run_bind,hg,this,Result.andThen_ok,Sem.run_pure]
    rfl
   ·simp only[uc]at h0;subst h0;have:=Lib.run_neq_ptr_same (P:=P) C.w ⟨(C.φ i1).blk,o1,none⟩ ht hu;simp only[execOp,ho,e1,e2,Sem.run_bind,hg,this,Result.andThen_ok,Sem.run_pure]
    rfl
  ·cases h
 ·cases h
theorem sim_usd(I:Inv tb C)(F:BB C f a nt){o:Oper}{c:Call}{x:AO}{y:Operand}(ho:o.op= .call c)(hc:c.callee= .builtin .unsafeSliceData)(ha:c.args= #[y])(hx:Bz x y=true){r:AV×Option A6}(h:BA tb cl (eval tb f) C.H (.usd x)=some r):
  Yields tb C r ((execOp a.eval o).run P C.w):=by
 have r1:=Ba I F hx;have run: ∀{v},(Builtin.unsafeSliceData_ c.argTypes o.type #[a.eval y]).run P C.w= .ok v C.w→(execOp a.eval o).run P C.w= .ok (.value v) C.w:=by
  intro v hv;refine F9 ho hc fun q=> ?_;simp only[ha,f7,bh,eo,builtin,Sem.run_bind,hv,Result.andThen_ok,Sem.run_pure]
 simp only[BA]at h
 split at h
 ·rename_i hv;cases h;rw[hv]at r1;have e1:a.eval y= .slice none 0 0:=r1;exact AB I (v:= .pointer none) (run (by rw[e1];rfl)) rfl
 ·rename_i id n lo len hv;obtain⟨q,hq,h⟩:=ad.1 h
  split at h
  ·rename_i hcond;obtain⟨hn,hle,hpos⟩:=hcond;cases h;rw[hv]at r1;obtain⟨_,fz,sz,els,hg,hl,k⟩:=r1;have hq':q=(fz,sz,els):=by rw[hg]at hq;exact(be hq).symm
   subst hq';obtain⟨_,off,cap,e1,hlc,hoff,hsize,hbo⟩:=k hn;have hrun:=Lib.run_unsafeSliceData_row (P:=P) C.w c.argTypes o.type ⟨(C.φ id).blk,off,none⟩ len cap (by omega);refine AB I (v:= .pointer (some ⟨(C.φ id).blk,off,none⟩)) (run (by rw[e1];exact hrun)) ?_;exact⟨⟨_,rfl⟩,fz,sz,els,hg,hl,fun _=>by rw[hoff hpos,i6]⟩
  ·cases h
 ·cases h
theorem uS{e:TypeId}(hc:P.cellsOf e=1)(count off n:Nat)(hn:off+n≤count):liesAt P P.depth e count off e n=true:=by
 have hd:P.depth=(2*(P.types.size+Made.depth)+1)+1:=rfl;rw[hd];simp only[liesAt,fu];left;rw[hd];simp[Go.rowAt,hc,hn,sameLayout,Nat.mod_one]
theorem UZ(w:World)(b:Nat): ∀(els:List (List AV)) (vss:List (List Value)) (l:List UInt8) (o:Nat) (acc:ByteArray),Bl C els vss→F7 els=some l→E1 w b o vss.flatten→
  (loadBytes ⟨b,o,none⟩ acc els.length).run P w= .ok ⟨acc.data++l.toArray⟩ w
 |[],_,l,o,acc,_,h,_=>by
  simp only[F7,ae]at h;subst h;simp[loadBytes]
 |e::els,vss,l,o,acc,r,h,hh=>by
  obtain⟨v,q,e1,r1,r2⟩:=r;subst e1;unfold F7 at h
  split at h
  ·rename_i he;cases he
  ·rename_i n r' he;cases he;obtain⟨l',hl,rfl⟩:=aj.1 h;obtain⟨u,us,e2,ru,e3⟩:=r1;have e3':us=[]:=e3;have ru':u= .int .u8 n:=ru;subst e3';subst e2;subst ru';have h0:w.cell? ⟨b,o,none⟩=some (.int .u8 n):=by
    have:=hh 0 (.int .u8 n) rfl;simpa using this
   have hh':E1 w b (o+1) q.flatten:=fun j v hj=>by
    have:=hh (j+1) v (by simpa using hj)
    rwa [show o+(j+1)=o+1+j by omega]at this
   have ih:=UZ w b els q l' (o+1) (acc.push n.toNat.toUInt8) r2 hl hh';simp only[ba,loadBytes,Sem.run_bind,run_load,h0,Result.andThen];have e4:(⟨b,o,none⟩:Addr).add 1=⟨b,o+1,none⟩:=rfl;rw[e4,ih];congr 1;apply mh;simp[qq]
  ·cases h
theorem sim_ust(I:Inv tb C)(F:BB C f a nt){o:Oper}{c:Call}{pt it t:TypeId}{x n:AO}{y1 y2:Operand}(ho:o.op= .call c)(hc:c.callee= .builtin .unsafeString)(ha:c.args= #[y1,y2])(hty:c.argTypes= #[pt,it])(hp:P.underlying pt=some (.pointer t))(ht:P.cellsOf t=1)
  (hx:Bz x y1=true) (hn:Bz n y2=true) {r:AV×Option A6} (h:BA tb cl (eval tb f) C.H (.ust t x n)=some r):Yields tb C r ((execOp a.eval o).run P C.w):=by
 have r1:=Ba I F hx;simp only[BA]at h;obtain⟨k,hk,h⟩:=ad.1 h;obtain⟨k1,_,e2⟩:=Jp (Ba I F hn) hk;have run: ∀{v w},(qj #[pt,it] o.type #[a.eval y1, .int k1 k]).run P C.w= .ok v w→(execOp a.eval o).run P C.w= .ok (.value v) w:=by
  intro v w hv;refine F9 ho hc fun q=> ?_;simp only[ha,hty,f7,bh,eo,builtin,Sem.run_bind,e2,hv,Result.andThen_ok,Sem.run_pure]
 have hmax:tz.max=9223372036854775807:=rfl;have hdef: ∀q:Option Addr,qj #[pt,it] o.type #[.pointer q, .int k1 k]=
   (do
    let n←asInt (.int k1 k)
    if n<0 then runtimePanic (.error "unsafe.String: len out of range")
    if n>tz.max then unsupported (.unsafePointer "String: a length above the largest int")
    match q with
    |none=>
     if n=0 then pure (.string .empty)
     else runtimePanic (.error "unsafe.String: ptr is nil and len is not zero")
    |some a=>
     if n=0 then pure (.string .empty)
     else if←variablesAt a (←elemOf pt) n.toNat then do
      let s←loadBytes a .empty n.toNat
      freeze a n.toNat
      pure (.string s)
     else unsupported (.unsafePointer "String: not so many bytes at ptr")):=fun _=>rfl
 split at h
 ·rename_i hv
  split at h
  ·rename_i hk0;subst hk0;cases h;rw[hv]at r1;have e1:a.eval y1= .pointer none:=r1;refine AB I (v:= .string .empty) (run ?_) rfl;rw[e1,hdef];simp[asInt,asIntOf,hmax]
  ·cases h
 ·rename_i id m i off hv;obtain⟨q,hq,g⟩:=ad.1 h;clear h
  split at g
  ·rename_i hcond;obtain⟨hoff0,hpos,hm,hle,hsz,hlab,hmost⟩:=hcond;subst hoff0;obtain⟨l,hl,rfl⟩:=aj.1 g;rw[hv]at r1;obtain⟨_,fz,sz,els,hg,hl1,kk⟩:=r1;have hq':q=(fz,sz,els):=by rw[hg]at hq;exact(be hq).symm
   subst hq';simp only at hm hle hsz hl;subst hsz;have e1:=kk hm;obtain⟨tl,hg',hlab'⟩:=Ks hg;obtain⟨vss,arr,et,fr,⟨h1,hfr0,hlb⟩,h2,h3,h4,h5,h6,h7,h8,h9⟩:=I.obj id _ hg';have het:et=t:=hlb t (by rw[←hlab',hlab]);subst het;have hlens:=j8 (fun x hx=>(h4 x hx).1) h5;have hkn:((els.drop i).take k.toNat).length=k.toNat:=by simp only[aq,bk];omega
   have hh:E1 C.w (C.φ id).blk ((C.φ id).base+i) ((vss.drop i).take k.toNat).flatten:=by
    have:=h7.sub (i*1) (k.toNat*1);rw[qr]at this;intro j v hj;refine this j v ?_;rw[F5 (sz:=1) _ _ (fun x hx=>hlens x (cz hx)),Gz (sz:=1) _ _ hlens]at hj;simpa using hj
   have hload:=UZ (P:=P) (C:=C) C.w (C.φ id).blk _ _ l ((C.φ id).base+i) .empty (r7 (n:=k.toNat) (Bl.drop (n:=i) h5)) hl hh;rw[hkn]at hload;have hsh:C.w.shape? (C.φ id).blk=some (et,arr.size):=by simp only[sc,h1]
   have hlies:=uS (P:=P) ht (arr.size/P.cellsOf et) ((C.φ id).base+i) k.toNat (by rw[ht,Nat.div_one,h2];omega)
   let w':=C.w.freeze ⟨(C.φ id).blk,(C.φ id).base+i,none⟩ k.toNat
   have hk0:k.toNat≠0:=by omega
   let fr':Nat×Nat:=if fr.1==fr.2 then((C.φ id).base+i,(C.φ id).base+i+k.toNat)else(min fr.1 ((C.φ id).base+i),max fr.2 ((C.φ id).base+i+k.toNat))
   have hnew:w'.heap[(C.φ id).blk]? =some (.cells arr et fr'):=by
    show(C.w.freeze ⟨(C.φ id).blk,(C.φ id).base+i,none⟩ k.toNat).heap[(C.φ id).blk]? =_;unfold pw;rw[t7 hk0];simp only[lg,uc,h1,ak]
    rfl
   have hother: ∀b,b≠(C.φ id).blk→w'.heap[b]? =C.w.heap[b]? :=fun b hb=>by
    show(C.w.freeze ⟨(C.φ id).blk,(C.φ id).base+i,none⟩ k.toNat).heap[b]? =_;unfold pw;rw[t7 hk0];simp only[lg,t7 (iz hb)]
   have hsz':w'.heap.size=C.w.heap.size:=by
    show(C.w.freeze ⟨(C.φ id).blk,(C.φ id).base+i,none⟩ k.toNat).heap.size=_;unfold pw;rw[t7 hk0];simp
   have hfr1:fr'.1≤fr'.2:=by
    show(if fr.1==fr.2 then((C.φ id).base+i,(C.φ id).base+i+k.toNat)else(min fr.1 ((C.φ id).base+i),max fr.2 ((C.φ id).base+i+k.toNat))).1≤(if fr.1==fr.2 then((C.φ id).base+i,(C.φ id).base+i+k.toNat)else(min fr.1 ((C.φ id).base+i),max fr.2 ((C.φ id).base+i+k.toNat))).2
    split
    ·simp
    ·simp only;omega
   have hrest:Rest C.w w':=by
    show Rest C.w (C.w.freeze ⟨(C.φ id).blk,(C.φ id).base+i,none⟩ k.toNat);unfold pw;rw[t7 hk0];exact⟨rfl,rfl,rfl⟩
   obtain⟨X,hI⟩:=upd (D:=⟨C.φ,C.H.set id (BU.row tl true 1 els),w',C.res⟩) I hrest hg' (o':=BU.row tl true 1 els) rfl (fun _ _=>rfl) (by show C.w.heap.size≤w'.heap.size;omega) (fun b _ hne=>hother b hne) (.inl rfl) (fun e=>by cases e)
    (fun _ fz' sz' els' e=>by cases e;exact⟨_,_,_,rfl,bc _,fun _=>rfl⟩)
   have hcell: ∀q,w'.cell? ⟨(C.φ id).blk,q,none⟩=C.w.cell? ⟨(C.φ id).blk,q,none⟩:=fun q=>by simp only[gg,hnew,h1]
   refine⟨_,X,hI ⟨vss,arr,et,fr',⟨hnew,hfr1,hlb⟩,h2,h3,h4,sy X h5,h6,fun j v hj=>by rw[hcell];exact h7 j v hj,fun f=>(by cases f),fun f=>(by cases f)⟩,by simp only[io,hlab'], .inl ⟨.string ⟨l.toArray⟩,run ?_,rfl⟩⟩;rw[e1,qr,i6];have h63: ¬k>tz.max:=by rw[hmax];unfold Ci at hmost;omega
   have hneg: ¬k<0:=by omega
   have hk00: ¬k=0:=by omega
   rw[hdef];have h63': ¬(9223372036854775807:Int)<k:=by rw[hmax]at h63;exact h63
   simp[asInt,asIntOf,hmax,h63',hneg,hk00,variablesAt,hsh,elemOf,A9 hp,hlies,hload]
   rfl
  ·cases g
 ·cases h
end
end
section
def After(tb:CV)(C:CG)(r:AV×Option A6)(e:Ending)(w:World):Prop:=
 ∃(v:Value) (D:CG),e= .returned v∧IV C D∧Inv tb D∧D.w=w∧D.H=r.2.getD C.H∧Gk D r.1 v
def Lands(P:Program)(tb:CV)(C:CG)(r:AV×Option A6)(x:Result Next):Prop:=
 Yields tb C r x∨ ∃(g:Nat) (vs:Array Value),x= .ok (.enter g vs) C.w∧Calls P g vs C.w (After tb C r)
def Fh(P:Program)(tb:CV)(cl:Nat→List AV→A6→M2):Prop:=
 ∀(g:Nat) (C:CG) (args:List AV) (vs:List Value) (r:AV×Option A6),Inv tb C→Br C args vs→cl g args C.H=some r→Lands P tb C r ((callFunc g vs.toArray).run P C.w)
def PrimsOk(P:Program)(tb:CV):Prop:= ∀g p,tb.prim g=some p→Fh P tb fun g' args h=>if g'=g then p args h else none
theorem S6{P:Program}{tb:CV}{cl:Nat→List AV→A6→M2}(hp:PrimsOk P tb)(hc:Fh P tb cl):Fh P tb fun g args h=>BD tb cl h g args:=by
 intro g C args vs r I hr h;simp only[BD]at h
 split at h
 ·rename_i p hpg;exact hp g p hpg g C args vs r I hr (by simpa using h)
 ·exact hc g C args vs r I hr h
theorem Zo{P:Program}{tb:CV}{C:CG}{a:Act}{o:Oper}{r:AV×Option A6}(h:Lands P tb C r ((execOp a.eval o).run P C.w)){next:Act→World→Prop}{Q:Exit→Act→World→Prop}
  (k: ∀(v:Value) (D:CG),IV C D→Inv tb D→D.H=r.2.getD C.H→Gk D r.1 v→next (a.put o.dst v) D.w):o.wp P a C.w next Q:=by
 rcases h with h|⟨g,vs,e,hc⟩
 ·exact pA h k
 ·unfold Oper.wp;rw[e];refine hc.mono fun e w' ⟨v,D,he,X,I,hw,hH,hr⟩=> ?_;subst he;subst hw;exact k v D X I hH hr
def El(P:Program)(tb:CV)(ao:GI)(o:Oper):Prop:=
 ∀{cl:Nat→List AV→A6→M2} {C:CG} {f:Fr} {a:Act} {nt:Nat} {r:AV×Option A6},Fh P tb (fun g args h=>BD tb cl h g args)→Inv tb C→BB C f a nt→
  BA tb cl (eval tb f) C.H ao=some r→Lands P tb C r ((execOp a.eval o).run P C.w)
section
variable{P:Program}{tb:CV}{o:Oper}
def isSlice(P:Program)(t e:TypeId):Bool:=match P.underlying t with
 |some (.slice e')=>e==e'
 |_=>false
def Pt(P:Program)(t:TypeId):Option TypeId:=match P.underlying t with
 |some (.slice e)=>some e
 |_=>none
theorem FT{t e:TypeId}(h:Pt P t=some e):P.underlying t=some (.slice e):=by
 unfold Pt at h
 split at h
 ·rename_i e' hu;rw[hu];simp at h;rw[h]
 ·cases h
def Ab2(P:Program)(t:TypeId):Option (Nat×TypeId):=match P.underlying t with
 |some (.array n e)=>some (n,e)
 |_=>none
theorem QN{t e:TypeId}{n:Nat}(h:Ab2 P t=some (n,e)):P.underlying t=some (.array n e):=by
 unfold Ab2 at h
 split at h
 ·rename_i n' e' hu;rw[hu];simp at h;rw[h.1,h.2]
 ·cases h
def bX(P:Program)(t:TypeId):Option (Array Field):=match P.underlying t with
 |some (.struct fs)=>some fs
 |_=>none
theorem Wo{t:TypeId}{fs:Array Field}(h:bX P t=some fs):P.underlying t=some (.struct fs):=by
 unfold bX at h
 split at h
 ·rename_i fs' hu;rw[hu];simp at h;rw[h]
 ·cases h
def Ve(P:Program)(t:TypeId):Bool:=match P.underlying t with
 |some .string=>true
 |_=>false
theorem JR{t:TypeId}(h:Ve P t=true):P.underlying t=some .string:=by
 unfold Ve at h
 split at h
 ·assumption
 ·cases h
def intk?(P:Program)(t:TypeId):Option IntKind:=match P.underlying t with
 |some (.int k)=>some k
 |_=>none
theorem Aa6{t:TypeId}{k:IntKind}(h:intk? P t=some k):P.underlying t=some (.int k):=by
 unfold intk? at h
 split at h
 ·rename_i fs' hu;rw[hu];simp at h;rw[h]
 ·cases h
def isIface(P:Program)(t:TypeId):Bool:=match P.underlying t with
 |some (.interface _)=>true
 |_=>false
def okMv(P:Program)(x:AO)(o:Oper):Bool:=match o.op with
 | .move y=>Bz x y
 | .assign y=>Bz x y
 | .call c=>match c.callee,c.args.toList,(c.argTypes[0]?).bind (Ab2 P),x with
  | .builtin .len,[_],some (n,_), .k (.i .i64 m)=>m==n
  |_,_,_,_=>false
 |_=>false
theorem ok_mv{x:AO}(h:okMv P x o=true):El P tb (.mv x) o:=by
 intro cl C f a nt r hc I F hr;simp only[BA,ae]at hr;subst hr;unfold okMv at h
 split at h
 ·rename_i y ho;exact .inl (sim_mv I F (.inl ho) h)
 ·rename_i y ho;exact .inl (sim_mv I F (.inr ho) h)
 ·rename_i c ho
  split at h
  ·rename_i y n e m hcal hargs hty;have hm:m=(n:Int):=by simpa using h
   subst hm;obtain⟨t,ht,hu⟩:=ad.1 hty;have hargs':c.args= #[y]:=by rw[←kr,hargs]
   refine .inl (AB I (v:= .int .i64 n) (F9 ho hcal fun q=> ?_) rfl);simp[hargs',builtin,nz,ht,A9 (QN hu),goInt]
  ·cases h
 ·cases h
def zI(x y z:AO)(o:Oper):Bool:=match o.op with
 | .pick a b c=>Bz x a&&Bz y b&&Bz z c
 |_=>false
theorem ok_pick{x y z:AO}(h:zI x y z o=true):El P tb (.pick x y z) o:=by
 intro cl C f a nt r hc I F hr;unfold zI at h
 split at h
 ·rename_i a b c ho;simp only[af]at h;simp only[BA]at hr
  split at hr
  ·rename_i t ht;simp only[ae]at hr;subst hr;exact .inl (sim_pick I F ho h.1.1 h.1.2 h.2 ht)
  ·cases hr
 ·cases h
def WN(P:Program)(t0:Nat)(z:List AV)(o:Oper):Bool:=match o.op with
 | .alloc t=>match(P.info? t).bind (·.zero)with
  |some zv=>fx t0 t&&P8 z zv.cells.toList
  |none=>false
 |_=>false
theorem ok_alloc{t0:Nat}{z:List AV}(h:WN P t0 z o=true):El P tb (.alloc t0 z) o:=by
 intro cl C f a nt r hc I F hr;unfold WN at h
 split at h
 ·rename_i t ho
  split at h
  ·rename_i zv hz;obtain⟨i,hi,hz2⟩:=ad.1 hz;simp only[BA,ae]at hr;subst hr;rw[af]at h;obtain rfl:=cm h.1;exact .inl (sim_alloc I ho hi hz2 h.2)
  ·cases h
 ·cases h
def okBox(t0 n:Nat)(x:AO)(o:Oper):Bool:=match o.op with
 | .box t y=>(Bz x y&&decide (0<n))&&fx t0 t
 |_=>false
theorem ok_box{t0 n:Nat}{x:AO}(h:okBox t0 n x o=true):El P tb (.box t0 n x) o:=by
 intro cl C f a nt r hc I F hr;unfold okBox at h
 split at h
 ·rename_i t y ho;rw[af]at h;obtain rfl:=cm h.2
  replace h:=h.1
  simp only[af,t8]at h;simp only[BA]at hr
  split at hr
  ·rename_i hn;simp only[ae]at hr;subst hr;exact .inl (sim_box I F ho h.1 (by omega))
  ·cases hr
 ·cases h
def okLd(P:Program)(ag:Bool)(n:Nat)(x:AO)(o:Oper):Bool:=match o.op with
 | .load t y=>Bz x y&&(P.underlying t).isSome&&ag==FJ P t&&n==P.cellsOf t
 |_=>false
theorem ok_ld{ag:Bool}{n:Nat}{x:AO}(h:okLd P ag n x o=true):El P tb (.ld ag n x) o:=by
 intro cl C f a nt r hc I F hr;unfold okLd at h
 split at h
 ·rename_i t y ho;simp only[af,beq_iff_eq]at h;obtain⟨⟨⟨h1,h2⟩,rfl⟩,rfl⟩:=h;exact .inl (sim_ld I F ho h1 h2 hr)
 ·cases h
def okSt(P:Program)(n:Nat)(x z:AO)(o:Oper):Bool:=match o.op with
 | .store t y u=>Bz x y&&Bz z u&&(P.info? t).isSome&&n==P.cellsOf t&&decide (0<n)
 |_=>false
theorem ok_st{n:Nat}{x z:AO}(h:okSt P n x z o=true):El P tb (.st n x z) o:=by
 intro cl C f a nt r hc I F hr;unfold okSt at h
 split at h
 ·rename_i t y u ho;simp only[af,beq_iff_eq,t8]at h;obtain⟨⟨⟨⟨h1,h2⟩,h3⟩,rfl⟩,h4⟩:=h;simp only[BA]at hr;obtain⟨H',hs,rfl⟩:=aj.1 hr;exact .inl (sim_st I F ho h1 h2 h3 h4 hs)
 ·cases h
def zL(x:AO)(o:Oper):Bool:=match o.op with
 | .nilCheck y=>Bz x y
 |_=>false
theorem ok_nilc{x:AO}(h:zL x o=true):El P tb (.nilc x) o:=by
 intro cl C f a nt r hc I F hr;unfold zL at h
 split at h
 ·rename_i y ho;exact .inl (sim_nilc I F ho h hr)
 ·cases h
def okBin(op:BinOp)(x y:AO)(o:Oper):Bool:=match o.op with
 | .binOp op' _ u v _=>op==op'&&Bz x u&&Bz y v
 |_=>false
theorem ok_bin{op:BinOp}{x y:AO}(h:okBin op x y o=true):El P tb (.bin op x y) o:=by
 intro cl C f a nt r hc I F hr;unfold okBin at h
 split at h
 ·rename_i op' t u v t' ho;simp only[af,beq_iff_eq]at h;obtain⟨⟨rfl,h1⟩,h2⟩:=h;exact .inl (sim_bin I F ho h1 h2 hr)
 ·cases h
def okUn(op:UnOp)(x:AO)(o:Oper):Bool:=match o.op with
 | .unOp op' _ u=>op==op'&&Bz x u
 |_=>false
theorem ok_un{op:UnOp}{x:AO}(h:okUn op x o=true):El P tb (.un op x) o:=by
 intro cl C f a nt r hc I F hr;unfold okUn at h
 split at h
 ·rename_i op' t u ho;simp only[af,beq_iff_eq]at h;obtain⟨rfl,h1⟩:=h;exact .inl (sim_un I F ho h1 hr)
 ·cases h
def okCvi(P:Program)(k:IntKind)(x:AO)(o:Oper):Bool:=match o.op with
 | .convert s d y=>Bz x y&&(P.underlying s).isSome&&intk? P d==some k
 |_=>false
theorem ok_cvi{k:IntKind}{x:AO}(h:okCvi P k x o=true):El P tb (.cvi k x) o:=by
 intro cl C f a nt r hc I F hr;unfold okCvi at h
 split at h
 ·rename_i s d y ho;simp only[af,beq_iff_eq]at h;simp only[BA]at hr
  split at hr
  ·rename_i k' n hn;simp only[ae]at hr;subst hr;exact .inl (sim_cvi I F ho h.1.2 (Aa6 h.2) h.1.1 (by rw[hn];rfl))
  ·cases hr
 ·cases h
def zS(P:Program)(x:AO)(o:Oper):Bool:=match o.op with
 | .convert s d y=>Bz x y&&(P.underlying s).isSome&&Ve P d
 |_=>false
theorem ok_cvc{x:AO}(h:zS P x o=true):El P tb (.cvc x) o:=by
 intro cl C f a nt r hc I F hr;unfold zS at h
 split at h
 ·rename_i s d y ho;simp only[af]at h;simp only[BA]at hr
  split at hr
  ·rename_i k n hn;simp only[ae]at hr;subst hr;exact .inl (sim_cvc I F ho h.1.2 (JR h.2) h.1.1 (by rw[hn];rfl))
  ·cases hr
 ·cases h
def okMkf [DecidableEq Fn](fn:Fn)(x1 x2:List AO)(o:Oper):Bool:=match o.op with
 | .makeFunc fn' y1 y2=>decide (fn=fn')&&Tm x1 y1.toList&&Tm x2 y2.toList
 |_=>false
theorem ok_mkf [DecidableEq Fn]{fn:Fn}{x1 x2:List AO}(h:okMkf fn x1 x2 o=true):El P tb (.mkf fn x1 x2) o:=by
 intro cl C f a nt r hc I F hr;unfold okMkf at h
 split at h
 ·rename_i fn' y1 y2 ho;simp only[af,t8]at h;obtain⟨⟨rfl,h1⟩,h2⟩:=h;simp only[BA,ae]at hr;subst hr;exact .inl (sim_mkf I F ho h1 h2)
 ·cases h
def zM(P:Program)(t:TypeId)(x:AO)(o:Oper):Bool:=match o.op with
 | .makeInterface t' y=>t==t'&&Bz x y&&(P.underlying t).isSome&& !isIface P t
 |_=>false
theorem ok_mkif{t:TypeId}{x:AO}(h:zM P t x o=true):El P tb (.mkif t x) o:=by
 intro cl C f a nt r hc I F hr;unfold zM at h
 split at h
 ·rename_i t' y ho;simp only[af,beq_iff_eq,ck]at h;obtain⟨⟨⟨rfl,h1⟩,h2⟩,h3⟩:=h;simp only[BA,ae]at hr;subst hr;refine .inl (sim_mkif I F ho (fun m hm=> ?_) h2 h1);simp[isIface,hm]at h3
 ·cases h
def okExt(x:AO)(i:Nat)(o:Oper):Bool:=match o.op with
 | .extract y j=>Bz x y&&i==j
 |_=>false
theorem ok_ext{x:AO}{i:Nat}(h:okExt x i o=true):El P tb (.ext x i) o:=by
 intro cl C f a nt r hc I F hr;unfold okExt at h
 split at h
 ·rename_i y j ho;simp only[af,beq_iff_eq]at h;obtain⟨h1,rfl⟩:=h;simp only[BA]at hr
  split at hr
  ·rename_i vs hv;simp only[val]at hr;obtain⟨v,hv',rfl⟩:=aj.1 hr;exact .inl (sim_ext I F ho h1 hv hv')
  ·cases hr
 ·cases h
def iU(o:Oper):Option (Builtin×List Operand×List TypeId):=match o.op with
 | .call c=>match c.callee with
  | .builtin b=>some (b,c.args.toList,c.argTypes.toList)
  |_=>none
 |_=>none
theorem HO{b:Builtin}{l:List Operand}{ts:List TypeId}(h:iU o=some (b,l,ts)): ∃c:Call,o.op= .call c∧c.callee= .builtin b∧c.args=l.toArray∧c.argTypes=ts.toArray:=by
 unfold iU at h
 split at h
 ·rename_i c ho
  split at h
  ·rename_i b' hb;simp only[ae,ch]at h;obtain⟨rfl,rfl,rfl⟩:=h;exact⟨c,ho,hb,by simp,by simp⟩
  ·cases h
 ·cases h
def okLen(P:Program)(x:AO)(o:Oper):Bool:=match iU o with
 |some (.len,[y],[t])=>Bz x y&&(Pt P t).isSome
 |_=>false
theorem ok_len{x:AO}(h:okLen P x o=true):El P tb (.len x) o:=by
 intro cl C f a nt r hc I F hr;unfold okLen at h
 split at h
 ·rename_i y t hb;obtain⟨c,ho,hcal,ha,ht⟩:=HO hb;simp only[af]at h;obtain⟨e,he⟩:=bn.1 h.2;simp only[BA]at hr;obtain⟨n,hn,rfl⟩:=aj.1 hr;exact .inl (sim_len I F ho hcal (by rw[ht];rfl) ha h.1 hn (FT he))
 ·cases h
def zN(P:Program)(x:AO)(o:Oper):Bool:=match iU o with
 |some (.len,[y],[t])=>Bz x y&&Ve P t
 |_=>false
theorem ok_lens{x:AO}(h:zN P x o=true):El P tb (.lens x) o:=by
 intro cl C f a nt r hc I F hr;unfold zN at h
 split at h
 ·rename_i y t hb;obtain⟨c,ho,hcal,ha,ht⟩:=HO hb;simp only[af]at h;simp only[BA]at hr
  split at hr
  ·rename_i l hl;simp only[ae]at hr;subst hr;exact .inl (sim_lens I F ho hcal (by rw[ht];rfl) ha h.1 hl (JR h.2))
  ·cases hr
 ·cases h
def okFa(P:Program)(off:Nat)(x:AO)(o:Oper):Bool:=match o.op with
 | .fieldAddr t y i=>match(bX P t).bind (·[i]?)with
  |some fd=>Bz x y&&off==fd.offset&&(P.info? fd.type).isSome&&decide (0<P.cellsOf fd.type)
  |none=>false
 |_=>false
theorem ok_fa{off:Nat}{x:AO}(h:okFa P off x o=true):El P tb (.fa off x) o:=by
 intro cl C f a nt r hc I F hr;unfold okFa at h
 split at h
 ·rename_i t y i ho
  split at h
  ·rename_i fd hfd;obtain⟨fs,hs,hf⟩:=ad.1 hfd;simp only[af,beq_iff_eq,t8]at h;obtain⟨⟨⟨h1,rfl⟩,h2⟩,h3⟩:=h;exact .inl (sim_fa I F ho (Wo hs) hf h2 (by omega) h1 hr)
  ·cases h
 ·cases h
def okFld(P:Program)(ag:Bool)(off n:Nat)(x:AO)(o:Oper):Bool:=match o.op with
 | .field t y i=>match(bX P t).bind (·[i]?)with
  |some fd=>Bz x y&&off==fd.offset&&(P.underlying fd.type).isSome&&ag==FJ P fd.type&&n==P.cellsOf fd.type
  |none=>false
 |_=>false
theorem ok_fld{ag:Bool}{off n:Nat}{x:AO}(h:okFld P ag off n x o=true):El P tb (.fld ag off n x) o:=by
 intro cl C f a nt r hc I F hr;unfold okFld at h
 split at h
 ·rename_i t y i ho
  split at h
  ·rename_i fd hfd;obtain⟨fs,hs,hf⟩:=ad.1 hfd;simp only[af,beq_iff_eq]at h;obtain⟨⟨⟨⟨h1,rfl⟩,h2⟩,rfl⟩,rfl⟩:=h;simp only[BA]at hr
   split at hr
   ·rename_i cs hv
    split at hr
    ·rename_i hle;simp only[val]at hr;obtain⟨v,hv',rfl⟩:=aj.1 hr;exact .inl (sim_fld I F ho (Wo hs) hf h2 h1 hv hle hv')
    ·cases hr
   ·cases hr
  ·cases h
 ·cases h
def okIas(P:Program)(sz:Nat)(x i:AO)(o:Oper):Bool:=match o.op with
 | .indexAddr t y j=>match Pt P t with
  |some e=>Bz x y&&Bz i j&&(P.info? e).isSome&&sz==P.cellsOf e
  |none=>false
 |_=>false
theorem ok_ias{sz:Nat}{x i:AO}(h:okIas P sz x i o=true):El P tb (.ias sz x i) o:=by
 intro cl C f a nt r hc I F hr;unfold okIas at h
 split at h
 ·rename_i t y j ho
  split at h
  ·rename_i e he;simp only[af,beq_iff_eq]at h;obtain⟨⟨⟨h1,h2⟩,h3⟩,rfl⟩:=h;simp only[BA]at hr;obtain⟨n,hn,hr⟩:=ad.1 hr
   split at hr
   ·rename_i h0;exact .inl (sim_ias I F ho (FT he) h3 h1 h2 hn h0 hr)
   ·cases hr
  ·cases h
 ·cases h
def okIaa(P:Program)(len sz:Nat)(x i:AO)(o:Oper):Bool:=match o.op with
 | .indexAddr t y j=>match Ab2 P t with
  |some (n,e)=>Bz x y&&Bz i j&&(P.info? e).isSome&&len==n&&sz==P.cellsOf e
  |none=>false
 |_=>false
theorem ok_iaa{len sz:Nat}{x i:AO}(h:okIaa P len sz x i o=true):El P tb (.iaa len sz x i) o:=by
 intro cl C f a nt r hc I F hr;unfold okIaa at h
 split at h
 ·rename_i t y j ho
  split at h
  ·rename_i n e he;simp only[af,beq_iff_eq]at h;obtain⟨⟨⟨⟨h1,h2⟩,h3⟩,rfl⟩,rfl⟩:=h;simp only[BA]at hr;obtain⟨m,hm,hr⟩:=ad.1 hr
   split at hr
   ·rename_i h0;exact .inl (sim_iaa I F ho (QN he) h3 h1 h2 hm h0 hr)
   ·cases hr
  ·cases h
 ·cases h
def okIxa(P:Program)(len sz:Nat)(ag:Bool)(x i:AO)(o:Oper):Bool:=match o.op with
 | .index t y j=>match Ab2 P t with
  |some (n,e)=>Bz x y&&Bz i j&&(P.underlying e).isSome&&len==n&&sz==P.cellsOf e&&ag==FJ P e
  |none=>false
 |_=>false
theorem ok_ixa{len sz:Nat}{ag:Bool}{x i:AO}(h:okIxa P len sz ag x i o=true):El P tb (.ixa len sz ag x i) o:=by
 intro cl C f a nt r hc I F hr;unfold okIxa at h
 split at h
 ·rename_i t y j ho
  split at h
  ·rename_i n e he;simp only[af,beq_iff_eq]at h;obtain⟨⟨⟨⟨⟨h1,h2⟩,h3⟩,rfl⟩,rfl⟩,rfl⟩:=h;simp only[BA]at hr;obtain⟨m,hm,hr⟩:=ad.1 hr
   split at hr
   ·rename_i cs hv
    split at hr
    ·rename_i h0;simp only[val]at hr;obtain⟨v,hv',rfl⟩:=aj.1 hr;exact .inl (sim_ixa I F ho (QN he) h3 h1 h2 hm hv ⟨h0.1,h0.2.1⟩ h0.2.2 hv')
    ·cases hr
   ·cases hr
  ·cases h
 ·cases h
def okIxs(P:Program)(x i:AO)(o:Oper):Bool:=match o.op with
 | .index t y j=>Bz x y&&Bz i j&&Ve P t
 |_=>false
theorem ok_ixs{x i:AO}(h:okIxs P x i o=true):El P tb (.ixs x i) o:=by
 intro cl C f a nt r hc I F hr;unfold okIxs at h
 split at h
 ·rename_i t y j ho;simp only[af]at h;obtain⟨⟨h1,h2⟩,h3⟩:=h;simp only[BA]at hr;obtain⟨n,hn,hr⟩:=ad.1 hr
  split at hr
  ·rename_i l hl
   split at hr
   ·rename_i h0;obtain⟨v,hv',rfl⟩:=aj.1 hr;exact .inl (sim_ixs I F ho (JR h3) h1 h2 hn hl h0 hv')
   ·cases hr
  ·cases hr
 ·cases h
def okSls(P:Program)(x:AO)(lo hi:Option AO)(o:Oper):Bool:=match o.op with
 | .slice t y ylo yhi none=>Bz x y&&nC lo ylo&&nC hi yhi&&Ve P t
 |_=>false
theorem ok_sls{x:AO}{lo hi:Option AO}(h:okSls P x lo hi o=true):El P tb (.sls x lo hi) o:=by
 intro cl C f a nt r hc I F hr;unfold okSls at h
 split at h
 ·rename_i t y ylo yhi ho;simp only[af]at h;obtain⟨⟨⟨h1,h2⟩,h3⟩,h4⟩:=h;simp only[BA]at hr
  split at hr
  ·rename_i l hl;obtain⟨⟨p,q⟩,hb,rfl⟩:=aj.1 hr;exact .inl (sim_sls I F ho (JR h4) h1 h2 h3 hl hb)
  ·cases hr
 ·cases h
def okSll(P:Program)(sz:Nat)(x:AO)(lo hi:Option AO)(o:Oper):Bool:=match o.op with
 | .slice t y ylo yhi none=>match Pt P t with
  |some e=>Bz x y&&nC lo ylo&&nC hi yhi&&(P.info? e).isSome&&sz==P.cellsOf e
  |none=>false
 |_=>false
theorem ok_sll{sz:Nat}{x:AO}{lo hi:Option AO}(h:okSll P sz x lo hi o=true):El P tb (.sll sz x lo hi) o:=by
 intro cl C f a nt r hc I F hr;unfold okSll at h
 split at h
 ·rename_i t y ylo yhi ho
  split at h
  ·rename_i e he;simp only[af,beq_iff_eq]at h;obtain⟨⟨⟨⟨h1,h2⟩,h3⟩,h4⟩,rfl⟩:=h;simp only[BA]at hr;obtain⟨len,hl,hr⟩:=ad.1 hr;obtain⟨⟨p,q⟩,hb,hr⟩:=ad.1 hr;exact .inl (sim_sll I F ho (FT he) h4 h1 h2 h3 hl hb hr)
  ·cases h
 ·cases h
def arrp?(P:Program)(t:TypeId):Option (Nat×TypeId):=match P.underlying t with
 |some (.array n e)=>some (n,e)
 |some (.pointer u)=>Ab2 P u
 |_=>none
theorem Ab1{t e:TypeId}{n:Nat}(h:arrp? P t=some (n,e)):P.underlying t=some (.array n e)∨ ∃u,P.underlying t=some (.pointer u)∧P.underlying u=some (.array n e):=by
 unfold arrp? at h
 split at h
 ·rename_i n' e' hu;rw[hu];simp at h;left;rw[h.1,h.2]
 ·rename_i u hu;exact .inr ⟨u,hu,QN h⟩
 ·cases h
def okSla(P:Program)(n sz:Nat)(x:AO)(lo hi:Option AO)(o:Oper):Bool:=match o.op with
 | .slice t y ylo yhi none=>match arrp? P t with
  |some (m,e)=>Bz x y&&nC lo ylo&&nC hi yhi&&(P.info? e).isSome&&n==m&&sz==P.cellsOf e&&decide (0<sz)
  |none=>false
 |_=>false
theorem ok_sla{n sz:Nat}{x:AO}{lo hi:Option AO}(h:okSla P n sz x lo hi o=true):El P tb (.sla n sz x lo hi) o:=by
 intro cl C f a nt r hc I F hr;unfold okSla at h
 split at h
 ·rename_i t y ylo yhi ho
  split at h
  ·rename_i m e he;simp only[af,beq_iff_eq,t8]at h;obtain⟨⟨⟨⟨⟨⟨h1,h2⟩,h3⟩,h4⟩,rfl⟩,rfl⟩,h5⟩:=h;simp only[BA]at hr;obtain⟨⟨p,q⟩,hb,hr⟩:=ad.1 hr;exact .inl (sim_sla I F ho h4 h5 (Ab1 he) h1 h2 h3 hb hr)
  ·cases h
 ·cases h
def okApp(P:Program)(t0 sz bytes:Nat)(s x:AO)(o:Oper):Bool:=match iU o with
 |some (.append,[y1,y2],[t,u])=>Bz s y1&&Bz x y2&&((Pt P u).isSome||Ve P u)&&match Pt P t with
  |some e=>sz==P.cellsOf e&&decide (0<sz)&&match P.info? e with
   |some i=>bytes==i.bytes&&decide (0<bytes)&&match i.zero with
    |some z=>z.cells.size==sz&&fx t0 e
    |none=>false
   |none=>false
  |none=>false
 |_=>false
theorem ok_app{t0 sz bytes:Nat}{s x:AO}(h:okApp P t0 sz bytes s x o=true):El P tb (.app t0 sz bytes s x) o:=by
 intro cl C f a nt r hc I F hr;unfold okApp at h
 split at h
 ·rename_i y1 y2 t u hb;obtain⟨c,ho,hcal,ha,ht⟩:=HO hb;simp only[af,fu]at h;obtain⟨⟨⟨h1,h2⟩,h3⟩,h4⟩:=h
  split at h4
  ·rename_i e he;simp only[af,beq_iff_eq,t8]at h4;obtain⟨⟨rfl,h5⟩,h6⟩:=h4
   split at h6
   ·rename_i i hi;simp only[af,beq_iff_eq,t8]at h6;obtain⟨⟨rfl,h7⟩,h8⟩:=h6
    split at h8
    ·rename_i z hz;rw[af]at h8;obtain rfl:=cm h8.2
     replace h8:=h8.1
     simp only[beq_iff_eq]at h8;simp only[BA]at hr;obtain⟨new,hn,hr⟩:=ad.1 hr;refine .inl (sim_app I F ho hcal (by rw[ha]) (by rw[ht]) (FT he) ?_ hi hz h8 h5 h7 h1 h2 hn hr);rcases h3 with h3|h3
     ·obtain⟨e',he'⟩:=bn.1 h3;exact⟨_,FT he',fun k hk=>(by cases hk)⟩
     ·exact⟨_,JR h3,fun k hk=>(by cases hk)⟩
    ·cases h8
   ·cases h6
  ·cases h4
 ·cases h
def okCpy(P:Program)(sz:Nat)(d x:AO)(o:Oper):Bool:=match iU o with
 |some (.copy,[y1,y2],t::_)=>Bz d y1&&Bz x y2&&match Pt P t with
  |some e=>sz==P.cellsOf e&&decide (0<sz)&&(P.info? e).isSome
  |none=>false
 |_=>false
theorem ok_cpy{sz:Nat}{d x:AO}(h:okCpy P sz d x o=true):El P tb (.cpy sz d x) o:=by
 intro cl C f a nt r hc I F hr;unfold okCpy at h
 split at h
 ·rename_i y1 y2 t ts hb;obtain⟨c,ho,hcal,ha,ht⟩:=HO hb;simp only[af]at h;obtain⟨⟨h1,h2⟩,h4⟩:=h
  split at h4
  ·rename_i e he;simp only[af,beq_iff_eq,t8]at h4;obtain⟨⟨rfl,h5⟩,h6⟩:=h4;simp only[BA]at hr;obtain⟨src,hn,hr⟩:=ad.1 hr;exact .inl (sim_cpy I F ho hcal ha ht (by simp) (FT he) h6 h5 h1 h2 hn hr)
  ·cases h4
 ·cases h
theorem ok_die:El P tb .die o:=by
 intro cl C f a nt r hc I F hr;simp[BA]at hr
def zU(g:Nat)(xs:List AO)(o:Oper):Bool:=match o.op with
 | .call c=>match c.callee with
  | .value (.func g')=>g==g'&&Tm xs c.args.toList
  |_=>false
 |_=>false
theorem ok_call{g:Nat}{xs:List AO}(h:zU g xs o=true):El P tb (.call g xs) o:=by
 intro cl C f a nt r hc I F hr;unfold zU at h
 split at h
 ·rename_i c ho
  split at h
  ·rename_i g' hcal;simp only[af,beq_iff_eq]at h;obtain⟨rfl,h1⟩:=h;simp only[BA]at hr;have:=hc g C _ _ r I (Qp I F h1) hr;have e:(execOp a.eval o).run P C.w=(callFunc g (c.args.toList.map a.eval).toArray).run P C.w:=by
    simp only[execOp,ho,resolve,hcal,Act.eval,Deferred.ofValue,invoke,Sem.run_bind,Sem.run_pure,Result.andThen_ok];congr 2;rw[←kr];simp
   rw[e];exact this
  ·cases h
 ·cases h
def qM(x:AO)(xs:List AO)(o:Oper):Bool:=match o.op with
 | .call c=>match c.callee with
  | .value y=>Bz x y&&Tm xs c.args.toList
  |_=>false
 |_=>false
theorem ok_callv{x:AO}{xs:List AO}(h:qM x xs o=true):El P tb (.callv x xs) o:=by
 intro cl C f a nt r hc I F hr;unfold qM at h
 split at h
 ·rename_i c ho
  split at h
  ·rename_i y hcal;simp only[af]at h;obtain⟨h1,h2⟩:=h;simp only[BA]at hr
   split at hr
   ·rename_i g first captured hv
    have rx:=Ba I F h1;rw[hv]at rx;obtain⟨p,q,e,r1,r2⟩:=rx;have:=hc g C _ _ r I (pg (pg r1 (Qp I F h2)) r2) hr;have e':(execOp a.eval o).run P C.w=(callFunc g (p++c.args.toList.map a.eval++q).toArray).run P C.w:=by
     simp only[execOp,ho,resolve,hcal,e,Deferred.ofValue,invoke,Sem.run_bind,Sem.run_pure,Result.andThen_ok];congr 2;simp
    rw[e'];exact this
   ·cases hr
  ·cases h
 ·cases h
def okEq(P:Program)(neg:Bool)(ek:EK)(x y:AO)(o:Oper):Bool:=match o.op with
 | .binOp op t u v _=>decide (op=if neg then .neq else .eql)&&okEK P ek t&&Bz x u&&Bz y v
 |_=>false
theorem ok_eq{neg:Bool}{ek:EK}{x y:AO}(h:okEq P neg ek x y o=true):El P tb (.eq neg ek x y) o:=by
 intro cl C f a nt r hc I F hr;unfold okEq at h
 split at h
 ·rename_i op t u v t' ho;simp only[af,t8]at h;obtain⟨⟨⟨h0,h1⟩,h2⟩,h3⟩:=h;simp only[BA,val]at hr;obtain⟨b,hb,rfl⟩:=aj.1 hr;obtain⟨e,he,rfl⟩:=aj.1 hb;exact .inl (sim_eq I F ho h0 h1 h2 h3 he)
 ·cases h
def okBld(P:Program)(zero:List AV)(ps:List (Nat×Nat×AO))(o:Oper):Bool:=match o.op with
 | .build t ys=>match plc? P t,(P.info? t).bind (·.zero)with
  |some place,some z=>P8 zero z.cells.toList&&Ng place ps ys.toList
  |_,_=>false
 |_=>false
theorem ok_bld{zero:List AV}{ps:List (Nat×Nat×AO)}(h:okBld P zero ps o=true):El P tb (.bld zero ps) o:=by
 intro cl C f a nt r hc I F hr;unfold okBld at h
 split at h
 ·rename_i t ys ho
  split at h
  ·rename_i place z hp hz;obtain⟨i,hi,hz⟩:=ad.1 hz;simp only[af]at h;simp only[BA,val]at hr;obtain⟨v,hv,rfl⟩:=aj.1 hr;obtain⟨cs,hcs,rfl⟩:=aj.1 hv;exact .inl (sim_bld I F ho hp hi hz h.1 h.2 hcs)
  ·cases h
 ·cases h
def nE(P:Program)(sz:Nat)(zero:List (List AV))(ps:List (Nat×AO))(o:Oper):Bool:=match o.op with
 | .buildSlice t len ys=>match Pt P t with
  |some e=>match(P.info? e).bind (·.zero)with
   |some z=>sz==P.cellsOf e&&decide (z.cells.size=P.cellsOf e)&&decide (0<P.cellsOf e)&&decide (len*P.cellsOf e≤2^24)&&decide (zero.length=len)&&zero.all (P8 · z.cells.toList)&&Nh sz ps ys.toList
   |none=>false
  |none=>false
 |_=>false
def zQ(P:Program)(t0:Nat)(o:Oper):Bool:=match o.op with
 | .buildSlice t _ _=>match Pt P t with
  |some e=>fx t0 e
  |none=>false
 |_=>false
theorem ok_bls{t0 sz:Nat}{zero:List (List AV)}{ps:List (Nat×AO)}(h:(nE P sz zero ps o&&zQ P t0 o)=true):El P tb (.bls t0 sz zero ps) o:=by
 intro cl C f a nt r hc I F hr;rw[af]at h;obtain⟨h,hl⟩:=h;unfold nE at h;unfold zQ at hl
 split at h
 ·rename_i t len ys ho
  split at h
  ·rename_i e he
   split at h
   ·rename_i z hz;obtain⟨i,hi,hz2⟩:=ad.1 hz;simp only[af,beq_iff_eq,t8]at h;obtain⟨⟨⟨⟨⟨⟨rfl,h1⟩,h2⟩,h3⟩,h4⟩,h5⟩,h6⟩:=h;simp only[BA]at hr;obtain⟨els,hv,rfl⟩:=aj.1 hr;simp only[ho,he]at hl;obtain rfl:=cm hl;exact .inl (sim_bls I F ho (FT he) hi hz2 h1 h2 h3 h4 h5 h6 hv)
   ·cases h
  ·cases h
 ·cases h
theorem ok_bll{sz:Nat}{zero:List (List AV)}{ps:List (Nat×AO)}(h:nE P sz zero ps o=true):El P tb (.bll sz zero ps) o:=by
 intro cl C f a nt r hc I F hr;unfold nE at h
 split at h
 ·rename_i t len ys ho
  split at h
  ·rename_i e he
   split at h
   ·rename_i z hz;obtain⟨i,hi,hz⟩:=ad.1 hz;simp only[af,beq_iff_eq,t8]at h;obtain⟨⟨⟨⟨⟨⟨rfl,h1⟩,h2⟩,h3⟩,h4⟩,h5⟩,h6⟩:=h;simp only[BA,val]at hr;obtain⟨u,hu,rfl⟩:=aj.1 hr;obtain⟨els,hv,rfl⟩:=aj.1 hu;exact .inl (sim_bll I F ho (FT he) hi hz h1 h2 h3 h4 h5 h6 hv)
   ·cases h
  ·cases h
 ·cases h
def okS2a(P:Program)(n sz:Nat)(x:AO)(o:Oper):Bool:=match o.op with
 | .sliceToArrayPointer t y=>match Ab2 P t with
  |some (m,e)=>Bz x y&&n==m&&sz==P.cellsOf e&&decide (0<n)
  |none=>false
 |_=>false
theorem ok_s2a{n sz:Nat}{x:AO}(h:okS2a P n sz x o=true):El P tb (.s2a n sz x) o:=by
 intro cl C f a nt r hc I F hr;unfold okS2a at h
 split at h
 ·rename_i t y ho
  split at h
  ·rename_i m e he;simp only[af,beq_iff_eq,t8]at h;obtain⟨⟨⟨h1,rfl⟩,rfl⟩,h2⟩:=h;exact .inl (sim_s2a I F ho (QN he) h2 h1 hr)
  ·cases h
 ·cases h
def okMnx(mx:Bool)(x y:AO)(o:Oper):Bool:=match iU o with
 |some (.max,[u,v],_)=>mx&&Bz x u&&Bz y v
 |some (.min,[u,v],_)=> !mx&&Bz x u&&Bz y v
 |_=>false
theorem ok_mnx{mx:Bool}{x y:AO}(h:okMnx mx x y o=true):El P tb (.mnx mx x y) o:=by
 intro cl C f a nt r hc I F hr;simp only[BA]at hr
 split at hr
 ·rename_i k p k' q e1 e2
  split at hr
  ·rename_i hk;subst hk;simp only[ae]at hr;subst hr;unfold okMnx at h
   split at h
   ·rename_i u v ts hb;obtain⟨c,ho,hcal,ha,ht⟩:=HO hb;simp only[af]at h;obtain⟨⟨rfl,h1⟩,h2⟩:=h;exact .inl (AbK (mx:=true) I F ho hcal (by rw[ha]) h1 h2 e1 e2)
   ·rename_i u v ts hb;obtain⟨c,ho,hcal,ha,ht⟩:=HO hb;simp only[af,ck]at h;obtain⟨⟨rfl,h1⟩,h2⟩:=h;exact .inl (AbK (mx:=false) I F ho hcal (by rw[ha]) h1 h2 e1 e2)
   ·cases h
  ·cases hr
 ·cases hr
def zY(P:Program)(t:TypeId):Option (TypeId×TypeId):=match P.underlying t with
 |some (.map k e)=>some (k,e)
 |_=>none
theorem Y4{t k e:TypeId}(h:zY P t=some (k,e)):P.underlying t=some (.map k e):=by
 unfold zY at h
 split at h
 ·rename_i k' e' hu;rw[hu];simp at h;rw[h.1,h.2]
 ·cases h
def okLkp(P:Program)(ek:EK)(zero:AV)(ok:Bool)(m k:AO)(o:Oper):Bool:=match o.op with
 | .lookup t y1 y2 ok'=>ok==ok'&&Bz m y1&&Bz k y2&&match zY P t with
  |some (kt,e)=>Sj P ek kt&&match(P.info? e).bind (·.zero)with
   |some z=>isV zero z
   |none=>false
  |none=>false
 |_=>false
theorem ok_lkp{ek:EK}{zero:AV}{ok:Bool}{m k:AO}(h:okLkp P ek zero ok m k o=true):El P tb (.lkp ek zero ok m k) o:=by
 intro cl C f a nt r hc I F hr;unfold okLkp at h
 split at h
 ·rename_i t y1 y2 ok' ho;simp only[af,beq_iff_eq]at h;obtain⟨⟨⟨rfl,h1⟩,h2⟩,h3⟩:=h
  split at h3
  ·rename_i kt e hm;simp only[af]at h3;obtain⟨h4,h5⟩:=h3
   split at h5
   ·rename_i z hz;obtain⟨i,hi,hz⟩:=ad.1 hz;simp only[BA]at hr
    split at hr
    ·rename_i hko;obtain⟨es,he,hr⟩:=ad.1 hr;obtain⟨q,hq,rfl⟩:=aj.1 hr;exact .inl (sim_lkp I F ho (Y4 hm) hi hz h5 h4 h1 h2 he hko hq)
    ·cases hr
   ·cases h5
  ·cases h3
 ·cases h
def okMup(P:Program)(ek:EK)(m k v:AO)(o:Oper):Bool:=match o.op with
 | .mapUpdate t y1 y2 y3=>Bz m y1&&Bz k y2&&Bz v y3&&match zY P t with
  |some (kt,_)=>Sj P ek kt
  |none=>false
 | .insert t y1 y2 y3=>Bz m y1&&Bz k y2&&Bz v y3&&match zY P t with
  |some (kt,_)=>Sj P ek kt
  |none=>false
 |_=>false
theorem ok_mup{ek:EK}{m k v:AO}(h:okMup P ek m k v o=true):El P tb (.mup ek m k v) o:=by
 intro cl C f a nt r hc I F hr;have main: ∀{t:TypeId} {y1 y2 y3:Operand},(o.op= .mapUpdate t y1 y2 y3∨o.op= .insert t y1 y2 y3)→(Bz m y1&&Bz k y2&&Bz v y3&&(match zY P t with
  |some (kt,_)=>Sj P ek kt
  |none=>false))=true→Lands P tb C r ((execOp a.eval o).run P C.w):=by
  intro t y1 y2 y3 ho h;simp only[af]at h;obtain⟨⟨⟨h1,h2⟩,h3⟩,h4⟩:=h
  split at h4
  ·rename_i kt e hm;simp only[BA]at hr
   split at hr
   ·rename_i id hid
    split at hr
    ·rename_i hko;obtain⟨es,he,hr⟩:=ad.1 hr;obtain⟨q,hq,rfl⟩:=aj.1 hr;exact .inl (sim_mup I F ho (Y4 hm) h4 h1 h2 h3 hid he hko hq)
    ·cases hr
   ·cases hr
  ·cases h4
 unfold okMup at h
 split at h
 ·rename_i t y1 y2 y3 ho;exact main (.inl ho) h
 ·rename_i t y1 y2 y3 ho;exact main (.inr ho) h
 ·cases h
def okMkm(o:Oper):Bool:=match o.op with
 | .makeMap _ none=>true
 |_=>false
theorem ok_mkm(h:okMkm o=true):El P tb .mkm o:=by
 intro cl C f a nt r hc I F hr;unfold okMkm at h
 split at h
 ·rename_i t ho;simp only[BA,ae]at hr;subst hr;exact .inl (sim_mkm I ho)
 ·cases h
def zT(P:Program)(x:AO)(o:Oper):Bool:=match iU o with
 |some (.cap,[y],[t])=>Bz x y&&(Pt P t).isSome
 |_=>false
theorem ok_capn{x:AO}(h:zT P x o=true):El P tb (.capn x) o:=by
 intro cl C f a nt r hc I F hr;unfold zT at h
 split at h
 ·rename_i y t hb;obtain⟨c,ho,hcal,ha,ht⟩:=HO hb;simp only[af]at h;obtain⟨e,he⟩:=bn.1 h.2;simp only[BA]at hr
  split at hr
  ·rename_i hn;cases hr;exact .inl (sim_capn I F ho hcal (by rw[ht];rfl) ha h.1 hn (FT he))
  ·cases hr
 ·cases h
def zO(P:Program)(x:AO)(o:Oper):Bool:=match iU o with
 |some (.len,[y],[t])=>Bz x y&&(zY P t).isSome
 |_=>false
theorem ok_lenm{x:AO}(h:zO P x o=true):El P tb (.lenm x) o:=by
 intro cl C f a nt r hc I F hr;unfold zO at h
 split at h
 ·rename_i y t hb;obtain⟨c,ho,hcal,ha,ht⟩:=HO hb;simp only[af]at h;obtain⟨⟨kt,e⟩,he⟩:=bn.1 h.2;simp only[BA]at hr;obtain⟨es,hes,rfl⟩:=aj.1 hr;exact .inl (sim_lenm I F ho hcal (by rw[ht];rfl) ha h.1 (Y4 he) hes)
 ·cases h
def okMks(P:Program)(t0 sz bytes:Nat)(zero:List AV)(x1 x2:AO)(o:Oper):Bool:=match o.op with
 | .makeSlice t y1 y2=>match Pt P t with
  |some e=>match P.info? e with
   |some i=>match i.zero with
    |some z=>Bz x1 y1&&Bz x2 y2&&sz==i.size&&bytes==i.bytes&&P8 zero z.cells.toList&&decide (i.size=z.cells.size)&&decide (0<i.size)&&decide (0<i.bytes)&&fx t0 e
    |none=>false
   |none=>false
  |none=>false
 |_=>false
theorem ok_mks{t0 sz bytes:Nat}{zero:List AV}{x1 x2:AO}(h:okMks P t0 sz bytes zero x1 x2 o=true):El P tb (.mks t0 sz bytes zero x1 x2) o:=by
 intro cl C f a nt r hc I F hr;unfold okMks at h
 split at h
 ·rename_i t y1 y2 ho
  split at h
  ·rename_i e he
   split at h
   ·rename_i i hi
    split at h
    ·rename_i z hz;simp only[af,beq_iff_eq,t8]at h;obtain⟨⟨⟨⟨⟨⟨⟨⟨h1,h2⟩,rfl⟩,rfl⟩,h5⟩,h6⟩,h7⟩,h8⟩,hl⟩:=h;obtain rfl:=cm hl;simp only[BA]at hr;obtain⟨l,hl,hr⟩:=ad.1 hr;obtain⟨c,hcc,hr⟩:=ad.1 hr
     split at hr
     ·rename_i hcond;cases hr;refine .inl (sim_mks I F ho (FT he) hi hz h5 h6 h7 h1 h2 hl hcc hcond ?_);have h9:=hcond.2.2;unfold Ci at h9;have h10:c≤c*i.bytes:=by
       rcases Int.lt_or_le c 0 with hneg|hpos
       ·have:=hcond.1;have:=hcond.2.1;omega
       ·have:c*1≤c*i.bytes:=Int.mul_le_mul_of_nonneg_left (by omega) hpos;omega
      omega
     ·cases hr
    ·cases h
   ·cases h
  ·cases h
 ·cases h
def okCvb(P:Program)(t0:Nat)(x:AO)(o:Oper):Bool:=match o.op with
 | .convert s d y=>Ve P s&&(match Pt P d with
  |some e=>(match P.underlying e with|some (.int .u8)=>fx t0 e|_=>false)
  |none=>false)&&Bz x y
 |_=>false
def okCvs(P:Program)(x:AO)(o:Oper):Bool:=match o.op with
 | .convert s d y=>Ve P d&&(match Pt P s with
  |some e=>(match P.underlying e with|some (.int .u8)=>true|_=>false)
  |none=>false)&&Bz x y
 |_=>false
theorem ok_cvs{x:AO}(h:okCvs P x o=true):El P tb (.cvs x) o:=by
 intro cl C f a nt r hc I F hr;unfold okCvs at h
 split at h
 ·rename_i s d y ho;simp only[af]at h;obtain⟨⟨h1,h2⟩,h3⟩:=h
  split at h2
  ·rename_i e he
   split at h2
   ·rename_i hu;simp only[BA,val]at hr;obtain⟨v,hv,rfl⟩:=aj.1 hr;obtain⟨l,hl,rfl⟩:=aj.1 hv;obtain⟨els,he1,hl⟩:=ad.1 hl;exact .inl (sim_cvs I F ho (FT he) hu (JR h1) h3 he1 hl)
   ·cases h2
  ·cases h2
 ·cases h
def okRng(P:Program)(x:AO)(o:Oper):Bool:=match o.op with
 | .range t y=>Ve P t&&Bz x y
 |_=>false
theorem ok_rng{x:AO}(h:okRng P x o=true):El P tb (.rng x) o:=by
 intro cl C f a nt r hc I F hr;unfold okRng at h
 split at h
 ·rename_i t y ho;simp only[af]at h;simp only[BA]at hr
  split at hr
  ·rename_i l hl;cases hr;exact .inl (sim_rng I F ho (JR h.1) h.2 hl)
  ·cases hr
 ·cases h
def okNxt(x:AO)(o:Oper):Bool:=match o.op with
 | .next y true=>Bz x y
 |_=>false
theorem ok_nxt{x:AO}(h:okNxt x o=true):El P tb (.nxt x) o:=by
 intro cl C f a nt r hc I F hr;unfold okNxt at h
 split at h
 ·rename_i y ho;simp only[BA]at hr
  split at hr
  ·rename_i id off hl;obtain⟨it,hi,hr2⟩:=ad.1 hr
   by_cases h0:off=0
   ·rw[t6 h0]at hr2;subst h0;exact .inl (sim_nxt (id:=id) (l:=it.1) (pos:=it.2) I F ho h hl hi hr2)
   ·rw[t7 h0]at hr2;cases hr2
  ·cases hr
 ·cases h
def ptr?(P:Program)(t:TypeId):Option TypeId:=match P.underlying t with
 |some (.pointer u)=>some u
 |_=>none
theorem Ul{t u:TypeId}(h:ptr? P t=some u):P.underlying t=some (.pointer u):=by
 unfold ptr? at h
 split at h
 ·rename_i e hu;rw[hu];simp at h;rw[h]
 ·cases h
def isUns(P:Program)(t:TypeId):Bool:=match P.underlying t with
 |some .unsafePointer=>true
 |_=>false
theorem fQ{t:TypeId}(h:isUns P t=true):P.underlying t=some .unsafePointer:=by
 unfold isUns at h
 split at h
 ·assumption
 ·cases h
def okCvp(P:Program)(x:AO)(o:Oper):Bool:=match o.op with
 | .convert s d y=>isUns P d&&(match(ptr? P s).bind P.info? with
  |some j=> !(fx j.size 0)
  |none=>false)&&Bz x y
 |_=>false
theorem ok_cvp{x:AO}(h:okCvp P x o=true):El P tb (.cvp x) o:=by
 intro cl C f a nt r hc I F hr;unfold okCvp at h
 split at h
 ·rename_i s d y ho;simp only[af]at h;obtain⟨⟨h1,h2⟩,h3⟩:=h
  split at h2
  ·rename_i j hj;obtain⟨t,ht,hi⟩:=ad.1 hj;refine .inl (sim_cvp I F ho (Ul ht) (fQ h1) hi (fun e=> ?_) h3 hr);rw[e]at h2;simp[mc]at h2
  ·cases h2
 ·cases h
def okCvu(P:Program)(t n:Nat)(x:AO)(o:Oper):Bool:=match o.op with
 | .convert s d y=>isUns P s&&(match ptr? P d with
  |some u=>(P.info? u).isSome&&liesAt P P.depth t (n/P.cellsOf t) 0 u 1
  |none=>false)&&Bz x y
 |_=>false
theorem ok_cvu{t n:Nat}{x:AO}(h:okCvu P t n x o=true):El P tb (.cvu t n x) o:=by
 intro cl C f a nt r hc I F hr;unfold okCvu at h
 split at h
 ·rename_i s d y ho;simp only[af]at h;obtain⟨⟨h1,h2⟩,h3⟩:=h
  split at h2
  ·rename_i u hu;simp only[af]at h2;obtain⟨j,hj⟩:=bn.1 h2.1;exact .inl (sim_cvu I F ho (fQ h1) (Ul hu) hj h2.2 h3 hr)
  ·cases h2
 ·cases h
def okEqp(P:Program)(neg:Bool)(x y:AO)(o:Oper):Bool:=match o.op with
 | .binOp op t u v _=>decide (op=if neg then .neq else .eql)&&((ptr? P t).bind P.info?).isSome&&Bz x u&&Bz y v
 |_=>false
theorem ok_eqp{neg:Bool}{x y:AO}(h:okEqp P neg x y o=true):El P tb (.eqp neg x y) o:=by
 intro cl C f a nt r hc I F hr;unfold okEqp at h
 split at h
 ·rename_i op t u v t' ho;simp only[af,t8]at h;obtain⟨⟨⟨h0,h1⟩,h2⟩,h3⟩:=h;obtain⟨j,hj⟩:=bn.1 h1;obtain⟨e,he,hi⟩:=ad.1 hj;exact .inl (sim_eqp I F ho h0 (Ul he) hi h2 h3 hr)
 ·cases h
def zR(P:Program)(neg:Bool)(x:AO)(o:Oper):Bool:=match o.op with
 | .binOp op t u (.const .nilIface) _=>(match P.underlying t with
  |some (.interface _)=>true
  |_=>false)&&decide (op=if neg then .neq else .eql)&&Bz x u
 |_=>false
theorem ok_isni{neg:Bool}{x:AO}(h:zR P neg x o=true):El P tb (.isni neg x) o:=by
 intro cl C f a nt r hc I F hr;unfold zR at h
 split at h
 ·rename_i op t u t' ho;simp only[af,t8]at h;obtain⟨⟨h0,h1⟩,h2⟩:=h
  split at h0
  ·rename_i ms hu;exact .inl (sim_isni I F ho h1 hu h2 hr)
  ·cases h0
 ·cases h
def okUsd(x:AO)(o:Oper):Bool:=match iU o with
 |some (.unsafeSliceData,[y],_)=>Bz x y
 |_=>false
theorem ok_usd{x:AO}(h:okUsd x o=true):El P tb (.usd x) o:=by
 intro cl C f a nt r hc I F hr;unfold okUsd at h
 split at h
 ·rename_i y ts hb;obtain⟨c,ho,hcal,ha,ht⟩:=HO hb;exact .inl (sim_usd I F ho hcal (by rw[ha]) h hr)
 ·cases h
def okUst(P:Program)(t:Nat)(x n:AO)(o:Oper):Bool:=match iU o with
 |some (.unsafeString,[y,z],[pt,_])=>(match ptr? P pt with
  |some u=>fx u t&&fx (P.cellsOf t) 1
  |none=>false)&&Bz x y&&Bz n z
 |_=>false
theorem ok_ust{t:Nat}{x n:AO}(h:okUst P t x n o=true):El P tb (.ust t x n) o:=by
 intro cl C f a nt r hc I F hr;unfold okUst at h
 split at h
 ·rename_i y z pt it hb;obtain⟨c,ho,hcal,ha,hty⟩:=HO hb;simp only[af]at h;obtain⟨⟨h1,h2⟩,h3⟩:=h
  split at h1
  ·rename_i u hu;simp only[af]at h1;obtain rfl:=cm h1.1;exact .inl (sim_ust I F ho hcal (by rw[ha]) (by rw[hty]) (Ul hu) (cm h1.2) h2 h3 hr)
  ·cases h1
 ·cases h
def okOp(P:Program)(ao:GI)(o:Oper):Bool:=
 match ao with
 | .mv x=>okMv P x o
 | .pick x y z=>zI x y z o
 | .alloc t z=>WN P t z o
 | .box t n x=>okBox t n x o
 | .ld ag n x=>okLd P ag n x o
 | .st n x z=>okSt P n x z o
 | .nilc x=>zL x o
 | .bin op x y=>okBin op x y o
 | .un op x=>okUn op x o
 | .cvi k x=>okCvi P k x o
 | .cvc x=>zS P x o
 | .mkf fn x y=>okMkf fn x y o
 | .mkif t x=>zM P t x o
 | .ext x i=>okExt x i o
 | .len x=>okLen P x o
 | .lens x=>zN P x o
 | .fa off x=>okFa P off x o
 | .fld ag off n x=>okFld P ag off n x o
 | .ias sz x i=>okIas P sz x i o
 | .iaa len sz x i=>okIaa P len sz x i o
 | .ixa len sz ag x i=>okIxa P len sz ag x i o
 | .ixs x i=>okIxs P x i o
 | .sls x lo hi=>okSls P x lo hi o
 | .sll sz x lo hi=>okSll P sz x lo hi o
 | .sla n sz x lo hi=>okSla P n sz x lo hi o
 | .app t sz bytes s x=>okApp P t sz bytes s x o
 | .call g xs=>zU g xs o
 | .callv x xs=>qM x xs o
 | .eq neg ek x y=>okEq P neg ek x y o
 | .bld z ps=>okBld P z ps o
 | .bls t sz z ps=>nE P sz z ps o&&zQ P t o
 | .bll sz z ps=>nE P sz z ps o
 | .s2a n sz x=>okS2a P n sz x o
 | .mnx mx x y=>okMnx mx x y o
 | .cpy sz d x=>okCpy P sz d x o
 | .die=>true
 | .lkp ek z ok m k=>okLkp P ek z ok m k o
 | .mup ek m k v=>okMup P ek m k v o
 | .mkm=>okMkm o
 | .lenm x=>zO P x o
 | .mks t sz b z l c=>okMks P t sz b z l c o
 | .cvs x=>okCvs P x o
 | .rng x=>okRng P x o
 | .nxt x=>okNxt x o
 | .cvp x=>okCvp P x o
 | .cvu t n x=>okCvu P t n x o
 | .eqp neg x y=>okEqp P neg x y o
 | .isni neg x=>zR P neg x o
 | .capn x=>zT P x o
 | .usd x=>okUsd x o
 | .ust t x n=>okUst P t x n o
 |_=>false
theorem okOp_spec(ao:GI)(o:Oper)(h:okOp P ao o=true):El P tb ao o:=by
 cases ao<;>try simp only[okOp]at h
 case mv=>exact ok_mv h
 case pick=>exact ok_pick h
 case alloc=>exact ok_alloc h
 case box=>exact ok_box h
 case ld=>exact ok_ld h
 case st=>exact ok_st h
 case nilc=>exact ok_nilc h
 case bin=>exact ok_bin h
 case un=>exact ok_un h
 case cvi=>exact ok_cvi h
 case cvc=>exact ok_cvc h
 case mkf=>exact ok_mkf h
 case mkif=>exact ok_mkif h
 case ext=>exact ok_ext h
 case len=>exact ok_len h
 case lens=>exact ok_lens h
 case fa=>exact ok_fa h
 case fld=>exact ok_fld h
 case ias=>exact ok_ias h
 case iaa=>exact ok_iaa h
 case ixa=>exact ok_ixa h
 case ixs=>exact ok_ixs h
 case sls=>exact ok_sls h
 case sll=>exact ok_sll h
 case sla=>exact ok_sla h
 case app=>exact ok_app h
 case call=>exact ok_call h
 case callv=>exact ok_callv h
 case eq=>exact ok_eq h
 case bld=>exact ok_bld h
 case bls=>exact ok_bls h
 case bll=>exact ok_bll h
 case s2a=>exact ok_s2a h
 case mnx=>exact ok_mnx h
 case cpy=>exact ok_cpy h
 case die=>exact ok_die
 case lkp=>exact ok_lkp h
 case mup=>exact ok_mup h
 case mkm=>exact ok_mkm h
 case lenm=>exact ok_lenm h
 case mks=>exact ok_mks h
 case cvs=>exact ok_cvs h
 case rng=>exact ok_rng h
 case nxt=>exact ok_nxt h
 case cvp=>exact ok_cvp h
 case cvu=>exact ok_cvu h
 case eqp=>exact ok_eqp h
 case isni=>exact ok_isni h
 case capn=>exact ok_capn h
 case usd=>exact ok_usd h
 case ust=>exact ok_ust h
 all_goals cases h
end
end
section
def cF(rs:Array Oper):Option (Nat×Bool)→Option (Nat×Bool)→Bool
 |none,none=>true
 |some (t,w),some (j,w')=>w==w'&&(rs[j]?).bind (·.dst)==some t
 |_,_=>false
def eY(T:GI→Oper→Bool)(nt:Nat)(rs:Array Oper)(ao:Bh)(o:Oper):Bool:=
 decide (ao.d=o.dst)&&(match o.dst with|some t=>decide (t<nt)|none=>true)&&cF rs ao.g o.guard&&T ao.o o
def Ho(T:GI→Oper→Bool)(nt:Nat)(rs:Array Oper):List Bh→List Oper→Bool
 |[],[]=>true
 |x::l,o::r=>eY T nt rs x o&&Ho T nt rs l r
 |_,_=>false
section
variable{T:GI→Oper→Bool}{P:Program}{tb:CV}{cl:Nat→List AV→A6→M2}{nt:Nat}{rs:Array Oper}
theorem cW{C:CG}{f:Fr}{a:Act}(F:BB C f a nt){g:Option (Nat×Bool)}{o:Oper}(h:cF rs g o.guard=true){b:Bool}(hw:wanted f g=some b):
  o3 o (yielded rs a.tmps)=b:=by
 unfold cF at h
 split at h
 ·rename_i hg;simp only[wanted,ae]at hw;subst hw;simp[o3,hg]
 ·rename_i t w j w' hg;simp only[af,beq_iff_eq]at h;obtain⟨rfl,hj⟩:=h;simp only[wanted]at hw
  split at hw
  ·rename_i x hx;simp only[ae]at hw;subst hw;have r:=F.rep t;rw[hx]at r;have r':a.tmps.getD t undef= .bool x:=r;have hs:a.tmps[t]? =some (.bool x):=by
    rw[cv]at r';cases ht:a.tmps[t]? with
    |none=>rw[ht]at r';simp[undef]at r'
    |some v=>rw[ht]at r';simpa using r'
   simp only[o3,hg,yielded,hj,aa,hs];cases x<;>cases w<;>rfl
  ·rename_i hx;simp only[ae]at hw;subst hw;have r:=F.rep t;rw[hx]at r;obtain⟨vs,r',hv⟩:=r;have hv':vs=[]:=hv;subst hv';rw[cv]at r';simp only[o3,hg,yielded,hj,aa];cases ht:a.tmps[t]? with
   |none=>rfl
   |some v=>
    rw[ht]at r';simp only[io]at r';subst r'
    rfl
  ·cases hw
 ·cases h
theorem Z2{ao:Bh}{o:Oper}(h:eY T nt rs ao o=true):ao.d=o.dst∧(∀t,o.dst=some t→t<nt)∧cF rs ao.g o.guard=true∧T ao.o o=true:=by
 simp only[eY,af,t8]at h;obtain⟨⟨⟨h1,h2⟩,h3⟩,h4⟩:=h;refine⟨h1,fun t ht=> ?_,h3,h4⟩;rw[ht]at h2;simpa using h2
theorem ops_sound(hT: ∀ao o,T ao o=true→El P tb ao o)(hcl:Fh P tb fun g args h=>BD tb cl h g args){Q:Exit→Act→World→Prop}:
  ∀(l:List Bh) (os:List Oper),Ho T nt rs l os=true→ ∀{C:CG} {f:Fr} {a:Act},Inv tb C→BB C f a nt→ ∀{f':Fr} {h':A6},ops tb cl l f C.H=some (f',h')→
   (∀(D:CG) (a':Act),IV C D→Inv tb D→D.H=h'→BB D f' a' nt→Q .normal a' D.w)→wpList P rs Q os a C.w:=by
 intro l
 induction l with
 |nil=>
  intro os h C f a I F f' h' e k;cases os with
  |cons o os=>simp[Ho]at h
  |nil=>
   simp only[ops,ae,ch]at e;obtain⟨rfl,rfl⟩:=e;exact k C a (mj C) I rfl F
 |cons ao l ih=>
  intro os h C f a I F f' h' e k;cases os with
  |nil=>simp[Ho]at h
  |cons o os=>
   simp only[Ho,af]at h;obtain⟨h1,h2⟩:=h;obtain⟨g1,g2,g3,g4⟩:=Z2 h1;simp only[ops]at e;obtain⟨b,hb,e⟩:=ad.1 e;have hw:=cW F g3 hb;simp only[wpList,hw];cases b with
   |true=>
    simp only[uc]at e ⊢;obtain⟨p,hp,e⟩:=ad.1 e;refine .inl (Zo (hT _ _ g4 hcl I F hp) fun v D X ID hH hr=> ?_);rw[←g1];refine ih os h2 ID (F.put X (fun t ht=>g2 t (g1▸ht)) hr) (by rw[hH];exact e) fun D' a' X'=>k D' a' (X.trans X')
   |false=>
    simp only[ah,ud]at e ⊢;rw[←g1];exact ih os h2 I (F.put (mj C) (fun t ht=>g2 t (g1▸ht)) (x:= .tup []) ⟨[],rfl,rfl⟩) e k
theorem reg_sound(hT: ∀ao o,T ao o=true→El P tb ao o)(hcl:Fh P tb fun g args h=>BD tb cl h g args){Q:Exit→Act→World→Prop}{l:List Bh}{id:Nat}
  (h:Ho T nt rs l rs.toList=true) {C:CG} {f:Fr} {a:Act} (I:Inv tb C) (F:BB C f a nt) {f':Fr} {h':A6} (e:ops tb cl l f C.H=some (f',h'))
  (k: ∀(D:CG) (a':Act),IV C D→Inv tb D→D.H=h'→BB D f' a' nt→Q .normal a' D.w):(Code.region id rs false).wp P Q a C.w:=
 wp_region_list (ops_sound hT hcl l _ h I F e k)
def Hl:AO→List Nat
 | .t n=>[n]
 |_=>[]
def ooT:Option AO→List Nat
 |some x=>Hl x
 |none=>[]
def opT:GI→List Nat
 | .mv x=>Hl x
 | .pick c a b=>Hl c++Hl a++Hl b
 | .alloc _ _=>[]
 | .box _ _ x=>Hl x
 | .bld _ ps=>ps.flatMap fun p=>Hl p.2.2
 | .bls _ _ _ ps=>ps.flatMap fun p=>Hl p.2
 | .bll _ _ ps=>ps.flatMap fun p=>Hl p.2
 | .ld _ _ a=>Hl a
 | .st _ a x=>Hl a++Hl x
 | .nilc x=>Hl x
 | .bin _ x y=>Hl x++Hl y
 | .eq _ _ x y=>Hl x++Hl y
 | .un _ x=>Hl x
 | .cvi _ x=>Hl x
 | .cvid x=>Hl x
 | .cvb _ x=>Hl x
 | .cvr x=>Hl x
 | .cvs x=>Hl x
 | .cvc x=>Hl x
 | .mkf _ a b=>a.flatMap Hl++b.flatMap Hl
 | .mkm=>[]
 | .mks _ _ _ _ l c=>Hl l++Hl c
 | .sls x lo hi=>Hl x++ooT lo++ooT hi
 | .sll _ x lo hi=>Hl x++ooT lo++ooT hi
 | .sla _ _ x lo hi=>Hl x++ooT lo++ooT hi
 | .fa _ x=>Hl x
 | .fld _ _ _ x=>Hl x
 | .ias _ x i=>Hl x++Hl i
 | .iaa _ _ x i=>Hl x++Hl i
 | .ixa _ _ _ x i=>Hl x++Hl i
 | .ixs x i=>Hl x++Hl i
 | .lkp _ _ _ m k=>Hl m++Hl k
 | .mup _ m k v=>Hl m++Hl k++Hl v
 | .rng x=>Hl x
 | .nxt x=>Hl x
 | .ext x _=>Hl x
 | .s2a _ _ x=>Hl x
 | .mkif _ x=>Hl x
 | .call _ xs=>xs.flatMap Hl
 | .callv x xs=>Hl x++xs.flatMap Hl
 | .len x=>Hl x
 | .lens x=>Hl x
 | .app _ _ _ s x=>Hl s++Hl x
 | .cpy _ d s=>Hl d++Hl s
 | .mnx _ x y=>Hl x++Hl y
 | .clr _ x=>Hl x
 | .del _ m k=>Hl m++Hl k
 | .lenm m=>Hl m
 | .cvp x=>Hl x
 | .cvu _ _ x=>Hl x
 | .eqp _ x y=>Hl x++Hl y
 | .isni _ x=>Hl x
 | .capn x=>Hl x
 | .usd x=>Hl x
 | .ust _ x n=>Hl x++Hl n
 | .die=>[]
def Alike(_:CV)(f f':Fr)(ts:List Nat):Prop:= ∀t∈ts,get f t=get f' t
theorem Alike.l{tb:CV}{f f':Fr}{x y:List Nat}(h:Alike tb f f' (x++y)):Alike tb f f' x:=fun t ht=>h t (qt _ ht)
theorem Alike.r{tb:CV}{f f':Fr}{x y:List Nat}(h:Alike tb f f' (x++y)):Alike tb f f' y:=fun t ht=>h t (qk _ ht)
theorem Alike.e{f f':Fr}{x:AO}(h:Alike tb f f' (Hl x)):eval tb f x=eval tb f' x:=by
 cases x with
 |t n=>exact h n (by simp[Hl])
 |_=>rfl
theorem Alike.es{f f':Fr}: ∀{xs:List AO},Alike tb f f' (xs.flatMap Hl)→xs.map (eval tb f)=xs.map (eval tb f')
 |[],_=>rfl
 |x::xs,h=>by
  rw[d5]at h;rw[bh,bh,h.l.e,Alike.es h.r]
theorem Alike.b{f f':Fr}{lo hi:Option AO}{n:Nat}(h:Alike tb f f' (ooT lo))(h':Alike tb f f' (ooT hi)):HW (eval tb f) n lo hi=HW (eval tb f') n lo hi:=by
 cases lo<;>cases hi
 ·rfl
 ·have e':=Alike.e h';simp only[HW,e']
 ·have e:=Alike.e h;simp only[HW,e]
 ·have e:=Alike.e h;have e':=Alike.e h';simp only[HW,e,e']
theorem Alike.fl{f f':Fr}: ∀{ps:List (Nat×Nat×AO)} {z:List AV},Alike tb f f' (ps.flatMap fun p=>Hl p.2.2)→Po z (eval tb f) ps=Po z (eval tb f') ps
 |[],_,_=>rfl
 |(off,n,x)::ps,z,h=>by
  rw[d5]at h;simp only[Po];rw[h.l.e]
  split
  ·exact Alike.fl h.r
  ·rfl
theorem Alike.fe{f f':Fr}{sz:Nat}: ∀{ps:List (Nat×AO)} {z:List (List AV)},Alike tb f f' (ps.flatMap fun p=>Hl p.2)→Pp z sz (eval tb f) ps=Pp z sz (eval tb f') ps
 |[],_,_=>rfl
 |(i,x)::ps,z,h=>by
  rw[d5]at h;simp only[Pp];rw[h.l.e]
  split
  ·exact Alike.fe h.r
  ·rfl
theorem LJ{f f':Fr}{h:A6}: ∀{o:GI},Alike tb f f' (opT o)→BA tb cl (eval tb f) h o=BA tb cl (eval tb f') h o:=by
 intro o a;cases o<;>simp only[opT]at a<;>simp only[BA]
 case bld=>rw[a.fl]
 case bls=>rw[a.fe]
 case bll=>rw[a.fe]
 case mkf=>rw[a.l.es,a.r.es]
 case sls=>rw[a.l.l.e];split<;>first|rfl|rw[Alike.b a.l.r a.r]
 case sll=>rw[a.l.l.e];congr;funext n;rw[Alike.b a.l.r a.r]
 case sla=>rw[a.l.l.e,Alike.b a.l.r a.r]
 case call=>rw[a.es]
 case callv=>rw[a.l.e,a.r.es]
 case pick=>rw[a.l.l.e,a.l.r.e,a.r.e]
 case mup=>rw[a.l.l.e,a.l.r.e,a.r.e]
 all_goals first
  |rw[a.l.e,a.r.e]
  |rw[a.e]
def gT:Option (Nat×Bool)→List Nat
 |some (t,_)=>[t]
 |none=>[]
theorem pB{f f':Fr}{g:Option (Nat×Bool)}(a:Alike tb f f' (gT g)):wanted f g=wanted f' g:=by
 cases g with
 |none=>rfl
 |some p=>
  obtain⟨t,w⟩:=p;simp only[wanted];rw[a t (by simp[gT])]
def CH:List (Option (Nat×Nat))→Nat→Nat
 |_,0=>0
 |[],_+1=>0
 |none::w,i+1=>CH w i+1
 |some _::w,i+1=>CH w i
def Stepped(tb:CV)(cl:Nat→List AV→A6→M2)(hs:List A6)(k:Nat)(ao:Bh)(w:Option (Nat×Nat))(f:Fr)(v:AV):Prop:=
 ∃t,wanted f ao.g=some t∧(t=false→v= .tup []∧(w=none→hs[k]? =hs[k+1]?))∧
  (t=true→(w=none→ ∃h u,hs[k]? =some h∧BA tb cl (eval tb f) h ao.o=some (v,u)∧hs[k+1]? =some (u.getD h))∧
   ∀lo hi,w=some (lo,hi)→ ∀j,lo≤j→j≤hi→ ∃h u,hs[j]? =some h∧BA tb cl (eval tb f) h ao.o=some (v,u)∧u.getD h=h)
theorem opsD_spec{hs:List A6}: ∀(l:List Bh) (ws:List (Option (Nat×Nat))) (k:Nat) (f f':Fr),Le tb cl hs l ws k f=some f'→
  ∃(fr:Nat→Fr) (vl:Nat→AV),fr 0=f∧fr l.length=f'∧k+CH ws l.length+1=hs.length∧
   ∀i ao,l[i]? =some ao→fr (i+1)=put (fr i) ao.d (vl i)∧ ∃w,ws[i]? =some w∧Stepped tb cl hs (k+CH ws i) ao w (fr i) (vl i):=by
 intro l
 induction l with
 |nil=>
  intro ws k f f' e;simp only[Le]at e
  split at e
  ·rename_i hk;obtain rfl:=be e;exact⟨fun _=>f,fun _=> .junk,rfl,rfl,by simpa [CH]using hk,fun i ao h=>(by simp at h)⟩
  ·cases e
 |cons ao l ih=>
  intro ws k f f' e;simp only[Le]at e;obtain⟨t,ht,e⟩:=ad.1 e;have glue: ∀(w:Option (Nat×Nat)) (ws':List (Option (Nat×Nat))) (v:AV) (k':Nat),ws=w::ws'→k'=k+(match w with|none=>1|some _=>0)→Stepped tb cl hs k ao w f v→
    Le tb cl hs l ws' k' (put f ao.d v)=some f'→ ∃(fr:Nat→Fr) (vl:Nat→AV),fr 0=f∧fr (ao::l).length=f'∧k+CH ws (ao::l).length+1=hs.length∧
     ∀i x,(ao::l)[i]? =some x→fr (i+1)=put (fr i) x.d (vl i)∧ ∃w,ws[i]? =some w∧Stepped tb cl hs (k+CH ws i) x w (fr i) (vl i):=by
   intro w ws' v k' hws hk hst h;subst hws;obtain⟨fr,vl,h0,h1,h2,h3⟩:=ih ws' k' _ f' h;have hrank: ∀i,k+CH (w::ws') (i+1)=k'+CH ws' i:=by
    intro i;subst hk;cases w<;>simp only[CH]<;>omega
   refine⟨fun i=>match i with|0=>f|i+1=>fr i,fun i=>match i with|0=>v|i+1=>vl i,rfl,h1,by rw[ba,hrank];exact h2,?_⟩;intro i x hx;cases i with
   |zero=>
    simp only[bw,ae]at hx;subst hx;exact⟨h0,w,rfl,hst⟩
   |succ i=>
    obtain⟨g1,w',g2,g3⟩:=h3 i x (by simpa using hx);exact⟨g1,w',by simpa using g2,by rw[hrank];exact g3⟩
  cases t with
  |true=>
   simp only[uc]at e;obtain⟨h,hh,e⟩:=ad.1 e;obtain⟨p,hp,e⟩:=ad.1 e;cases ws with
   |nil=>simp at e
   |cons w0 w=>
    cases w0 with
    |none=>
     simp only[]at e
     split at e
     ·rename_i hn;exact glue none w p.1 (k+1) rfl rfl ⟨true,ht,fun e=>(by cases e),fun _=>⟨fun _=>⟨h,p.2,hh,hp,hn.symm⟩,fun lo hi e=>(by cases e)⟩⟩ e
     ·cases e
    |some q=>
     obtain⟨lo,hi⟩:=q;simp only[]at e
     split at e
     ·rename_i hn;refine glue (some (lo,hi)) w p.1 k rfl rfl ⟨true,ht,fun e=>(by cases e),fun _=>⟨fun e=>(by cases e),?_⟩⟩ e;intro lo' hi' e' j hj hj';simp only[ae,ch]at e';obtain⟨rfl,rfl⟩:=e';rw[cb]at hn;have:=hn j (dx.2 ⟨hj,by omega⟩);simp only[t8]at this;obtain⟨u,hu,hu'⟩:=this;obtain⟨h',hh',hu⟩:=ad.1 hu;refine⟨h',u,hh',hu,?_⟩;rw[hh']at hu';simpa using hu'
     ·cases e
  |false=>
   simp only[ah,ud]at e;cases ws with
   |nil=>simp at e
   |cons w0 w=>
    cases w0 with
    |none=>
     simp only[]at e
     split at e
     ·rename_i hn;exact glue none w (.tup []) (k+1) rfl rfl ⟨false,ht,fun _=>⟨rfl,fun _=>hn⟩,fun e=>(by cases e)⟩ e
     ·cases e
    |some q=>
     exact glue (some q) w (.tup []) k rfl rfl ⟨false,ht,fun _=>⟨rfl,fun e=>(by cases e)⟩,fun e=>(by cases e)⟩ e
end
end
section
def Qd(rs:Array Oper)(i:Nat):List Nat:=
 match rs[i]? with
 |some o=>(o.after.toList.filter (Region.binds .any)).map (·.on)
 |none=>[]
def QO(rs:Array Oper):Nat→Nat→Nat→Bool
 |0,_,_=>false
 |n+1,j,i=>(Qd rs i).any (fun e=>fx e j)||(Qd rs i).any fun e=>QO rs n j e
theorem NH{rs:Array Oper}{L:Nat→Prop}(hd: ∀i,L i→ ∀e∈Qd rs i,L e): ∀{n j i:Nat},QO rs n j i=true→(∀e∈Qd rs i,L e)→L j
 |0,_,_,h,_=>by simp[QO]at h
 |n+1,j,i,h,hi=>by
  simp only[QO,jp,fu,lu]at h;rcases h with ⟨e,he,rfl⟩|⟨e,he,h⟩
  ·exact hi _ he
  ·exact NH hd h (hd e (hi e he))
def looks(ao:Bh):List Nat:=gT ao.g++opT ao.o
theorem Pe(f:Fr)(d:Option Nat)(v:AV)(t:Nat):get (put f d v) t=if d=some t then v else get f t:=by
 cases d with
 |none=>simp[put]
 |some u=>simp[put,get]
theorem Tl{T:GI→Oper→Bool}{nt:Nat}{rs:Array Oper}: ∀{l:List Bh} {os:List Oper},Ho T nt rs l os=true→l.length=os.length
 |[],[],_=>rfl
 |[],_::_,h=>by simp[Ho]at h
 |_::_,[],h=>by simp[Ho]at h
 |_::_,_::_,h=>by
  simp only[Ho,af]at h;simp[Tl h.2]
theorem Z1{T:GI→Oper→Bool}{nt:Nat}{rs:Array Oper}: ∀{l:List Bh} {os:List Oper} {i:Nat} {x:Bh} {o:Oper},Ho T nt rs l os=true→l[i]? =some x→os[i]? =some o→eY T nt rs x o=true
 |[],_,_,_,_,_,h,_=>by simp at h
 |_::_,[],_,_,_,_,_,h=>by simp at h
 |_::_,_::_,0,_,_,h,h1,h2=>by
  simp only[Ho,af]at h;simp only[bw,ae]at h1 h2;subst h1;subst h2;exact h.1
 |_::_,_::_,i+1,_,_,h,h1,h2=>by
  simp only[Ho,af]at h;exact Z1 h.2 (i:=i) (by simpa using h1) (by simpa using h2)
theorem OW: ∀{ws:List (Option (Nat×Nat))} {i j:Nat},ws[i]? =some none→i<j→CH ws i<CH ws j
 |[],_,_,h,_=>by simp at h
 |_,_,0,_,h=>by omega
 |none::ws,0,j+1,_,_=>by simp only[CH];omega
 |some _::ws,0,j+1,h,_=>by simp at h
 |none::ws,i+1,j+1,h,h'=>by
  have:=OW (ws:=ws) (i:=i) (j:=j) (by simpa using h) (by omega);simp only[CH];omega
 |some _::ws,i+1,j+1,h,h'=>by
  have:=OW (ws:=ws) (i:=i) (j:=j) (by simpa using h) (by omega);simp only[CH];omega
theorem Ue: ∀{ws:List (Option (Nat×Nat))} {n k:Nat},k<CH ws n→ ∃j,j<n∧ws[j]? =some none∧CH ws j=k
 |_,0,_,h=>by simp[CH]at h
 |[],_+1,_,h=>by simp[CH]at h
 |none::ws,n+1,0,_=>⟨0,by omega,rfl,rfl⟩
 |none::ws,n+1,k+1,h=>by
  obtain⟨j,h1,h2,h3⟩:=Ue (ws:=ws) (n:=n) (k:=k) (by simp only[CH]at h;omega);exact⟨j+1,by omega,by simpa using h2,by simp only[CH,h3]⟩
 |some _::ws,n+1,k,h=>by
  obtain⟨j,h1,h2,h3⟩:=Ue (ws:=ws) (n:=n) (k:=k) (by simpa [CH]using h);exact⟨j+1,by omega,by simpa using h2,by simp only[CH,h3]⟩
section
variable{T:GI→Oper→Bool}{P:Program}{tb:CV}{cl:Nat→List AV→A6→M2}{nt:Nat}{rs:Array Oper}{l:List Bh}{ws:List (Option (Nat×Nat))}{hs:List A6}{fr:Nat→Fr}{vl:Nat→AV}
def On(listed:Array Bool)(i:Nat):Prop:=listed.getD i false=true
theorem L0{listed:Array Bool}{i j:Nat}(hi:i<listed.size):On (listed.setIfInBounds i true) j↔j=i∨On listed j:=by
 unfold On
 by_cases h:i=j
 ·subst h;simp[cv,hi]
 ·rw[getD_set_ne false h];exact⟨.inr,fun e=>e.resolve_left (iz h)⟩
theorem lW{i:Nat}{o:Oper}(h:rs[i]? =some o){e:Nat}:e∈Qd rs i↔ ∃x∈o.after,Region.binds .any x=true∧x.on=e:=by
 simp only[Qd,h,eh,fv,Array.mem_toList_iff];exact⟨fun⟨x,⟨h1,h2⟩,h3⟩=>⟨x,h1,h2,h3⟩,fun⟨x,h1,h2,h3⟩=>⟨x,⟨h1,h2⟩,h3⟩⟩
theorem Yv{listed:Array Bool}(hsz:listed.size=rs.size){i:Nat}:i∈Region.ready .any rs listed↔i<rs.size∧ ¬On listed i∧ ∀e∈Qd rs i,On listed e:=by
 rw[mem_ready];constructor
 ·rintro⟨h1,o,ho,h2⟩;have hi:i<rs.size:=(od.1 ho).1;refine⟨hi,fun h=> ?_,fun e he=> ?_⟩
  ·unfold On at h;simp[cv,show i<listed.size by omega]at h h1;rw[h1]at h;cases h
  ·obtain⟨x,hx,hb,rfl⟩:=(lW ho).1 he;exact h2 x hx hb
 ·rintro⟨hi,h1,h2⟩;obtain⟨o,ho⟩: ∃o,rs[i]? =some o:=⟨rs[i],ff hi⟩;refine⟨?_,o,ho,fun x hx hb=>h2 _ ((lW ho).2 ⟨x,hx,hb,rfl⟩)⟩;unfold On at h1;simp[cv,show i<listed.size by omega]at h1 ⊢;exact h1
theorem fD(hstep: ∀i ao,l[i]? =some ao→fr (i+1)=put (fr i) ao.d (vl i))(h3: ∀(i j:Nat) (x y:Bh) (t:Nat),l[i]? =some x→l[j]? =some y→i≠j→x.d=some t→y.d≠some t):
  ∀m,m≤l.length→(∀i x t,i<m→l[i]? =some x→x.d=some t→get (fr m) t=vl i)∧(∀t,(∀i x,i<m→l[i]? =some x→x.d≠some t)→get (fr m) t=get (fr 0) t)
 |0,_=>⟨fun _ _ _ h=>by omega,fun _ _=>rfl⟩
 |m+1,hm=>by
  obtain⟨q1,q2⟩:=fD hstep h3 m (by omega);obtain⟨x,hx⟩: ∃x,l[m]? =some x:=⟨_,ab (by omega)⟩;rw[hstep m x hx];refine⟨fun i y t hi hy hd=> ?_,fun t ht=> ?_⟩
  ·rw[Pe]
   by_cases him:i=m
   ·subst him;rw[hx]at hy;obtain rfl:=be hy;rw[t6 hd]
   ·rw[t7 (h3 i m y x t hy hx him hd)];exact q1 i y t (by omega) hy hd
  ·rw[Pe,t7 (ht m x (by omega) hx)];exact q2 t fun i y hi=>ht i y (by omega)
end
end
end
end Go.Proofs.YtfdkkkdbknbmaaaGreatDoor.Am
