/-
  A call of the machine's is the model's.
-/
import Derived.Laws.Sem
import GoSem.Extern.Table
import Derived.Lib.Bytealg
import Derived.Lib.MakeNoZero
import Derived.Below
import Derived.Lib.ParseIntBCases
import Derived.Lib.Index
import Derived.ProofKit
import Derived.Deep.Slices
import Derived.DataReads
import Derived.Carry
import Derived.Test.YtobejhpigbllpaaGreatDoorX1
set_option linter.unusedVariables false
set_option linter.unusedSimpArgs false
namespace Go.Proofs.YtobejhpigbllpaaGreatDoor.Am
open AU renaming op→ga
open Aa renaming op→am
open Ar renaming ext→pi
open _root_.Array renaming getD_eq_getD_getElem?→dh, getElem?_append_left→j6, getElem?_eq_none→kx, getElem?_eq_some_iff→ma, replicate→nf
open B6 renaming app→ou
open Bk renaming flat→n7, lens→i6
open Bool renaming and_eq_true→af, and_true→kp, eq_iff_iff→i8, false_eq_true→au, not_eq_true'→cg, or_eq_true→gq
open _root_.ByteArray renaming ext→kq, push→nw, size→l9
open CL renaming rep→qf
open Classical renaming choose→d5, choose_spec→jv
open Cx renaming push→n9
open DR renaming cut→ph
open Extern.AbiNoEscape renaming same→mu
open Extern.BytealgCount renaming count→mf
open Extern.BytealgIndexByte renaming indexByte→kw
open Extern.Bytes renaming asByte→ko, bytesOf→ic, loadBytes→k0
open FR renaming men→pj
open GS renaming l→l6
open Go renaming results→ox
open IT renaming int→ba
open Iff renaming rfl→o9
open Int renaming toNat_of_nonneg→ol
open IntKind renaming bits→f4, signed→j4
open LH renaming refl→lf
open List renaming all_append→jt, all_cons→fc, all_eq_true→cd, all_nil→o7, append_assoc→dl, append_nil→dv, cons_append→dt, drop_drop→ck, drop_eq_getElem_cons→bk, drop_eq_nil_of_le→jp, drop_left'→ez, drop_of_length_le→ce, drop_take→gb, drop_zero→db, eq_nil_of_length_eq_zero→cj, ext_getElem?→ii, filterMap_cons→jf, findIdx?_cons→mb, flatMap_cons→eh, flatMap_nil→mw, flatten_append→f6, flatten_cons→bm, flatten_nil→mq, foldl_cons→ll, getElem?_append_left→br, getElem?_append_right→bo, getElem?_cons_succ→c0, getElem?_cons_zero→bx, getElem?_eq_getElem→ad, getElem?_eq_none→f9, getElem?_eq_some_iff→ca, getElem?_map→ff, getElem?_set→k4, getElem?_set_ne→dx, getElem?_set_self→dg, getElem_set_self→nm, length_append→aw, length_cons→bb, length_drop→bh, length_map→e9, length_nil→bz, length_pos_iff→lr, length_set→fy, length_take→a6, map_append→de, map_congr_left→lq, map_cons→bn, map_map→na, map_nil→ew, mem_append→go, mem_append_left→ny, mem_append_right→nl, mem_cons→bu, mem_cons_of_mem→bg, mem_cons_self→bj, mem_flatten→jh, mem_iff_getElem→n0, mem_iff_getElem?→gu, mem_of_getElem?→cq, mem_of_mem_drop→cu, mem_of_mem_take→dc, mem_range'_1→gk, mem_singleton→gf, nil_append→dw, range→ik, range'→fh, range'_succ→kg, range_eq_range'→lh, replicate→aq, set_append_left→nz, set_cons_succ→jo, set_cons_zero→ir, singleton_append→er, take→pn, take_append→gw, take_append_drop→fq, take_left'→il, take_length→kj, take_of_length_le→av, take_set_of_le→oj, take_succ_eq_append_getElem→bd, take_take→ji, take_zero→j5, zipIdx_cons→ke
open List.cons renaming injEq→lj
open Nat renaming add_assoc→gz, add_comm→pc, add_mul→fx, add_sub_cancel→mc, add_sub_cancel_left→ij, add_zero→ja, beq→fv, beq_eq→j8, beq_refl→lu, ble→oe, blt→je, eq_of_beq_eq_true→cv, eq_zero_or_pos→d7, le_of_ble_eq_true→i7, le_refl→be, le_trans→dy, lt_or_ge→dq, min_comm→nb, min_eq_left→f3, mod_eq_of_lt→kh, mul_le_mul_right→cr, mul_one→nx, not_lt_zero→lm, sub_self→jq, sub_zero→m7, succ_mul→ci, zero_add→da, zero_le→ib, zero_mul→jb
open Ne renaming symm→jz
open Option renaming bind_eq_some_iff→ab, bind_some→aa, getD_some→iq, isSome_iff_exists→bl, map_eq_some_iff→aj, map_some→an
open Option.some renaming inj→bf, injEq→ae
open PR renaming length→n8, men→qg, mono→o8
open Pf renaming same→oa
open Prod.mk renaming injEq→ch
open Sem renaming run→py
open Sum renaming elim→a8, elim_inl→fj, elim_inr→pa
open T renaming arr→ak, b→di, int→ah, sl→bq, u16→dr, u32→qd, u64→fm, u8→a7
open T.V renaming cells→k9, of→ov
open UInt16 renaming ofNat→bw
open UInt32 renaming ofNat→pb
open UInt64 renaming ofNat→ei, toNat_ofNat'→io
open UInt8 renaming ofNat→bc, toNat_inj→ef, toNat_ofNat'→fk
open Utf8 renaming decode→gg, encode→mg
open Value renaming cells→pp
open World renaming cell?→f7, frozen?→jc
section
section
variable{T:HB→Oper→Bool}{P:Program}{tb:Di}{cl:Nat→List AV→Az→Mb}{nt:Nat}
theorem W5{D:DR}(I:Inv tb D){n id:Nat}(hid:id<D.H.length)(h: ¬id<n): ¬(D.cut n).own (D.φ id).blk:=by
 rintro⟨j,hj,e⟩
 simp only[ph,a6]at hj
 have:=I.inj j id (by omega) hid e
 omega
theorem nX{D:DR}{n:Nat}{v:AV}{x:Value}(h:Cc v≤n)(r:HG D v x):HG (D.cut n) v x∧(scal v=true→scal v=true):=⟨r.cut h,fun h=>h⟩
def FrzOk(D:DR)(n:Nat)(F:AV→Option AV):Prop:= ∀(v v':AV) (x:Value),F v=some v'→HG D v x→HG (D.cut n) v' x∧(scal v=true→scal v'=true)
theorem M2{D:DR}{n:Nat}{F:AV→Option AV}(hF:FrzOk D n F): ∀{l l':List AV} {xs:List Value},DY F l=some l'→B6 D l xs→B6 (D.cut n) l' xs∧(l.all scal=true→l'.all scal=true)∧l'.length=l.length
 |[],_,_,h,r=>by
  simp only[DY,ae]at h
  subst h
  exact⟨r,fun h=>h,rfl⟩
 |v::l,_,_,h,⟨x,q,e,r,rr⟩=>by
  simp only[DY]at h
  obtain⟨v',hv,h⟩:=ab.1 h
  obtain⟨l',hl,rfl⟩:=aj.1 h
  obtain⟨h1,h2⟩:=hF _ _ _ hv r
  obtain⟨h3,h4,h5⟩:=M2 hF hl rr
  refine⟨⟨x,q,e,h1,h3⟩,fun hs=> ?_,by simp[h5]⟩
  simp only[fc,af]at hs ⊢
  exact⟨h2 hs.1,h4 hs.2⟩
theorem Pm{D:DR}{n sz:Nat}{F:AV→Option AV}(hF:FrzOk D n F): ∀{l l':List (List AV)} {xs:List (List Value)},DY (DY F) l=some l'→Bk D l xs→(∀e∈l,e.length=sz∧e.all scal=true)→
  Bk (D.cut n) l' xs∧(∀e∈l',e.length=sz∧e.all scal=true)∧l'.length=l.length
 |[],_,_,h,r,_=>by
  simp only[DY,ae]at h
  subst h
  exact⟨r,fun e h=>(by cases h),rfl⟩
 |v::l,_,_,h,⟨x,q,e,r,rr⟩,hs=>by
  simp only[DY]at h
  obtain⟨v',hv,h⟩:=ab.1 h
  obtain⟨l',hl,rfl⟩:=aj.1 h
  obtain⟨h1,h2,h6⟩:=M2 hF hv r
  obtain⟨h3,h4,h5⟩:=Pm hF hl rr fun e he=>hs e (bg _ he)
  refine⟨⟨x,q,e,h1,h3⟩,fun e he=> ?_,by simp[h5]⟩
  have h0:=hs v bj
  rcases bu.1 he with rfl|he
  ·exact⟨h6.trans h0.1,h2 h0.2⟩
  ·exact h4 e he
theorem jH{D:DR}(I:Inv tb D){n:Nat}: ∀d,FrzOk D n (frz D.H n d)
 |0=>fun v v' x h r=>by
  simp only[frz]at h
  split at h
  ·rename_i hm
   obtain rfl:=bf h
   exact nX hm r
  ·cases h
 |d+1=>fun v v' x h r=>by
  simp only[frz]at h
  split at h
  ·rename_i hm
   obtain rfl:=bf h
   exact nX hm r
  ·rename_i hm
   have ih:=jH I (n:=n) d
   split at h
   ·rename_i id k lo len
    have hid: ¬id<n:=by simp only[Cc]at hm;omega
    obtain⟨_,fz,sz,els,hg,hle,q⟩:=r
    simp only[hg,aa]at h
    split at h
    ·rename_i hc
     obtain⟨hk,hlo⟩:=hc
     obtain⟨els',he,rfl⟩:=aj.1 h
     refine⟨?_,fun _=>rfl⟩
     obtain⟨_,off,cap,rfl,hlc,hoff,_,_⟩:=q hk
     obtain⟨tl,hg',hlab⟩:=KY hg
     obtain⟨vss,arr,et,fr,⟨h1,_⟩,h2,h3,h4,h5,h6,h7,h8,h9⟩:=I.obj id _ hg'
     have hlens:=i6 (fun x hx=>(h4 x hx).1) h5
     have hlen:((els.drop lo).take len).length=len:=by simp only[a6,bh];omega
     obtain⟨q1,q2,q3⟩:=Pm (sz:=sz) ih he (h5.drop.take) fun e he=>h4 e (cu (dc he))
     refine .inl ⟨(D.φ id).blk,off,cap,(vss.drop lo).take len,by rw[q3,hlen],by rw[q3,hlen];exact hlc,I.lt id (Bl hg'),W5 I (Bl hg') hid,?_,q2,q1⟩
     intro j v hj
     have hpos:0<len:=by
      rcases d7 len with h|h
      ·subst h;simp at hj
      ·exact h
     rw[hoff hpos]
     have hh:=h7.sub (lo*sz) (len*sz)
     refine hh j v ?_
     rw[Ff (sz:=sz) _ _ (fun x hx=>hlens x (cu hx)),FX (sz:=sz) _ _ hlens]at hj
     exact hj
    ·cases h
   ·rename_i sz id off len
    have hid: ¬id<n:=by simp only[Cc]at hm;omega
    obtain⟨_,o,cap,rfl,hlc,hoff,hsz⟩:=r
    obtain⟨cs,hc,h⟩:=ab.1 h
    split at h
    ·rename_i hcond
     obtain⟨els',he,rfl⟩:=aj.1 h
     refine⟨?_,fun _=>rfl⟩
     obtain⟨tl,hg,hlab⟩:=OF hc
     obtain⟨vs,arr,et,fr,⟨h1,_⟩,h2,h3,h4,h5,h6⟩:=I.obj id _ hg
     obtain⟨c1,c2,vss,c3,c4⟩:=WV (C:=D) sz len (cs.drop off) (vs.drop off) D.w (D.φ id).blk off (by
      simp only[cd]at h3 ⊢
      exact fun x hx=>h3 x (cu hx)) h4.drop (by
      have:=h5.sub off (vs.drop off).length
      rw[da]at this
      rwa [av (be _)]at this) (by simp only[bh];omega)
     obtain⟨q1,q2,q3⟩:=Pm (sz:=sz) ih he c4 c2
     refine .inl ⟨(D.φ id).blk,o,cap,vss,by rw[q3,c1],by rw[q3,c1];exact hlc,I.lt id (Bl hg),W5 I (Bl hg) hid,?_,q2,q1⟩
     intro j v hj
     have hpos:0<len:=by
      rcases d7 len with h|h
      ·subst h
       simp only[BR]at c4
       rw[show vss=[]from c4]at hj
       simp at hj
      ·exact h
     rw[hoff hpos]
     exact c3 j v hj
    ·cases h
   ·rename_i sz els
    obtain⟨els',he,rfl⟩:=aj.1 h
    refine⟨?_,fun _=>rfl⟩
    rcases r with ⟨b,base,cap,vss,rfl,hlc,hlt,hown,hh,hs,hr⟩|⟨rfl,p,cap,rfl⟩
    ·obtain⟨q1,q2,q3⟩:=Pm (sz:=sz) ih he hr hs
     exact .inl ⟨b,base,cap,vss,by rw[q3],by rw[q3];exact hlc,hlt,RU hown,hh,q2,q1⟩
    ·simp only[DY,ae]at he
     subst he
     exact .inr ⟨rfl,p,cap,rfl⟩
   ·rename_i cs
    obtain⟨vs,e,s,q⟩:=r
    obtain⟨cs',hc,rfl⟩:=aj.1 h
    obtain⟨h1,h2,_⟩:=M2 ih hc q
    exact⟨⟨vs,e,h2 s,h1⟩,fun h=>by simp[scal]at h⟩
   ·rename_i cs
    obtain⟨vs,e,q⟩:=r
    obtain⟨cs',hc,rfl⟩:=aj.1 h
    exact⟨⟨vs,e,(M2 ih hc q).1⟩,fun h=>by simp[scal]at h⟩
   ·cases h
theorem frzL_rep{D:DR}(I:Inv tb D){n:Nat}{l l':List AV}{xs:List Value}(h:jI D.H n l=some l')(r:B6 D l xs):B6 (D.cut n) l' xs∧(l.all scal=true→l'.all scal=true):=
 ⟨(M2 (jH I 12) h r).1,(M2 (jH I 12) h r).2.1⟩
theorem nH{C D:DR}(X:LH C D)(I:Inv tb D)(hg: ∀g cs,tb.gl g=some cs→B0 cs=0){vs:List AV}{xs:List Value}(h:B6 D vs xs):
  ∃D':DR,LH C D'∧Inv tb D'∧D'.w=D.w∧D'.H=(Zn C.H.length D.H vs).2.getD C.H∧HG D' (Zn C.H.length D.H vs).1 (mO xs):=by
 unfold Zn
 split
 ·rename_i vs' hf
  split
  ·rename_i hm
   exact⟨D.cut C.H.length,X.cut (be _),I.cut hm hg,rfl,rfl,Pb (frzL_rep I hf h).1⟩
  ·exact⟨D,X,I,rfl,rfl,Pb h⟩
 ·exact⟨D,X,I,rfl,rfl,Pb h⟩
theorem rC{C D:DR}(X:LH C D)(I:Inv tb D)(hg: ∀g cs,tb.gl g=some cs→B0 cs=0){warm:Bool}{vs:List AV}{xs:List Value}(h:B6 D vs xs):
  ∃D':DR,LH C D'∧Inv tb D'∧D'.w=D.w∧D'.H=(YX warm C.H.length D.H vs).2.getD C.H∧HG D' (YX warm C.H.length D.H vs).1 (mO xs):=by
 cases warm
 ·exact nH X I hg h
 ·exact⟨D,X,I,rfl,rfl,Pb h⟩
theorem nU: ∀(l:List AV) (k t:Nat),get ((l.zipIdx k).map fun p=>(p.2,p.1)) t=if k≤t then l[t-k]?.getD .junk else .junk
 |[],k,t=>by simp[get]
 |v::l,k,t=>by
  simp only[ke,bn,get]
  rw[nU l (k+1) t]
  by_cases h:k=t
  ·subst h;simp
  ·rw[qo h]
   by_cases h1:k≤t
   ·rw[qn (show k+1≤t by omega),qn h1,show t-k=(t-(k+1))+1 by omega]
    simp
   ·rw[qo (by omega),qo h1]
theorem fr_args{C:DR}{args:List AV}{vs:List Value}(h:B6 C args vs){m:Nat}(hm:args.length≤m):
  BO C (args.zipIdx.map fun p=>(p.2,p.1)) {tmps:=vs.toArray++nf (m-vs.toArray.size) undef,defers:=[]} m:=by
 have hl:=h.length
 refine⟨fun t=> ?_,by simp;omega,rfl⟩
 rw[nU,qn (ib _),m7]
 cases ht:args[t]? with
 |none=>trivial
 |some v=>
  obtain⟨x,hx,r⟩:=h.get ht
  have:t<vs.length:=Bl hx
  simp only[iq,dh]
  rw[j6 (by simpa using this)]
  simpa [hx]using r
theorem eM{fn:CI}{g:Nat}(h:yG T P fn g=true): ∃(F:Func) (c:Code),P.funcs[g]? =some F∧F.body=some c∧Te T fn.nt fn.body c=true∧(F.name== "runtime.NumGoroutine")=false∧fn.nt=F.ntmps∧fn.np≤fn.nt∧
  QC P fn.res F.results.toList=true:=by
 unfold yG at h
 split at h
 ·rename_i F hF
  simp only[af,cg,beq_iff_eq,qp]at h
  obtain⟨⟨⟨⟨h1,h2⟩,h3⟩,h4⟩,h5⟩:=h
  split at h1
  ·rename_i c hc
   exact⟨F,c,hF,hc,h1,h2,h3,h4,h5⟩
  ·cases h1
 ·cases h
theorem aK(hm:P.follows .mixedOrders=true)(hT: ∀ao o,T ao o=true→EN P tb ao o)(hcl:Fh P tb fun g args h=>BK tb cl h g args)(hg: ∀g cs,tb.gl g=some cs→B0 cs=0)
  {fn:CI} {g:Nat} (hok:yG T P fn g=true) {C:DR} {args:List AV} {vs:List Value} {r:AV×Option Az} (I:Inv tb C) (hr:B6 C args vs) (h:body tb cl fn args C.H=some r):
  Calls P g vs.toArray C.w (wS tb C r):=by
 obtain⟨F,c,hF,hc,h1,h2,h3,h4,h5⟩:=eM hok
 simp only[body]at h
 split at h
 ·rename_i hnp
  obtain⟨⟨e,f,h'⟩,he,h⟩:=ab.1 h
  refine calls_of_wp hF hc ?_
  rw[←h3]
  refine tG hm hT hcl hg fn.body c h1 he I (fr_args hr (by omega)) fun D a' N=> ?_
  obtain⟨X,ID,hH,FD⟩:=N
  have fin: ∀us,results f h' fn.res=some us→YX fn.warm C.H.length h' us=r→ ∃v,(ox F a'.tmps).run P D.w= .ok v D.w∧wS tb C r (.returned v) D.w:=by
   intro us hus hl
   rw[←hH]at hus hl
   obtain⟨xs,hx,rx⟩:=mD ID FD h5 hus
   obtain⟨D',X',I',hw,hH',r'⟩:=rC (warm:=fn.warm) X ID hg rx
   rw[hl]at hH' r'
   exact⟨_,hx,_,D',rfl,X',I',hw,hH',r'⟩
  cases e with
  |exit id=>simp at h
  |normal=>
   obtain⟨us,hus,hl⟩:=aj.1 h
   exact⟨FD.defers,fin us hus hl⟩
  |ret=>
   obtain⟨us,hus,hl⟩:=aj.1 h
   exact⟨FD.defers,fin us hus hl⟩
 ·cases h
structure Fits(T:HB→Oper→Bool)(P:Program)(tb:Di):Prop where
 mixed:P.follows .mixedOrders=true
 ops: ∀ao o,T ao o=true→EN P tb ao o
 prims:wQ P tb
 gl: ∀g cs,tb.gl g=some cs→B0 cs=0
 fns: ∀g fn,tb.fns g=some fn→yG T P fn g=true
theorem pA{fn:CI}{g:Nat}(hok:yG T P fn g=true)(vs:Array Value)(w:World):(callFunc g vs).run P w= .ok (.enter g vs) w:=by
 obtain⟨F,c,hF,hc,_,h2,_⟩:=eM hok
 have h2': ¬F.name= "runtime.NumGoroutine" :=by simpa using h2
 simp[callFunc,hF,hc,h2']
theorem dU(ft:Fits T P tb): ∀n,Fh P tb (run tb n)
 |0=>fun g C args vs r I hr h=>by simp[run]at h
 |n+1=>fun g C args vs r I hr h=>by
  simp only[run]at h
  obtain⟨fn,hfn,h⟩:=ab.1 h
  have hok:=ft.fns g fn hfn
  exact .inr ⟨g,vs.toArray,pA hok _ _,aK ft.mixed ft.ops (Qe ft.prims (dU ft n)) ft.gl hok I hr h⟩
theorem zP(ft:Fits T P tb){g:Nat}{C:DR}{args:List AV}{vs:List Value}{r:AV×Option Az}(I:Inv tb C)(hr:B6 C args vs)(h:CC tb g args C.H=some r):Calls P g vs.toArray C.w (wS tb C r):=by
 unfold CC at h
 split at h
 ·generalize d5 _=n at h
  cases n with
  |zero=>simp[run]at h
  |succ n=>
   simp only[run]at h
   obtain⟨fn,hfn,h⟩:=ab.1 h
   exact aK ft.mixed ft.ops (Qe ft.prims (dU ft n)) ft.gl (ft.fns g fn hfn) I hr h
 ·cases h
end
end
section
def jZ(P:Program)(g:Nat):Option (Array Value→Sem Value):=
 match P.funcs[g]? with
 |some fn=>if !(fn.name== "runtime.NumGoroutine")&&fn.body.isNone&&(Extern.findNext fn).isNone then Extern.find fn else none
 |none=>none
def kP(h:Az):AV→Option (List UInt8)
 | .s l=>some l
 |v=>(E4 h 1 v).bind EY
section
variable{P:Program}{tb:Di}{C:DR}
theorem vB{g:Nat}{e:Array Value→Sem Value}(he:jZ P g=some e){vs:Array Value}{v:Value}{w:World}(h:(e vs).run P w= .ok v w):(callFunc g vs).run P w= .ok (.value v) w:=by
 unfold jZ at he
 split at he
 ·rename_i fn hf
  split at he
  ·rename_i hc
   simp only[af,cg,Option.isNone_iff_eq_none]at hc
   obtain⟨⟨h1,h2⟩,h3⟩:=hc
   have h2':fn.body.isNone=true:=by rw[h2];rfl
   simp only[callFunc,Sem.run_bind,run_program,Result.andThen_ok,hf,h1,au,qu,h2',qt,run_mark,h3,he,h,Sem.run_pure]
  ·cases he
 ·cases he
theorem zS{e:List AV}{r:List (List AV)}{l:List UInt8}(h:EY (e::r)=some l): ∃n q,e=[.i .u8 n]∧EY r=some q∧l=bc n.toNat::q:=by
 unfold EY at h
 split at h
 ·rename_i he;cases he
 ·rename_i n r' he
  cases he
  obtain⟨q,hq,rfl⟩:=aj.1 h
  exact⟨n,q,rfl,hq,rfl⟩
 ·cases h
theorem run_lb(w:World)(b:Nat): ∀(els:List (List AV)) (vss:List (List Value)) (l:List UInt8) (o:Nat) (acc:ByteArray),Bk C els vss→EY els=some l→Ev w b o vss.flatten→
  (k0 ⟨b,o,none⟩ els.length acc).run P w= .ok ⟨acc.data++l.toArray⟩ w
 |[],_,l,o,acc,_,h,_=>by
  simp only[EY,ae]at h
  subst h
  simp[k0]
 |e::els,vss,l,o,acc,⟨v,q,e1,r1,r2⟩,h,hh=>by
  subst e1
  obtain⟨n,l',rfl,hl,rfl⟩:=zS h
  obtain⟨u,us,e2,ru,e3⟩:=r1
  have e3':us=[]:=e3
  have ru':u= .int .u8 n:=ru
  subst e3';subst e2;subst ru'
  have h0:w.cell? ⟨b,o,none⟩=some (.int .u8 n):=by
   have:=hh 0 (.int .u8 n) (by simp)
   simpa using this
  have hn:(⟨b,o,none⟩:Addr).add 1=⟨b,o+1,none⟩:=rfl
  have ih:=run_lb w b els q l' (o+1) (acc.push n.toNat.toUInt8) r2 hl (fun j v hj=>by
   have:=hh (j+1) v (by simpa using hj)
   rw[show o+1+j=o+(j+1) by omega]
   exact this)
  simp only[bb,k0,Sem.run_bind,run_load,h0,Result.andThen_ok,hn,ih]
  congr 1
  apply kq
  simp[nw,Nat.toUInt8]
theorem xE(I:Inv tb C){x:AV}{v:Value}{l:List UInt8}(r:HG C x v)(h:kP C.H x=some l):(ic v).run P C.w= .ok ⟨l.toArray⟩ C.w:=by
 have slc:(E4 C.H 1 x).bind EY=some l→(ic v).run P C.w= .ok ⟨l.toArray⟩ C.w:=by
  intro h
  obtain⟨els,he,hl⟩:=ab.1 h
  rcases kC I (by omega) r he with ⟨rfl,e⟩|⟨q,cap,vss,e,hlc,hh,hs,hr⟩
  ·subst e
   simp only[EY,ae]at hl
   subst hl
   rfl
  ·subst e
   by_cases hne:els=[]
   ·subst hne
    simp only[EY,ae]at hl
    subst hl
    rfl
   ·obtain⟨b,base,rfl,hh2⟩:=hh hne
    have:=run_lb (P:=P) (C:=C) C.w b els vss l base .empty hr hl hh2
    simp only[ic,this]
    congr 1
    apply kq
    show(#[]:Array UInt8)++l.toArray=l.toArray
    simp
 cases x<;>simp only[kP]at h<;>try exact slc h
 obtain rfl:=bf h
 have e:v= .string ⟨_⟩:=r
 subst e
 rfl
end
end
section
def O9(l:List UInt8)(c:UInt8):Int:=match l.findIdx? (fun x=>x==c)with
 |some i=>(i:Int)
 |none=> -1
def tP(l:List UInt8)(c:UInt8):Int:=(l.countP (fun x=>x==c):Int)
def byteA:AV→Option UInt8
 | .i .u8 n=>some (bc n.toNat)
 |_=>none
def eJ(f:List UInt8→UInt8→Int):List AV→Az→Option (AV×Option Az)
 |[x,y],h=>(byteA y).bind fun c=>(kP h x).map fun a=>(.i .i64 (f a c),none)
 |_,_=>none
def Ze:List AV→Az→Option (AV×Option Az):=eJ O9
def pCount:List AV→Az→Option (AV×Option Az):=eJ tP
theorem find_range{l:List UInt8}{c:UInt8}:((ik l.length).find? fun i=>l.toArray[i]! ==c)=l.findIdx? (fun x=>x==c):=by
 have key: ∀(m:List UInt8) (k:Nat),k+m.length=l.length→(∀i,m[i]? =l[k+i]?)→((fh k m.length).find? fun i=>l.toArray[i]! ==c)=(m.findIdx? (fun x=>x==c)).map (k+ ·):=by
  intro m
  induction m with
  |nil=>intro k _ _;rfl
  |cons x m ih=>
   intro k hk he
   have h0:l.toArray[k]! =x:=by
    have:=he 0
    simp only[bx,ja]at this
    simp[←this]
   rw[bb,kg,List.find?_cons,h0,mb]
   cases hx:x==c with
   |true=>simp
   |false=>
    simp only[au,qu]
    rw[ih (k+1) (by simp at hk;omega) (fun i=>by have:=he (i+1);simp only[c0]at this;rw[this];congr 1;omega)]
    cases m.findIdx? (fun x=>x==c)with
    |none=>rfl
    |some i=>simp;omega
 have:=key l 0 (by simp) (fun i=>by simp)
 rw[lh,this]
 cases l.findIdx? (fun x=>x==c)<;>simp
theorem run_find{l:List UInt8}{c:UInt8}:(match(ik (⟨l.toArray⟩:ByteArray).size).find? fun i=>(⟨l.toArray⟩:ByteArray)[i]! ==c with
  |some i=>goInt i
  |none=>goInt (-1))= .int .i64 (O9 l c):=by
 have h:(ik (⟨l.toArray⟩:ByteArray).size).find? (fun i=>(⟨l.toArray⟩:ByteArray)[i]! ==c)=l.findIdx? (fun x=>x==c):=by
  rw[←find_range]
  congr 1
  funext i
  congr 1
  by_cases hi:i<l.length
  ·rw[getElem!_pos _ _ (by simpa [l9]using hi),getElem!_pos _ _ (by simpa using hi)];rfl
  ·rw[getElem!_neg _ _ (by simpa [l9]using hi),getElem!_neg _ _ (by simpa using hi)]
 rw[h]
 unfold O9
 cases l.findIdx? (fun x=>x==c)<;>rfl
theorem xD{l:List UInt8}{c:UInt8}:(⟨l.toArray⟩:ByteArray).foldl (fun(n:Int) x=>if x==c then n+1 else n) ((0:Nat):Int)=(l.countP (fun x=>x==c):Int):=by
 rw[Lib.foldl_data]
 have: ∀(l:List UInt8) (k:Int),l.foldl (fun n x=>if x==c then n+1 else n) k=k+(l.countP (fun x=>x==c):Int):=by
  intro l
  induction l with
  |nil=>intro k;simp
  |cons x l ih=>
   intro k
   rw[ll,ih,List.countP_cons]
   split<;>simp<;>omega
 rw[this];simp
section
variable{P:Program}{tb:Di}
theorem eC{g:Nat}{f:List UInt8→UInt8→Int}{e:Array Value→Sem Value}(he:jZ P g=some e)
  (hf: ∀(v:Value) (n:Int) (l:List UInt8) (w:World),(ic v).run P w= .ok ⟨l.toArray⟩ w→(e #[v, .int .u8 n]).run P w= .ok (.int .i64 (f l (bc n.toNat))) w):Fh P tb fun g' args h=>if g'=g then eJ f args h else none:=by
 intro g' D args vs r I hr h
 dsimp only at h
 split at h
 ·rename_i hg
  subst hg
  unfold eJ at h
  split at h
  ·rename_i hh x y
   obtain⟨v,vs',e1,r1,v2,vs2,e2,r2,e3⟩:=hr
   have e3':vs2=[]:=e3
   subst e3';subst e2;subst e1
   obtain⟨c,hc,h⟩:=ab.1 h
   obtain⟨a,ha,rfl⟩:=aj.1 h
   unfold byteA at hc
   cases y with
   |i k n=>
    have r2':v2= .int k n:=r2
    subst r2'
    cases k<;>simp only[reduceCtorEq,ae]at hc
    subst hc
    exact .inl (A9 I (v:= .int .i64 (f a (bc n.toNat))) (vB he (hf v n a D.w (xE (P:=P) I r1 ha))) rfl)
   |_=>cases hc
  ·cases h
 ·cases h
theorem Za{g:Nat}(he:jZ P g=some kw):Fh P tb fun g' args h=>if g'=g then Ze args h else none:=
 eC he fun v n l w h=>by
  change py P (do
   let b←ic v
   let c←ko (.int .u8 n)
   match(ik b.size).find? fun i=>b[i]! ==c with
   |some i=>pure (goInt i)
   |none=>pure (goInt (-1))) w=_
  simp only[Sem.run_bind,h,Result.andThen_ok,ko,Sem.run_pure]
  have:=run_find (l:=l) (c:=bc n.toNat)
  have hc:n.toNat.toUInt8=bc n.toNat:=rfl
  rw[hc]
  split<;>rename_i hx<;>rw[hx]at this<;>simp only[]at this<;>rw[←this]<;>rfl
theorem rF{g:Nat}(he:jZ P g=some mf):Fh P tb fun g' args h=>if g'=g then pCount args h else none:=
 eC he fun v n l w h=>by
  change py P (do
   let b←ic v
   let c←ko (.int .u8 n)
   pure (goInt (b.foldl (fun(n:Int) x=>if x==c then n+1 else n) ((0:Nat):Int)))) w=_
  simp only[Sem.run_bind,h,Result.andThen_ok,ko,Sem.run_pure]
  have hc:n.toNat.toUInt8=bc n.toNat:=rfl
  rw[hc,xD];rfl
end
def PW:List AV→Az→Option (AV×Option Az)
 |[x],_=>some (x,none)
 |_,_=>none
theorem xW{P:Program}{tb:Di}{g:Nat}(he:jZ P g=some mu):Fh P tb fun g' args h=>if g'=g then PW args h else none:=by
 intro g' D args vs r I hr h
 dsimp only at h
 split at h
 ·rename_i hg
  subst hg
  unfold PW at h
  split at h
  ·cases h
   obtain⟨v,vs',e1,r1,e3⟩:=hr
   have e3':vs'=[]:=e3
   subst e3';subst e1
   exact .inl (A9 I (v:=v) (vB he rfl) r1)
  ·cases h
 ·cases h
end
section
section
variable{tb:Di}{Γ:Cx}{a b:AO}
inductive lE(tb:Di)(Γ:Cx):(As:List T)→List AO→Cl As→Prop where
 |nil:lE tb Γ [] [] ()
 |one {a:AO} {t:T} {x:t.α} (h:Cd tb Γ a (.val t x)):lE tb Γ [t] [a] x
 |cons {a:AO} {t u:T} {x:t.α} {As:List T} {l:List AO} {y:Cl (u::As)} (h:Cd tb Γ a (.val t x)) (k:lE tb Γ (u::As) l y):lE tb Γ (t::u::As) (a::l) (x,y)
theorem lE.spec{E:R7}{rv:Nat→AV}{fp:Fp}{f:Fr}{H:Az}(R:B8 E Γ rv fp f H): ∀{As:List T} {l:List AO} {x:Cl As},lE tb Γ As l x→TK (Pf E Γ.ss fp H) H As (l.map (eval tb f)) x
 |_,_,_, .nil=>rfl
 |_,_,_, .one h=>⟨_,rfl,h E rv fp f H R⟩
 |_,_,_, .cons h k=>⟨_,_,rfl,h E rv fp f H R,k.spec R⟩
def tupL:(Rs:List T)→Cl Rs→List (Σ t:T,t.α)
 |[],_=>[]
 |[a],x=>[⟨a,x⟩]
 |a::b::r,x=>⟨a,x.1⟩::tupL (b::r) x.2
theorem lN{P:Nat→Prop}{H:Az}: ∀{Rs:List T} {vs:List AV} {x:Cl Rs},TK P H Rs vs x→UP P H vs (tupL Rs x)
 |[],_,_,h=>by rw[show _=[]from h];trivial
 |[a],_,_,⟨v,e,h⟩=>by rw[e];exact⟨h,trivial⟩
 |a::b::r,_,_,⟨v,q,e,h,g⟩=>by rw[e];exact⟨h,lN g⟩
def outF:(Rs:List T)→Cl Rs→AW
 |[a],x=> .val a x
 |Rs,x=> .tup (tupL Rs x)
theorem Zf{rv:Nat→AV}{ss:Ss}{P:Nat→Prop}{H:Az}{v:AV}: ∀{Rs:List T} {x:Cl Rs},OutR P H Rs v x→FR rv ss P H (outF Rs x) v
 |[],_,⟨vs,e,h⟩=>by rw[e,show vs=[]from h];exact⟨[],rfl,trivial⟩
 |[a],_,⟨vs,e,v,e',h⟩=>by rw[e,e'];exact h
 |a::b::r,_,⟨vs,e,h⟩=>by
  have hh:=h
  obtain⟨v1,q,e1,h1,h2⟩:=h
  have: ∃v2 q2,q=v2::q2:=by
   cases r with
   |nil=>obtain⟨v2,e2,_⟩:=h2;exact⟨v2,[],e2⟩
   |cons c r=>obtain⟨v2,q2,e2,_⟩:=h2;exact⟨v2,q2,e2⟩
  obtain⟨v2,q2,e2⟩:=this
  refine⟨vs,?_,lN hh⟩
  rw[e,e1,e2];rfl
theorem h_call{g:Nat}{As Rs:List T}{F:Cl As→Option (Cl Rs)}{l:List AO}{x:Cl As}(sp:Spec tb g As Rs F)(hx:lE tb Γ As l x):Fa tb Γ (.call g l) (F x) fun r=>outF Rs r:=by
 intro E rv fp f H R r hr
 obtain⟨v,u,h1,h2,h3⟩:=(sp (Pf E Γ.ss fp H) H _ x R.ltP R.wf (hx.spec R) r hr).call
 exact⟨v,u,by simp only[BC];exact h1,h2,Zf h3⟩
theorem A7{g:Nat}{As:List T}{t:T}{F:Cl As→Option (Cl [t])}{l:List AO}{x:Cl As}(sp:Spec tb g As [t] F)(hx:lE tb Γ As l x):Fa tb Γ (.call g l) (F x) fun r:t.α=> .val t r:=h_call sp hx
theorem Bn{g:Nat}{As:List T}{t u:T}{Rs:List T}{F:Cl As→Option (Cl (t::u::Rs))}{l:List AO}{x:Cl As}(sp:Spec tb g As (t::u::Rs) F)(hx:lE tb Γ As l x):Fa tb Γ (.call g l) (F x) fun r=> .tup (tupL (t::u::Rs) r):=h_call sp hx
theorem AY{l:List (Σ t:T,t.α)}{i:Nat}{t:T}{x:t.α}(ha:Cd tb Γ a (.tup l))(h:l[i]? =some ⟨t,x⟩):Fa tb Γ (.ext a i) (some ()) fun _=> .val t x:=by
 rintro E rv fp f H R _ ⟨⟩
 obtain⟨vs,e,hv⟩:=ha E rv fp f H R
 have: ∀{vs:List AV} {l:List (Σ t:T,t.α)} {i:Nat} {p: Σ t:T,t.α},UP (Pf E Γ.ss fp H) H vs l→l[i]? =some p→ ∃v,vs[i]? =some v∧p.1.V (Pf E Γ.ss fp H) H v p.2:=by
  intro vs
  induction vs with
  |nil=>intro l i p h e;cases l with|nil=>simp at e|cons=>exact h.elim
  |cons v vs ih=>
   intro l i p h e
   cases l with
   |nil=>exact h.elim
   |cons q l=>
    cases i with
    |zero=>simp only[bx,ae]at e;subst e;exact⟨v,rfl,h.1⟩
    |succ i=>simp only[c0]at e;obtain⟨w,h1,h2⟩:=ih h.2 e;exact⟨w,by simpa using h1,h2⟩
 obtain⟨v,h1,h2⟩:=this hv h
 exact⟨v,none,by simp only[BC,e,h1,val,an],rfl,h2⟩
end
structure FG(t:T)(l:List CK) where
 d:(x y:t.α)→Decidable (x=y)
 h: ∀{P Q:Nat→Prop} {H G:Az} {c c':List AV} {x y:t.α},t.R P H c x→t.R Q G c' y→QZ l c c'=some (@decide (x=y) (d x y))
theorem vU{l m:List CK}: ∀{c d c' d':List AV} {p q:Bool},QZ l c c'=some p→QZ m d d'=some q→QZ (l++m) (c++d) (c'++d')=some (p&&q):=by
 induction l with
 |nil=>
  intro c d c' d' p q h g
  match c,c',h with
  |[],[],h=>simp only[QZ,ae]at h;subst h;simpa using g
 |cons k l ih=>
  intro c d c' d' p q h g
  match c,c',h with
  |[],[],h=>simp[QZ]at h
  |[],_::_,h=>simp[QZ]at h
  |_::_,[],h=>simp[QZ]at h
  |x::c,y::c',h=>
   simp only[QZ]at h
   obtain⟨e,he,h⟩:=ab.1 h
   obtain⟨e',he',rfl⟩:=aj.1 h
   simp only[dt,QZ,he,aa,ih he' g,an,Bool.and_assoc]
theorem wI{p q:Prop}{d:Decidable p}{e:Decidable q}(h:p↔q): @decide p d= @decide q e:=by
 rw[i8];simp only[qp];exact h
theorem dec_of{p:Prop}{d:Decidable p}{q:Bool}(h:q=true↔p):q= @decide p d:=by
 rw[i8];simp only[qp];exact h
def lC{α:Type}{c:α→AV}{z:α}{hs: ∀x,scal (c x)=true}{hm: ∀x,Cc (c x)=0}(k:CK)(d:(x y:α)→Decidable (x=y))(h: ∀x y,eq1 k (c x) (c y)=some (@decide (x=y) (d x y))):FG (TL α c z hs hm) [k]:=
 ⟨d,fun{P Q H G c' d' x y} h1 h2=>by
  rw[show c'=_ from h1,show d'=_ from h2]
  show(eq1 k (c x) (c y)).bind (fun a=>(some true).map fun b=>a&&b)=_
  rw[h x y]
  simp only[aa,an,kp]
  rfl⟩
def FG.b:FG di [.b]:=lC .b (fun x y=>inferInstance) fun x y=>by cases x<;>cases y<;>rfl
def FG.int(k:IntKind):FG (ah k) [.i k]:=lC (.i k) (fun x y=>inferInstance) fun x y=>by simp only[eq1,and_self,qt];rfl
theorem eq_nat{x y:Nat}:((x:Int)==(y:Int))=decide (x=y):=by
 rw[i8];simp only[beq_iff_eq,qp];omega
def FG.u8:FG a7 [.i .u8]:=lC (.i .u8) (fun x y=>inferInstance) fun x y=>by
 simp only[eq1,and_self,qt,eq_nat];congr 1;exact wI ef
def gA{s t:T}{l m:List CK}(p:FG s l)(q:FG t m):FG (G5 s t) (l++m):=
 ⟨fun x y=> @decidable_of_iff _ (x.1=y.1∧x.2=y.2) ⟨fun h=>Prod.ext h.1 h.2,fun h=>by rw[h];exact⟨rfl,rfl⟩⟩ (have:=p.d x.1 y.1;have:=q.d x.2 y.2;inferInstance),fun{P Q H G c c' x y} ⟨c1,d1,e1,h1,g1⟩ ⟨c2,d2,e2,h2,g2⟩=>by
  rw[e1,e2,vU (p.h h1 h2) (q.h g1 g2)]
  congr 1
  rw[i8]
  simp only[af,qp]
  exact⟨fun h=>Prod.ext h.1 h.2,fun h=>by rw[h];exact⟨rfl,rfl⟩⟩⟩
def qJ{t:T}{l:List CK}{β:Type}{f:β→t.α}{g:t.α→β}{hfg: ∀y,f (g y)=y}(p:FG t l)(d:(x y:β)→Decidable (x=y))(hi: ∀x y,f x=f y→x=y):FG (UQ t β f g hfg) l:=
 ⟨d,fun{P Q H G c c' x y} h1 h2=>by
  have:=p.h (x:=f x) (y:=f y) h1 h2
  rw[this]
  congr 1
  exact wI ⟨hi x y,fun h=>by rw[h]⟩⟩
def repK(l:List CK):Nat→List CK
 |0=>[]
 |n+1=>l++repK l n
theorem FG.all{t:T}{l:List CK}(p:FG t l){P Q:Nat→Prop}{H G:Az}: ∀{c c':List (List AV)} {x y:List t.α},x.length=y.length→CL t P H c x→CL t Q G c' y→ ∃q,QZ (repK l x.length) c.flatten c'.flatten=some q∧(q=true↔x=y):=by
 intro c
 induction c with
 |nil=>
  intro c' x y hl h1 h2
  match x,h1 with
  |[],_=>
   match c',y,h2,hl with
   |[],[],_,_=>exact⟨true,rfl,by simp⟩
   |_::_,_::_,_,hl=>simp at hl
 |cons a c ih=>
  intro c' x y hl h1 h2
  match x,h1 with
  |u::x,h1=>
   match c',y,h2 with
   |[],[],_=>simp at hl
   |a'::c',v::y,h2=>
    obtain⟨q,e,hq⟩:=ih (by simpa using hl) h1.2 h2.2
    refine⟨_,by rw[bb,repK,bm,bm];exact vU (p.h h1.1 h2.1) e,?_⟩
    simp only[af,qp,hq,lj]
def FG.arr{t:T}{l:List CK}(n:Nat)(p:FG t l):FG (ak n t) (repK l n):=
 ⟨fun(x y:Ar t.α n)=> @decidable_of_iff _ (x.l=y.l) ⟨fun h=>pi h,fun h=>by rw[h]⟩ (have:DecidableEq t.α:=p.d;inferInstance),fun{P Q H G c c' x y} ⟨cs,e,h⟩ ⟨ds,e',h'⟩=>by
  obtain⟨q,hq,hi⟩:=p.all (x.len.trans y.len.symm) h h'
  rw[x.len]at hq
  rw[e,e',hq]
  congr 1
  exact dec_of (hi.trans ⟨fun h=>pi h,fun h=>by rw[h]⟩)⟩
section
variable{tb:Di}{Γ:Cx}{a b:AO}
theorem h_eq{t:T}{l l':List CK}{x y:t.α}{neg:Bool}(p:FG t l)(ht:t.agg=true)(hl:l'=l)(ha:Cd tb Γ a (.val t x))(hb:Cd tb Γ b (.val t y)):Fa tb Γ (.eq neg (.agg l') a b) (some (if neg then !(@decide (x=y) (p.d x y))else @decide (x=y) (p.d x y))) fun z=> .val di z:=by
 rintro E rv fp f H R z ⟨⟩
 subst hl
 rcases ha E rv fp f H R with ⟨_,c,e,r⟩|⟨e,_⟩
 ·rcases hb E rv fp f H R with ⟨_,c',e',r'⟩|⟨e',_⟩
  ·exact⟨_,none,by simp only[BC,e,e',qL,p.h r r',an,val],rfl,F1.2 rfl⟩
  ·rw[ht]at e';cases e'
 ·rw[ht]at e;cases e
theorem h_eqb{x y:Bool}{neg:Bool}(ha:Cd tb Γ a (.val di x))(hb:Cd tb Γ b (.val di y)):Fa tb Γ (.eq neg (.one .b) a b) (some (if neg then !decide (x=y)else decide (x=y))) fun z=> .val di z:=by
 rintro E rv fp f H R z ⟨⟩
 have h:eq1 .b (.b x) (.b y)=some (decide (x=y)):=by cases x<;>cases y<;>rfl
 exact⟨_,none,by simp only[BC,F1.1 (ha E rv fp f H R),F1.1 (hb E rv fp f H R),qL,h,an,val],rfl,F1.2 rfl⟩
theorem Fc{s t:T}{x:s.α}{y:t.α}{n j o o' m k N:Nat}{ps:List (Nat×AW)}(F:AR s (ak n t) o')(hk:k=t.sz)(ha:Cd tb Γ a (.cp j (o+m*t.sz)))(hb:Cd tb Γ b (.val t y))(hj:AM Γ.ss j=some (.cells ps))(hp:L8 ps o=some (N, .val s x,o')):
  XN tb Γ none (.st k a b) (if m<n then some (F.put x ((F.get x).set m y))else none) fun x'=>Γ.setS j (.cells (X0 ps o (.val s x'))):=by
 intro E rv fp f H R x' hx'
 split at hx'
 ·rename_i hlt
  cases hx'
  obtain⟨l,id,e,hv⟩:=ha E rv fp f H R
  obtain⟨cs,h0,h2,h3⟩:=Ho R hj e
  obtain⟨b',c,e0,e1,e2,e3,e4,e5,e6⟩:=Ha h3 hp
  let G:=Ko F (AR.at n t m hlt)
  have hle:=G.le
  have hl:=s.len e4
  have hy:=k9 (hb E rv fp f H R)
  have hyl:=t.len hy
  have hput:=G.putR e4 hy
  have hpr:=e6 (o'+m*t.sz) (cellsOf (eval tb f b)) (.val s (G.put x y)) (by omega) hput
  rw[show b'+(o'+m*t.sz)=o+m*t.sz by omega]at hpr
  have hmen:=qg R.ltP R.rvlt h3
  have hym:=t.men hy R.ltP
  subst hk
  have hlt':=(R.fplt j id l ((h0 id).2 rfl)).1
  obtain⟨rv',fp',_,_,R'⟩:=R.set (j:=j) (S:= .cells (X0 ps o (.val s (G.put x y)))) (v:=rv j) (o:= .cells (ED H id) (BA cs (o+m*t.sz) (cellsOf (eval tb f b)))) (by rw[hj];rfl) l h0 (by simp only[E7];exact Ph hmen hym) rfl (R.rvlt j l) (.inl rfl) (R.scal j l) fun rv' fp' e1 e2 hP hs=>
   ⟨id,_,by rw[e1,e],e2,by simp[C3,hlt'],o8 hP (by simp) (fun p _=>hs p.2 (.inl rfl)) hpr⟩
  refine⟨.junk,some (H.set id (CB.cells (ED H id) (BA cs (o+m*t.sz) (cellsOf (eval tb f b))))),?_,rv',fp',R'⟩
  simp only[BC,hv,store,h2,aa]
  rw[qn ⟨hyl,by omega⟩]
  rfl
 ·cases hx'
theorem B2{s t:T}{x:s.α}{n j o o' N m:Nat}{ag:Bool}{ps:List (Nat×AW)}(h:BM Γ.ts n=some (.cp j o))(hj:AM Γ.ss j=some (.cells ps))(hp:L8 ps o=some (N, .val s x,o'))(F:AR s t o')(hag:ag=t.agg)(hm:m=t.sz):Aa1 Γ (.cell ag m n) t (F.get x):=by
 intro E rv fp f H R r vs hr
 obtain⟨v,u,h1,_,h3⟩:=AF (tb:=⟨fun _=>none,fun _=>none,fun _=>none,[]⟩) (BT h) hj hp F hag hm E rv fp f H R () rfl
 refine⟨v,?_,h3⟩
 simp only[BC,eval,val]at h1
 obtain⟨w,hw,e⟩:=aj.1 h1
 cases e
 simp only[results,hw,aa,hr,an]
theorem SO{t:T}{zero:List (List AV)}{d t0 sz n:Nat}{ps:List (Nat×AO)}{l:List t.α}(j:Nat)(hs:sz=t.sz)(hz:zero=aq n t.zc)(h:uO tb Γ t ps (aq n t.z) l)(hj:AM Γ.ss j=none):
  XN tb Γ (some d) (.bls t0 sz zero ps) (some l) fun l=>⟨(d, .own j)::Γ.ts,(j, .row t (.mk l))::Γ.ss⟩:=by
 intro E rv fp f H R l' hl'
 cases hl'
 subst hz hs
 obtain⟨ds,h1,h2⟩:=h.spec R (qf (t.hz _ _) n)
 have hm:=h2.men R.ltP
 obtain⟨rv',fp',g1,g2,g3⟩:=R.more (j:=j) (S:= .row t (.mk l)) (v:= .orow H.length ds.length 0 ds.length) (o:= .row (some t0) false t.sz ds) (Ht hj) (by simp only[E7];omega) rfl (by simp[Cc]) rfl fun rv' fp' e1 e2 hP hs=>
  ⟨_,ds,e1,e2,by simp[rowAt],h2.mono hP⟩
 exact⟨.orow H.length ds.length 0 ds.length,some (H++[CB.row (some t0) false t.sz ds]),by simp only[BC,h1,an],rv',fp',g3.push (φ:= .own j) ⟨g2,g1.symm⟩⟩
end
def look{α:Type}(n:Nat):List (Nat×α)→Option α
 |[]=>none
 |(k,v)::r=>if fv n k then some v else look n r
theorem QH{α:Type}{n:Nat}{v:α}: ∀{l:List (Nat×α)},look n l=some v→(n,v)∈l
 |[],h=>by simp[look]at h
 |(k,u)::r,h=>by
  simp only[look]at h
  split at h
  ·rename_i e
   obtain rfl:=bf h
   obtain rfl:=cv e
   exact bj
  ·exact bg _ (QH h)
theorem aR{tb:Di}{g:Nat}{f:List UInt8→UInt8→Int}(hp:tb.prim g=some (eJ f)):Spec tb g [Ak,a7] [ah .i64] fun a=>some (f a.1 a.2):=by
 rintro P h args ⟨x,y⟩ _ _ ⟨v,q,rfl,h1,w,rfl,h2⟩ r hr
 cases hr
 refine⟨_,none,?_,rfl,[.i .i64 (f x y)],rfl,_,rfl,BX.2 rfl⟩
 have hy: ∀z:UInt8,bc ((z.toNat:Int)).toNat=z:=fun z=>by simp
 rw[Ep.1 h1,Wj.1 h2]
 simp only[BK,hp,eJ,byteA,kP,aa]
 show some (AV.i .i64 (f x (bc ((UInt8.toNat y:Nat):Int).toNat)),none)=_
 exact qv (fun c:UInt8=>(some (AV.i .i64 (f (show AG from x) c),(none:Option Az)))) (hy (show UInt8 from y))
end
section
section
variable{tb:Di}{Γ:Cx}{a b:AO}
theorem B4{j o:Nat}(ha:Cd tb Γ a (.cp j o)):Fa tb Γ (.nilc a) (some ()) fun _=> .cp j o:=by
 rintro E rv fp f H R z ⟨⟩
 obtain⟨l,id,e,hv⟩:=ha E rv fp f H R
 exact⟨.ptr id o,none,by simp only[BC,hv],rfl,l,id,e,rfl⟩
def T.Flat(t:T):Prop:= ∀{P Q:Nat→Prop} {H G:Az} {cs:List AV} {x:t.α},t.R P H cs x→t.R Q G cs x
theorem flat_int{k:IntKind}:(ah k).Flat:=fun h=>h
theorem flat_u64:fm.Flat:=fun h=>h
theorem QU:Ak.Flat:=fun h=>h
theorem T.Flat.V{t:T}(h:t.Flat){P Q:Nat→Prop}{H G:Az}{v:AV}{x:t.α}(r:t.V P H v x):t.V Q G v x:=by
 rcases r with ⟨a,cs,e,r⟩|⟨a,r⟩
 ·exact .inl ⟨a,cs,e,h r⟩
 ·exact .inr ⟨a,h r⟩
inductive Xd:List T→Prop where
 |nil:Xd []
 |cons {t:T} {l:List T}:t.Flat→Xd l→Xd (t::l)
theorem TK.flat{P Q:Nat→Prop}{H G:Az}: ∀{l:List T} {vs:List AV} {x:Cl l},Xd l→TK P H l vs x→TK Q G l vs x
 |[],_,_,_,h=>h
 |[a],_,_, .cons k _,⟨v,e,h⟩=>⟨v,e,k.V h⟩
 |_::_::_,_,_, .cons k l,⟨v,q,e,h,g⟩=>⟨v,q,e,k.V h,TK.flat l g⟩
def ArgP(tb:Di)(Γ:Cx)(a:AO)(t:T)(x:t.α):Prop:= ∀E rv fp f H,B8 E Γ rv fp f H→t.V (fun i=>i<H.length) H (eval tb f a) x
theorem a_v{t:T}{x:t.α}(h:Cd tb Γ a (.val t x)):ArgP tb Γ a t x:=fun E rv fp f H R=>T.V.mono (fun i hi=>⟨Pf.lt R.le hi,rfl⟩) (h E rv fp f H R)
inductive lD(tb:Di)(Γ:Cx):(As:List T)→List AO→Cl As→Prop where
 |one {a:AO} {t:T} {x:t.α} (h:ArgP tb Γ a t x):lD tb Γ [t] [a] x
 |cons {a:AO} {t u:T} {x:t.α} {As:List T} {l:List AO} {y:Cl (u::As)} (h:ArgP tb Γ a t x) (k:lD tb Γ (u::As) l y):lD tb Γ (t::u::As) (a::l) (x,y)
theorem lD.spec{E:R7}{rv:Nat→AV}{fp:Fp}{f:Fr}{H:Az}(R:B8 E Γ rv fp f H): ∀{As:List T} {l:List AO} {x:Cl As},lD tb Γ As l x→TK (fun i=>i<H.length) H As (l.map (eval tb f)) x
 |_,_,_, .one h=>⟨_,rfl,h E rv fp f H R⟩
 |_,_,_, .cons h k=>⟨_,_,rfl,h E rv fp f H R,k.spec R⟩
theorem h_callR{g:Nat}{As Rs:List T}{F:Cl As→Option (Cl Rs)}{l:List AO}{x:Cl As}(sp:Spec tb g As Rs F)(fl:Xd Rs)(hx:lD tb Γ As l x):Fa tb Γ (.call g l) (F x) fun r=>outF Rs r:=by
 intro E rv fp f H R r hr
 obtain⟨v,u,h1,h2,vs,h3,h4⟩:=(sp (fun i=>i<H.length) H _ x (fun _ h=>h) R.wf (hx.spec R) r hr).call
 exact⟨v,u,by simp only[BC];exact h1,h2,Zf ⟨vs,h3,h4.flat fl⟩⟩
end
end
section
def aV:Dom where
 α:=AG×Nat
 R:=fun F _ H v x=> ∃id,v= .ptr id 0∧(∀i,F i↔i=id)∧H[id]? =some (.iter x.1 x.2)
 lt:=fun⟨id,_,hF,h⟩ i hi=>by rw[(hF i).1 hi];exact(ca.1 h).1
 men:=fun⟨id,e,hF,_⟩ _ hm=>by rw[e];simp only[Cc];exact hm id ((hF id).2 rfl)
 mono:=fun _ g ⟨id,e,hF,h⟩=>⟨id,e,hF,by rw[g id ((hF id).2 rfl)];exact h⟩
def GM(s:AG)(pos:Nat):Int×Nat:=((gg ⟨s.toArray⟩ pos).1,(gg ⟨s.toArray⟩ pos).2)
section
variable{tb:Di}{Γ:Cx}{a b:AO}
theorem o_n8{x:UInt8}(h:Cd tb Γ a (.val a7 x)):Cd tb Γ a (.val (ah .u8) (x.toNat:Int)):=fun E rv fp f H R=>BX.2 (Wj.1 (h E rv fp f H R))
theorem o_n16{x:UInt16}(h:Cd tb Γ a (.val dr x)):Cd tb Γ a (.val (ah .u16) (x.toNat:Int)):=fun E rv fp f H R=>BX.2 (kY.1 (h E rv fp f H R))
theorem Nx{x:UInt32}(h:Cd tb Γ a (.val qd x)):Cd tb Γ a (.val (ah .u32) (x.toNat:Int)):=fun E rv fp f H R=>BX.2 (kX.1 (h E rv fp f H R))
theorem M_rng{s:AG}{d:Nat}(j:Nat)(hj:AM Γ.ss j=none)(ha:Cd tb Γ a (.val Ak s)):XN tb Γ (some d) (.rng a) (some ()) fun _=>⟨(d, .own j)::Γ.ts,(j, .dom aV (s,0))::Γ.ss⟩:=by
 rintro E rv fp f H R _ ⟨⟩
 obtain⟨rv',fp',h1,h2,h3⟩:=R.more (j:=j) (S:= .dom aV (s,0)) (v:= .ptr H.length 0) (o:= .iter s 0) (Ht hj) (by simp[E7]) rfl (by simp[Cc]) rfl fun rv' fp' e1 e2 hP hs=>
  ⟨_,e1,e2,by simp⟩
 refine⟨.ptr H.length 0,some (H++[CB.iter s 0]),by simp only[BC,Ep.1 (ha E rv fp f H R)],rv',fp',h3.push (d:=d) (φ:= .own j) ⟨h2,h1.symm⟩⟩
variable{ks:List Kf}{ρ:Type}{Q:Oj ρ}
def Aa.nxt{s:AG}{pos j d:Nat}{rest:List Br}(ha:Cd tb Γ a (.own j))(hj:AM Γ.ss j=some (.dom aV (s,pos)))
  (k1:(x:Int×Nat)→Aa tb ⟨(d, .tup [⟨di,true⟩,⟨ah .i64,((pos:Nat):Int)⟩,⟨ah .i32,x.1⟩])::Γ.ts,(j, .dom aV (s,pos+x.2))::Γ.ss⟩ (rg false rest) ks Q)
  (k2:Aa tb ⟨(d, .tup [⟨di,false⟩])::Γ.ts,Γ.ss⟩ (rg false rest) ks Q):Aa tb Γ (rg false (⟨some d,none, .nxt a⟩::rest)) ks Q:=
 ⟨if pos<s.length then(k1 (GM s pos)).m else k2.m,fun E f H ⟨rv,fp,I⟩ r hr=>by
  have hl:Bo Γ.ss j:=Nz hj rfl
  obtain⟨_,hv⟩:=ha E rv fp f H I
  obtain⟨id,e,hF,hH⟩:=I.slots j _ hj
  rw[e]at hv
  have hi:Zt H id=some (s,pos):=by simp only[Zt,hH]
  split at hr
  ·rename_i hp
   obtain⟨rv',fp',h1,h2,h3⟩:=I.set (j:=j) (S:= .dom aV (s,pos+(GM s pos).2)) (v:=rv j) (o:= .iter s (pos+(GM s pos).2)) (by rw[hj];rfl) hl hF (by simp[E7]) rfl (I.rvlt j hl) (.inl rfl) (I.scal j hl)
    fun rv' fp' e1 e2 hP _=>⟨id,by rw[e1,e],e2,by rw[dg (I.fplt j id hl ((hF id).2 rfl)).1]⟩
   have hx:BC tb (CC tb) (eval tb f) H (.nxt a)=some (.tup [.b true, .i .i64 pos, .i .i32 (GM s pos).1],some (H.set id (CB.iter s (pos+(GM s pos).2)))):=by
    simp only[BC,hv,hi,aa,qt,qn hp];rfl
   obtain⟨e',f',H',h4,h5⟩:=(k1 (GM s pos)).ok E _ _ ⟨rv',fp',h3.push (d:=d) (φ:= .tup [⟨di,true⟩,⟨ah .i64,((pos:Nat):Int)⟩,⟨ah .i32,(GM s pos).1⟩])
    ⟨[.b true, .i .i64 pos, .i .i32 (GM s pos).1],rfl,F1.2 rfl,BX.2 rfl,BX.2 rfl,trivial⟩⟩ r hr
   exact⟨e',f',H',by rw[Lj hx];exact h4,h5⟩
  ·rename_i hp
   have hx:BC tb (CC tb) (eval tb f) H (.nxt a)=some (.tup [.b false],none):=by
    simp only[BC,hv,hi,aa,qt,qo hp]
   obtain⟨e',f',H',h4,h5⟩:=k2.ok E _ H ⟨rv,fp,I.push (d:=d) (φ:= .tup [⟨di,false⟩]) ⟨[.b false],rfl,F1.2 rfl,trivial⟩⟩ r hr
   exact⟨e',f',H',by rw[Lj hx];exact h4,h5⟩⟩
def BJ{x y:AC}(h:Cd tb Γ a (.val di true))(s:Aa tb Γ x ks Q):Aa tb Γ (.cond a x y) ks Q:=
 ⟨s.m,fun E f H ⟨rv,fp,I⟩ r hr=>by
  have hv:=F1.1 (h E rv fp f H I)
  obtain⟨e,f',H',h4,h5⟩:=s.ok E f H ⟨rv,fp,I⟩ r hr
  exact⟨e,f',H',by simp only[Bj,hv,qt];exact h4,h5⟩⟩
def CG{x y:AC}(h:Cd tb Γ a (.val di false))(s:Aa tb Γ y ks Q):Aa tb Γ (.cond a x y) ks Q:=
 ⟨s.m,fun E f H ⟨rv,fp,I⟩ r hr=>by
  have hv:=F1.1 (h E rv fp f H I)
  obtain⟨e,f',H',h4,h5⟩:=s.ok E f H ⟨rv,fp,I⟩ r hr
  exact⟨e,f',H',by simp only[Bj,hv,au,qu];exact h4,h5⟩⟩
end
end
section
def RX:HB→Bool
 | .mv _=>true
 | .pick _ _ _=>true
 | .bld _ _=>true
 | .bll _ _ _=>true
 | .fa _ _=>true
 | .nilc _=>true
 | .bin _ _ _=>true
 | .eq _ _ _ _=>true
 | .un _ _=>true
 | .cvi _ _=>true
 | .cvid _=>true
 | .cvc _=>true
 | .mkf _ _ _=>true
 | .sls _ _ _=>true
 | .fld _ _ _ _=>true
 | .iaa _ _ _ _=>true
 | .ixa _ _ _ _ _=>true
 | .ixs _ _=>true
 | .ext _ _=>true
 | .mkif _ _=>true
 | .len _=>true
 | .lens _=>true
 | .mnx _ _ _=>true
 | .isni _ _=>true
 | .capn _=>true
 |_=>false
structure aX where
 o:HB
 v:AV
 c:Nat
def nY(d:Option Nat)(o:HB):Bool:=
 match d with
 |some d=>(opT o).all fun t=> !Nat.beq d t
 |none=>true
def QS(d:Option Nat):List aX→Bool
 |[]=>true
 |m::r=>nY d m.o&&QS d r
def kD:List aX→List aX
 |[]=>[]
 |m::r=>match m.c with
  |0=>kD r
  |1=>kD r
  |c+2=>{m with c:=c+1}::kD r
def QB(N k lo hi:Nat)(o:HB):Bool:=(fv lo k&&fv hi k)||(RX o&&oe hi N)
def pX(N k lo hi:Nat)(o:HB)(v:AV)(ms:List aX):List aX:=
 bif QB N k lo hi o then ms else⟨o,v,hi-k⟩::ms
def nK(N k lo hi:Nat)(d:Option Nat)(o:HB):Bool:=fv lo k&&(oe hi N&&nY d o)
structure Eob where
 ag:Bool
 n:Nat
 a:AV
 v:AV
 lo:Nat
def Nl(tb:Di)(cl:Nat→List AV→Az→Mb)(N:Nat):Nat→List aX→List Eob→List Br→List (Option (Nat×Nat))→Fr→Az→Fr×Az→Prop
 |k,_,_,[],[],f,h,p=>k=N∧p=(f,h)
 |k,ms,es,⟨d,g,o⟩::l,none::w,f,h,p=>(wanted f g=some true∧ ∃q es',BC tb cl (eval tb f) h o=some q∧QS d ms=true∧
   (∀m∈ms,0<m.c→ ∃u,BC tb cl (eval tb (put f d q.1)) (q.2.getD h) m.o=some (m.v,u)∧u.getD (q.2.getD h)=q.2.getD h)∧
   (∀e∈es',(e∈es∨e.lo=k)∧load h e.ag e.n e.a=some e.v)∧Nl tb cl N (k+1) (kD ms) es' l w (put f d q.1) (q.2.getD h) p)∨
   (wanted f g=some false∧ms=[]∧Nl tb cl N (k+1) [] [] l w (put f d (.tup [])) h p)
 |k,ms,es,⟨d,g,o⟩::l,some (lo,hi)::w,f,h,p=>(wanted f g=some true∧ ∃q,BC tb cl (eval tb f) h o=some q∧q.2.getD h=h∧QS d ms=true∧
   (((QB N k lo hi o||nK N k lo hi d o)=true∧Nl tb cl N k (pX N k lo hi o q.1 ms) es l w (put f d q.1) h p)∨
    (hi=k∧(∃e∈es,∃t,o= .ld e.ag e.n (.t t)∧get f t=e.a∧q.1=e.v∧e.lo≤lo)∧Nl tb cl N k ms es l w (put f d q.1) h p)))∨
   (wanted f g=some false∧QS d ms=true∧Nl tb cl N k ms es l w (put f d (.tup [])) h p)
 |_,_,_,_,_,_,_,_=>False
section
variable{tb:Di}{cl:Nat→List AV→Az→Mb}
theorem zV{o:HB}(ho:RX o=true){rho:AO→AV}{h h':Az}:BC tb cl rho h o=BC tb cl rho h' o:=by
 cases o<;>first|(simp only[RX,au]at ho;done)|rfl
theorem I1{x:Option AV}{p:AV×Option Az}(e:val x=some p):p.2=none:=by
 obtain⟨v,_,rfl⟩:=aj.1 e;rfl
theorem map_none{α:Type}{x:Option α}{f:α→AV}{p:AV×Option Az}(e:x.map (fun a=>(f a,(none:Option Az)))=some p):p.2=none:=by
 obtain⟨v,_,rfl⟩:=aj.1 e;rfl
theorem bind_none{α:Type}{x:Option α}{f:α→Mb}{p:AV×Option Az}(h: ∀a,f a=some p→p.2=none)(e:x.bind f=some p):p.2=none:=by
 obtain⟨v,_,e⟩:=ab.1 e;exact h v e
theorem aop_none{o:HB}(ho:RX o=true){rho:AO→AV}{h:Az}{p:AV×Option Az}(e:BC tb cl rho h o=some p):p.2=none:=by
 cases o<;>first|(simp only[RX,au]at ho;done)|skip
 case mv=>simp only[BC,ae]at e;subst e;rfl
 case pick=>simp only[BC]at e;split at e<;>first|(cases e;rfl)|cases e
 case bld=>exact I1 e
 case bll=>exact I1 e
 case nilc=>simp only[BC]at e;split at e<;>first|(cases e;rfl)|cases e
 case bin=>exact I1 e
 case eq=>exact I1 e
 case un=>exact I1 e
 case cvi=>simp only[BC]at e;split at e<;>first|(cases e;rfl)|cases e
 case cvid=>simp only[BC]at e;split at e<;>first|(cases e;rfl)|cases e
 case cvc=>simp only[BC]at e;split at e<;>first|(cases e;rfl)|cases e
 case mkf=>simp only[BC,ae]at e;subst e;rfl
 case sls=>simp only[BC]at e;split at e<;>first|exact map_none e|cases e
 case fa=>exact I1 e
 case fld=>simp only[BC]at e;split at e<;>first|cases e|(split at e<;>first|exact I1 e|cases e)
 case iaa=>exact bind_none (fun a e=>by split at e<;>first|exact I1 e|cases e) e
 case ixa=>exact bind_none (fun a e=>by split at e<;>first|cases e|(split at e<;>first|exact I1 e|cases e)) e
 case ixs=>exact bind_none (fun a e=>by split at e<;>first|cases e|(split at e<;>first|exact map_none e|cases e)) e
 case ext=>simp only[BC]at e;split at e<;>first|exact I1 e|cases e
 case mkif=>simp only[BC,ae]at e;subst e;rfl
 case len=>exact map_none e
 case lens=>simp only[BC]at e;split at e<;>first|(cases e;rfl)|cases e
 case isni=>simp only[BC]at e;split at e<;>first|(cases e;rfl)|cases e
 case capn=>simp only[BC]at e;split at e<;>first|(cases e;rfl)|cases e
 case mnx=>simp only[BC]at e;split at e<;>first|cases e|(split at e<;>first|(cases e;rfl)|cases e)
theorem tX{o:HB}(ho:RX o=true){rho:AO→AV}{h h':Az}{p:AV×Option Az}(e:BC tb cl rho h o=some p):BC tb cl rho h' o=some (p.1,none):=by
 rw[zV ho (h':=h),e]
 have:=aop_none ho e
 obtain⟨a,b⟩:=p
 simp only at this
 rw[this]
theorem aN{d:Option Nat}{f:Fr}{v:AV}{o:HB}(h:nY d o=true):Alike tb (put f d v) f (opT o):=by
 intro t ht
 cases d with
 |none=>rfl
 |some d=>
  have:=cd.1 h t ht
  simp only[cg]at this
  simp only[put,get]
  rw[qo fun e=>by rw[e,lu]at this;cases this]
theorem L2{d:Option Nat}{f:Fr}{v:AV}: ∀{ms:List aX},QS d ms=true→ ∀m∈ms,Alike tb (put f d v) f (opT m.o)
 |[],_,m,hm=>by cases hm
 |q::r,h,m,hm=>by
  simp only[QS,af]at h
  rcases bu.1 hm with rfl|hm
  ·exact aN h.1
  ·exact L2 h.2 m hm
def Keeps(tb:Di)(cl:Nat→List AV→Az→Mb)(f:Fr)(tl:List Az)(m:aX):Prop:= ∀i h',i<m.c→tl[i]? =some h'→ ∃u,BC tb cl (eval tb f) h' m.o=some (m.v,u)∧u.getD h'=h'
theorem pE: ∀{ms:List aX} {m:aX},m∈ms→1<m.c→{m with c:=m.c-1}∈kD ms
 |q::r,m,hm,hc=>by
  rcases bu.1 hm with rfl|hm
  ·obtain⟨o,v,c⟩:=m
   match c,hc with
   |c+2,_=>simp[kD]
  ·have:=pE hm hc
   simp only[kD]
   split
   ·exact this
   ·exact this
   ·exact bg _ this
theorem addM_mem{N k lo hi:Nat}{o:HB}{v:AV}{ms:List aX}{m:aX}(h:m∈ms):m∈pX N k lo hi o v ms:=by
 simp only[pX]
 cases QB N k lo hi o with
 |true=>exact h
 |false=>simp only[cond_false];simp[h]
theorem sD{N k lo hi:Nat}{d:Option Nat}{o:HB}(h:nK N k lo hi d o=true):lo=k∧hi≤N∧nY d o=true:=by
 simp only[nK,af]at h
 exact⟨cv h.1,i7 h.2.1,h.2.2⟩
open Classical in
theorem M1{N:Nat}: ∀{l:List Br} {k:Nat} {ms:List aX} {es:List Eob} {w:List (Option (Nat×Nat))} {f:Fr} {h:Az} {f':Fr} {h':Az},Nl tb cl N k ms es l w f h (f',h')→
  ∃tl,Ip tb cl l w f h=some (h::tl)∧(h::tl).getLast?=some h'∧k+tl.length=N∧(∀m∈ms,Keeps tb cl f tl m)∧ ∀(pre:List Az),pre.length=k→(∀e∈es,∀j g,e.lo≤j→pre[j]? =some g→load g e.ag e.n e.a=some e.v)→Kr tb cl (pre++h::tl) l w k f=some f'
 |[],k,ms,es,w,f,h,f',h',e=>by
  cases w with
  |nil=>
   simp only[Nl,ch]at e
   obtain⟨hk,rfl,rfl⟩:=e
   exact⟨[],by simp[Ip],rfl,by simpa using hk,fun m _ i h' _ hi=>by simp at hi,fun pre hp _=>by simp[Kr,hp]⟩
  |cons=>simp[Nl]at e
 |⟨d,g,o⟩::l,k,ms,es,[],f,h,f',h',e=>by simp[Nl]at e
 |⟨d,gd,o⟩::l,k,ms,es,none::w,f,h,f',h',e=>by
  simp only[Nl]at e
  rcases e with ⟨hwt,p,es',hp,hc1,hc2,hc3,e⟩|⟨hwt,rfl,e⟩
  rotate_left
  ·obtain⟨tl,h1,h2,h3,h4,h5⟩:=M1 e
   refine⟨h::tl,?_,?_,by simp;omega,(fun m hm=>absurd hm (by simp)),fun pre hpre hes=> ?_⟩
   ·simp[Ip,hwt,h1]
   ·simpa using h2
   ·have h6:=h5 (pre++[h]) (by simp[hpre]) (fun x hx=>absurd hx (by simp))
    simp only[dl,er]at h6
    have g0:(pre++h::h::tl)[k]? =some h:=by rw[←hpre,bo (be _),jq];rfl
    have g1:(pre++h::h::tl)[k+1]? =some h:=by rw[←hpre,bo (by omega),ij];rfl
    simp only[Kr,hwt,aa,au,qu,g0,g1,qt]
    exact h6
  obtain⟨tl,h1,h2,h3,h4,h5⟩:=M1 e
  refine⟨p.2.getD h::tl,?_,?_,by simp;omega,?_,fun pre hpre hes=> ?_⟩
  ·simp[Ip,hwt,hp,h1]
  ·simpa using h2
  ·intro m hm i h' hi hg
   have he:=L2 (tb:=tb) (f:=f) (v:=p.1) hc1 m hm
   rw[←KQ he]
   cases i with
   |zero=>
    simp only[bx,ae]at hg
    subst hg
    exact hc2 m hm (by omega)
   |succ i=>
    simp only[c0]at hg
    exact h4 _ (pE hm (by omega)) i h' (by simp only;omega) hg
  ·have h6:=h5 (pre++[h]) (by simp[hpre]) (fun x hx j g hj hg=>by
    rcases dq j pre.length with hlt|hge
    ·rw[br hlt]at hg
     rcases(hc3 x hx).1 with hx'|hx'
     ·exact hes x hx' j g hj hg
     ·omega
    ·rw[bo hge]at hg
     have:j-pre.length=0:=by
      rcases d7 (j-pre.length)with h|h
      ·exact h
      ·rw[f9 (by simp;omega)]at hg;cases hg
     rw[this]at hg
     simp only[bx,ae]at hg
     subst hg
     exact(hc3 x hx).2)
   simp only[dl,er]at h6
   have g0:(pre++h::p.2.getD h::tl)[k]? =some h:=by rw[←hpre,bo (be _),jq];rfl
   have g1:(pre++h::p.2.getD h::tl)[k+1]? =some (p.2.getD h):=by rw[←hpre,bo (by omega),ij];rfl
   simp only[Kr,hwt,aa,qt,g0,hp,g1]
   exact h6
 |⟨d,gd,o⟩::l,k,ms,es,some (lo,hi)::w,f,h,f',h',e=>by
  simp only[Nl]at e
  rcases e with ⟨hwt,p,hp,hu,hfr,e⟩|⟨hwt,hfr,e⟩
  rotate_left
  ·obtain⟨tl,h1,h2,h3,h4,h5⟩:=M1 e
   refine⟨tl,?_,h2,h3,fun m hm i h' hi hg=> ?_,fun pre hpre hes=> ?_⟩
   ·simp[Ip,hwt,h1]
   ·have he:=L2 (tb:=tb) (f:=f) (v:= .tup []) hfr m hm
    rw[←KQ he]
    exact h4 m hm i h' hi hg
   ·have h6:=h5 pre hpre hes
    simp only[Kr,hwt,aa,au,qu]
    exact h6
  rcases e with ⟨hpl,e⟩|⟨hhi0,⟨x,hx,t0,hxo,hxa,hxv,hxl⟩,e⟩
  ·obtain⟨tl,h1,h2,h3,h4,h5⟩:=M1 e
   have hms: ∀m∈ms,Keeps tb cl f tl m:=fun m hm i h' hi hg=>by
    have he:=L2 (tb:=tb) (f:=f) (v:=p.1) hfr m hm
    rw[←KQ he]
    exact h4 m (addM_mem hm) i h' hi hg
   refine⟨tl,?_,h2,h3,hms,fun pre hpre hes=> ?_⟩
   ·simp[Ip,hwt,hp,hu,h1]
   ·have h6:=h5 pre hpre hes
    have g0:(pre++h::tl)[k]? =some h:=by rw[←hpre,bo (be _),jq];rfl
    have hlen:(pre++h::tl).length=N+1:=by simp[hpre];omega
    have hk: ∀j,lo≤j→j<lo+(hi+1-lo)→ ∃u,((pre++h::tl)[j]?).bind (fun h=>BC tb cl (eval tb f) h o)=some (p.1,u)∧some (u.getD ((pre++h::tl)[j]?.getD []))=(pre++h::tl)[j]? :=by
     intro j hj1 hj2
     simp only[gq]at hpl
     cases hP:QB N k lo hi o with
     |true=>
      have hP':=hP
      simp only[QB,gq,af]at hP'
      rcases hP' with ⟨hlo,hhi⟩|⟨hb,hle⟩
      ·have hlo:=cv hlo
       have hhi:=cv hhi
       obtain rfl:j=k:=by omega
       exact⟨p.2,by rw[g0,aa,hp],by rw[g0];simp[hu]⟩
      ·have hle:=i7 hle
       have hj:j<(pre++h::tl).length:=by omega
       rw[ad hj]
       exact⟨none,by rw[aa];exact tX hb hp,rfl⟩
     |false=>
      have hL:nK N k lo hi d o=true:=hpl.resolve_left (by rw[hP];simp)
      obtain⟨hlo,hhi,hd⟩:=sD hL
      rcases dq k j with hkj|hkj
      ·have hm:(⟨o,p.1,hi-k⟩:aX)∈pX N k lo hi o p.1 ms:=by
        simp only[pX,hP,cond_false];simp
       have hj:j<(pre++h::tl).length:=by omega
       have hjt:(pre++h::tl)[j]? =tl[j-k-1]? :=by
        rw[bo (by omega),hpre,show j-k=(j-k-1)+1 by omega,c0];rfl
       have hjl:j-k-1<tl.length:=by simp[hpre]at hlen;omega
       rw[hjt,ad hjl]
       have:=h4 _ hm (j-k-1) _ (by simp only;omega) (ad hjl)
       obtain⟨u,e1,e2⟩:=this
       rw[KQ (aN hd)]at e1
       exact⟨u,by rw[aa];exact e1,qv some e2⟩
      ·obtain rfl:j=k:=by omega
       exact⟨p.2,by rw[g0,aa,hp],by rw[g0];simp[hu]⟩
    simp only[Kr,hwt,aa,qt,g0,hp]
    rw[qn (by
     rw[cd]
     intro j hj
     rw[gk]at hj
     exact qq (hk j hj.1 hj.2))]
    exact h6
  ·obtain⟨tl,h1,h2,h3,h4,h5⟩:=M1 e
   have hms: ∀m∈ms,Keeps tb cl f tl m:=fun m hm i h' hi hg=>by
    have he:=L2 (tb:=tb) (f:=f) (v:=p.1) hfr m hm
    rw[←KQ he]
    exact h4 m hm i h' hi hg
   refine⟨tl,?_,h2,h3,hms,fun pre hpre hes=> ?_⟩
   ·simp[Ip,hwt,hp,hu,h1]
   ·have h6:=h5 pre hpre hes
    have g0:(pre++h::tl)[k]? =some h:=by rw[←hpre,bo (be _),jq];rfl
    have hk: ∀j,lo≤j→j<lo+(hi+1-lo)→ ∃u,((pre++h::tl)[j]?).bind (fun h=>BC tb cl (eval tb f) h o)=some (p.1,u)∧some (u.getD ((pre++h::tl)[j]?.getD []))=(pre++h::tl)[j]? :=by
     intro j hj1 hj2
     rcases dq j k with hjk|hjk
     ·have hjp:j<pre.length:=by omega
      rw[br hjp,ad hjp]
      have:=hes x hx j pre[j] (by omega) (ad hjp)
      refine⟨none,?_,rfl⟩
      rw[aa,hxo,hxv]
      simp only[BC,eval,hxa,this,val,an]
     ·obtain rfl:j=k:=by omega
      exact⟨p.2,by rw[g0,aa,hp],by rw[g0];simp[hu]⟩
    simp only[Kr,hwt,aa,qt,g0,hp]
    rw[qn (by
     rw[cd]
     intro j hj
     rw[gk]at hj
     exact qq (hk j hj.1 hj.2))]
    exact h6
theorem fH{l:List Br}{w:List (Option (Nat×Nat))}{f:Fr}{h:Az}{n:Nat}{p:Fr×Az}(e:Nl tb cl n 0 [] [] l w f h p):
  Bj tb cl (.regd l w) f h=some (.normal,p.1,p.2):=by
 obtain⟨tl,h1,h2,h3,h4,h5⟩:=M1 (f':=p.1) (h':=p.2) e
 have h6:=h5 [] rfl (fun e he=>by cases he)
 simp only[dw]at h6
 simp only[Bj,h1,aa,List.tail_cons,h6,h2,an]
end
structure Ob where
 o:HB
 d:Nat
 φ:AW
 c:Nat
def tO:List Ob→List Ob
 |[]=>[]
 |m::r=>match m.c with
  |0=>tO r
  |1=>tO r
  |c+2=>{m with c:=c+1}::tO r
def Pr(d:Option Nat):List Ob→Bool
 |[]=>true
 |m::r=>(nY d m.o&&match d with|some d=> !Nat.beq d m.d|none=>true)&&Pr d r
def T.Uni(t:T):Prop:= ∀{P Q:Nat→Prop} {H G:Az} {cs ds:List AV} {x:t.α},t.R P H cs x→t.R Q G ds x→cs=ds
theorem aO{α:Type}{c:α→AV}{z:α}{hs hm}:(TL α c z hs hm).Uni:=fun h g=>h.trans g.symm
theorem J6{k:IntKind}:(ah k).Uni:=aO
theorem UW:a7.Uni:=aO
theorem XP:Ak.Uni:=aO
theorem EZ{a b:T}(h:a.Uni)(g:b.Uni):(G5 a b).Uni:=by
 rintro P Q H G cs ds x ⟨c,d,e,h1,h2⟩ ⟨c',d',e',h1',h2'⟩
 rw[e,e',h h1 h1',g h2 h2']
theorem M8{t:T}{β:Type}{f:β→t.α}{g:t.α→β}{hfg: ∀y,f (g y)=y}(h:t.Uni):(UQ t β f g hfg).Uni:=fun r r'=>h r r'
theorem CL.uni{t:T}(h:t.Uni){P Q:Nat→Prop}{H G:Az}: ∀{c d:List (List AV)} {x:List t.α},CL t P H c x→CL t Q G d x→c=d
 |[],[],[],_,_=>rfl
 |_::_,_::_,_::_,h1,h2=>by rw[h h1.1 h2.1,CL.uni h h1.2 h2.2]
 |[],_::_,[],_,h2=>h2.elim
 |_::_,_,[],h1,_=>h1.elim
 |[],_,_::_,h1,_=>h1.elim
 |_::_,[],_::_,_,h2=>h2.elim
theorem T.Uni.arr{n:Nat}{t:T}(h:t.Uni):(ak n t).Uni:=by
 rintro P Q H G cs ds x ⟨c,e,h1⟩ ⟨c',e',h1'⟩
 rw[e,e',h1.uni h h1']
theorem T.Uni.V{t:T}(h:t.Uni){P Q:Nat→Prop}{H G:Az}{v w:AV}{x:t.α}(r:t.V P H v x)(r':t.V Q G w x):v=w:=by
 rcases r with ⟨ha,cs,rfl,r⟩|⟨ha,r⟩
 ·rcases r' with ⟨_,ds,rfl,r'⟩|⟨hb,_⟩
  ·rw[h r r']
  ·rw[ha]at hb;cases hb
 ·rcases r' with ⟨hb,_⟩|⟨_,r'⟩
  ·rw[ha]at hb;cases hb
  ·have:=h r r'
   simpa using this
def zZ:List (Σ t:T,t.α)→Prop
 |[]=>True
 |p::r=>p.1.Uni∧zZ r
theorem zZ.eq{P Q:Nat→Prop}{H G:Az}: ∀{l:List (Σ t:T,t.α)} {v w:List AV},zZ l→UP P H v l→UP Q G w l→v=w
 |[],[],[],_,_,_=>rfl
 |_::_,_::_,_::_,h,r,r'=>by rw[T.Uni.V h.1 r.1 r'.1,zZ.eq h.2 r.2 r'.2]
 |[],_::_,_,_,r,_=>r.elim
 |[],[],_::_,_,_,r=>r.elim
 |_::_,[],_,_,r,_=>r.elim
 |_::_,_::_,[],_,_,r=>r.elim
def AW.Uni:AW→Prop
 | .val t _=>t.Uni
 | .tup l=>zZ l
 | .own _=>True
 | .cp _ _=>True
 | .ep _ _ _=>True
 | .oc _ _ _ _=>True
 | .con _=>True
 | .kv _=>True
 | .fnv _ _ _=>True
 |_=>False
theorem AW.Uni.eq{φ:AW}(h:φ.Uni){rv:Nat→AV}{ss:Ss}{P Q:Nat→Prop}{H G:Az}{v w:AV}(r:FR rv ss P H φ v)(r':FR rv ss Q G φ w):v=w:=by
 cases φ<;>simp only[AW.Uni]at h
 case val t x=>exact T.Uni.V h r r'
 case tup l=>
  obtain⟨vs,e,h1⟩:=r
  obtain⟨ws,e',h2⟩:=r'
  rw[e,e',zZ.eq h h1 h2]
 case own j=>exact r.2.trans r'.2.symm
 case cp j o=>
  obtain⟨_,id,e,rfl⟩:=r
  obtain⟨_,id',e',rfl⟩:=r'
  rw[e]at e';cases e';rfl
 case ep j i o=>
  obtain⟨_,id,n,e,_,rfl⟩:=r
  obtain⟨_,id',n',e',_,rfl⟩:=r'
  rw[e]at e';cases e';rfl
 case oc j o s n=>
  obtain⟨_,id,e,rfl⟩:=r
  obtain⟨_,id',e',rfl⟩:=r'
  rw[e]at e';cases e';rfl
 case con c=>exact r.1.trans r'.1.symm
 case kv j=>exact r.2.trans r'.2.symm
 case fnv f js ks=>exact r.2.trans r'.2.symm
inductive dI(tb:Di)(Γ:Cx):List Ob→Prop where
 |nil:dI tb Γ []
 |cons {o:HB} {d c:Nat} {φ:AW} {l:List Ob} (h:Fa tb Γ o (some ()) fun _=>φ) (hd:Cd tb Γ (.t d) φ) (hu:φ.Uni) (r:dI tb Γ l):dI tb Γ (⟨o,d,φ,c⟩::l)
inductive uJ(f:Fr):List Ob→List aX→Prop where
 |nil:uJ f [] []
 |cons {o:HB} {d c:Nat} {φ:AW} {v:AV} {l:List Ob} {ms:List aX} (h:get f d=v) (r:uJ f l ms):uJ f (⟨o,d,φ,c⟩::l) (⟨o,v,c⟩::ms)
theorem uJ.dec{f:Fr}: ∀{l:List Ob} {ms:List aX},uJ f l ms→uJ f (tO l) (kD ms)
 |_,_, .nil=> .nil
 |_,_, .cons (c:=c) h r=>by
  match c with
  |0=>exact r.dec
  |1=>exact r.dec
  |c+2=>exact .cons h r.dec
theorem uJ.fresh{d:Option Nat}{f:Fr}: ∀{l:List Ob} {ms:List aX},uJ f l ms→Pr d l=true→QS d ms=true
 |_,_, .nil,_=>rfl
 |_,_, .cons h r,e=>by
  simp only[Pr,af]at e
  simp only[QS,af]
  exact⟨e.1.1,r.fresh e.2⟩
theorem uJ.put{d:Option Nat}{f:Fr}{w:AV}: ∀{l:List Ob} {ms:List aX},uJ f l ms→Pr d l=true→uJ (put f d w) l ms
 |_,_, .nil,_=> .nil
 |_,_, .cons h r,e=>by
  simp only[Pr,af]at e
  refine .cons ?_ (r.put e.2)
  cases d with
  |none=>exact h
  |some d=>
   have:=e.1.2
   simp only[cg]at this
   simp only[Am.put,get]
   rw[qo fun e=>by rw[e,lu]at this;cases this]
   exact h
theorem dI.spec{tb:Di}{Γ:Cx}{E:R7}{rv:Nat→AV}{fp:Fp}{f:Fr}{H:Az}(I:B8 E Γ rv fp f H): ∀{l:List Ob} {ms:List aX},dI tb Γ l→uJ f l ms→ ∀m∈ms,0<m.c→ ∃u,BC tb (CC tb) (eval tb f) H m.o=some (m.v,u)∧u.getD H=H
 |_,_, .nil, .nil,m,hm,_=>by cases hm
 |_,_, .cons h hd hu r, .cons h' r',m,hm,hc=>by
  rcases bu.1 hm with rfl|hm
  ·obtain⟨v,u,h1,h2,h3⟩:=h E rv fp f H I () rfl
   have:=hu.eq h3 (hd E rv fp f H I)
   subst this
   exact⟨u,by rw[h1,←h'];rfl,h2⟩
  ·exact dI.spec I r r' m hm hc
structure Cb where
 ag:Bool
 n:Nat
 t:Nat
 off:Nat
 lo:Nat
 u:T
 x:u.α
def Tn(d:Option Nat):List Cb→Bool
 |[]=>true
 |m::r=>(match d with|some d=> !Nat.beq d m.t|none=>true)&&Tn d r
inductive CR(f:Fr):List Cb→List Eob→Prop where
 |nil:CR f [] []
 |cons {ag:Bool} {n t off lo id o:Nat} {u:T} {x:u.α} {v a:AV} {l:List Cb} {es:List Eob} {P:Nat→Prop} {H:Az} (h0:get f t= .ptr id o) (ha:a= .ptr id (o+off)) (h:u.V P H v x) (r:CR f l es):
   CR f (⟨ag,n,t,off,lo,u,x⟩::l) (⟨ag,n,a,v,lo⟩::es)
theorem CR.put{d:Option Nat}{f:Fr}{w:AV}: ∀{l:List Cb} {es:List Eob},CR f l es→Tn d l=true→CR (put f d w) l es
 |_,_, .nil,_=> .nil
 |_,_, .cons h0 ha h r,e=>by
  simp only[Tn,af]at e
  refine .cons ?_ ha h (r.put e.2)
  cases d with
  |none=>exact h0
  |some d=>
   have:=e.1
   simp only[cg]at this
   simp only[Am.put,get]
   rw[qo fun e=>by rw[e,lu]at this;cases this]
   exact h0
theorem CR.find{f:Fr}: ∀{l:List Cb} {es:List Eob} {i:Nat} {c:Cb},CR f l es→l[i]? =some c→ ∃e∈es,e.ag=c.ag∧e.n=c.n∧e.lo=c.lo∧(∃id o,get f c.t= .ptr id o∧e.a= .ptr id (o+c.off))∧ ∃P H,c.u.V P H e.v c.x
 |_,_,i,c, .nil,h=>by simp at h
 |_,_,0,c, .cons h0 ha h r,hc=>by
  simp only[bx,ae]at hc
  subst hc
  exact⟨_,bj,rfl,rfl,rfl,⟨_,_,h0,ha⟩,_,_,h⟩
 |_,_,i+1,c, .cons h0 ha h r,hc=>by
  simp only[c0]at hc
  obtain⟨e,he,g⟩:=r.find hc
  exact⟨e,bg _ he,g⟩
def LdAt(Γ:Cx)(c:Cb):Prop:= ∃j o ps N s y o',BM Γ.ts c.t=some (.cp j o)∧AM Γ.ss j=some (.cells ps)∧L8 ps (o+c.off)=some (N, .val s y,o')∧ ∃F:AR s c.u o',F.get y=c.x∧c.ag=c.u.agg∧c.n=c.u.sz
theorem LdAt.spec{Γ:Cx}{c:Cb}{E:R7}{rv:Nat→AV}{fp:Fp}{f:Fr}{H:Az}(h:LdAt Γ c)(R:B8 E Γ rv fp f H): ∃id o v,get f c.t= .ptr id o∧load H c.ag c.n (.ptr id (o+c.off))=some v∧c.u.V (Pf E Γ.ss fp H) H v c.x:=by
 obtain⟨j,o,ps,N,s,y,o',h1,hj,hp,F,hx,hag,hn⟩:=h
 obtain⟨l,id,e,hv⟩:=R.temps _ _ h1
 obtain⟨cs,h0,h2,h3⟩:=Ho R hj e
 obtain⟨b',c',e0,e1,e2,e3,e4,e5,_⟩:=Ha h3 hp
 have hle:=F.le
 have hl:=s.len e4
 have hr:=F.getR e4
 rw[←e5 o' c.u.sz (by omega),←e1]at hr
 obtain⟨v,g1,g2⟩:=ov hr
 refine⟨id,o,v,hv,?_,by rw[←hx];exact g2⟩
 rw[hag,hn]
 simp only[Am.load,place,h2,an,aa,qn (show o+c.off+c.u.sz≤cs.length by omega),g1]
inductive Nj(Γ:Cx)(k:Nat)(C:List Cb):List Cb→Prop where
 |nil:Nj Γ k C []
 |new {c:Cb} {l:List Cb} (hk:c.lo=k) (h:LdAt Γ c) (r:Nj Γ k C l):Nj Γ k C (c::l)
 |old {c:Cb} {l:List Cb} (i:Nat) (hi:C[i]? =some c) (hu:c.u.Uni) (h:LdAt Γ c) (r:Nj Γ k C l):Nj Γ k C (c::l)
theorem Nj.spec{Γ:Cx}{k:Nat}{C:List Cb}{es:List Eob}{E:R7}{rv:Nat→AV}{fp:Fp}{f:Fr}{H:Az}(R:B8 E Γ rv fp f H)(hC:CR f C es): ∀{l:List Cb},Nj Γ k C l→ ∃es',CR f l es'∧ ∀e∈es',(e∈es∨e.lo=k)∧load H e.ag e.n e.a=some e.v
 |_, .nil=>⟨[], .nil,fun _ h=>by cases h⟩
 |_, .new (c:=c) hk h r=>by
  obtain⟨es',h1,h2⟩:=r.spec R hC
  obtain⟨id,o,v,g1,g2,g3⟩:=h.spec R
  refine⟨⟨c.ag,c.n, .ptr id (o+c.off),v,c.lo⟩::es', .cons g1 rfl g3 h1,fun e he=> ?_⟩
  rcases bu.1 he with rfl|he
  ·exact⟨.inr hk,g2⟩
  ·exact h2 e he
 |_, .old (c:=c) i hi hu h r=>by
  obtain⟨es',h1,h2⟩:=r.spec R hC
  obtain⟨id,o,v,g1,g2,g3⟩:=h.spec R
  obtain⟨e,he,e1,e2,e3,⟨id',o',e4,e5⟩,P,H',e6⟩:=hC.find hi
  have hv:v=e.v:=hu.V g3 e6
  rw[g1]at e4
  cases e4
  refine⟨⟨c.ag,c.n, .ptr id (o+c.off),v,c.lo⟩::es', .cons g1 rfl g3 h1,fun x hx=> ?_⟩
  rcases bu.1 hx with rfl|hx
  ·refine⟨.inl ?_,g2⟩
   obtain⟨ag,n,a,v',lo⟩:=e
   simp only at e1 e2 e3 e5 hv
   subst e1 e2 e3 e5 hv
   exact he
  ·exact h2 x hx
structure A0(tb:Di)(Γ:Cx)(N k:Nat)(B:List Ob)(C:List Cb)(l:List Br)(w:List (Option (Nat×Nat)))(ks:List Kf){ρ:Type}(Q:Oj ρ) where
 m:Option ρ
 ok: ∀E f H,Rel E Γ f H→ ∀ms,uJ f B ms→ ∀es,CR f C es→ ∀r,m=some r→ ∃p e f' H',Nl tb (CC tb) N k ms es l w f H p∧Is tb ks (.normal,p.1,p.2)=some (e,f',H')∧Q E r e f' H'
section
variable{tb:Di}{Γ:Cx}{ks:List Kf}{ρ:Type}{Q:Oj ρ}{w:List (Option (Nat×Nat))}{N k:Nat}{B:List Ob}{C C':List Cb}
def Aa.regd{l:List Br}(n:Nat)(s:A0 tb Γ n 0 [] [] l w ks Q):Aa tb Γ (.regd l w) ks Q:=
 ⟨s.m,fun E f H R r hr=>by
  obtain⟨p,e,f',H',h1,h2,h3⟩:=s.ok E f H R [] .nil [] .nil r hr
  exact⟨e,f',H',by rw[fH h1];exact h2,h3⟩⟩
def Ce(s:Aa tb Γ (rg false []) ks Q):A0 tb Γ N N B C [] [] ks Q:=
 ⟨s.m,fun E f H R ms _ es _ r hr=>by
  obtain⟨e,f',H',h1,h2⟩:=s.ok E f H R r hr
  rw[DN]at h1
  exact⟨(f,H),e,f',H',⟨rfl,rfl⟩,h1,h2⟩⟩
def A0.turn{l:List Br}{Γ':Cx}(h: ∀E f H,Rel E Γ f H→Rel E Γ' f H)(s:A0 tb Γ' N k B C l w ks Q):A0 tb Γ N k B C l w ks Q:=
 ⟨s.m,fun E f H R ms hms es hes r hr=>s.ok E f H (h E f H R) ms hms es hes r hr⟩
def A0.frzRow{l:List Br}(j:Nat){t:T}{g:GS t.α}(h:AM Γ.ss j=some (.row t g))(hn:je j iT=true)(s:A0 tb (Γ.turn j (rowF t g)) N k B C l w ks Q):A0 tb Γ N k B C l w ks Q:=
 s.turn fun _ _ _ ⟨rv,fp,I⟩=>⟨rv,fp,I.frzRow h hn⟩
variable{o:HB}{l:List Br}{y:Nat×Nat}
def pM(N k:Nat)(B:List Ob)(C:List Cb)(y:Nat×Nat)(d:Option Nat)(o:HB):Bool:=QB N k y.1 y.2 o&&(Pr d B&&Tn d C)
theorem stepD{cl:Nat→List AV→Az→Mb}{d:Option Nat}{ms:List aX}{es:List Eob}{f:Fr}{H:Az}{v:AV}{u:Option Az}{p:Fr×Az}(hq:pM N k B C y d o=true)(hms:uJ f B ms)(h1:BC tb cl (eval tb f) H o=some (v,u))(h2:u.getD H=H)
  (g:Nl tb cl N k ms es l w (put f d v) H p):Nl tb cl N k ms es (⟨d,none,o⟩::l) (some y::w) f H p:=by
 obtain⟨lo,hi⟩:=y
 simp only[pM,af]at hq
 refine .inl ⟨rfl,(v,u),h1,h2,hms.fresh hq.2.1, .inl ⟨by rw[hq.1];rfl,?_⟩⟩
 simp only[pX,hq.1,cond_true]
 exact g
theorem ZU{d:Option Nat}(hq:pM N k B C y d o=true):Pr d B=true∧Tn d C=true:=by
 simp only[pM,af]at hq;exact hq.2
def zQ(B:List Ob)(C':List Cb)(d:Option Nat):Bool:=Pr d B&&Tn d C'
theorem stepW{Γ':Cx}{E:R7}{rv rv':Nat→AV}{fp fp':Fp}{d:Option Nat}{ms:List aX}{es:List Eob}{f:Fr}{H:Az}{v:AV}{u:Option Az}(hq:zQ B C' d=true)(hb:dI tb Γ' B)(hc:Nj Γ k C C')(hms:uJ f B ms)(hes:CR f C es)(I0:B8 E Γ rv fp f H)(h1:BC tb (CC tb) (eval tb f) H o=some (v,u))(I:B8 E Γ' rv' fp' (put f d v) (u.getD H)):
  ∃es',CR (put f d v) C' es'∧ ∀p,Nl tb (CC tb) N (k+1) (kD ms) es' l w (put f d v) (u.getD H) p→Nl tb (CC tb) N k ms es (⟨d,none,o⟩::l) (none::w) f H p:=by
 simp only[zQ,af]at hq
 obtain⟨es',g1,g2⟩:=hc.spec I0 hes
 exact⟨es',g1.put hq.2,fun p g=> .inl ⟨rfl,(v,u),es',h1,hms.fresh hq.1,hb.spec I (hms.put hq.1),g2,g⟩⟩
def A0.op{d:Nat}{β:Type}{a:Option β}{φ:β→AW}(hq:pM N k B C y (some d) o=true)(h:Fa tb Γ o a φ)(s:(b:β)→A0 tb (Γ.push d (φ b)) N k B C l w ks Q):A0 tb Γ N k B C (⟨some d,none,o⟩::l) (some y::w) ks Q:=
 ⟨a.bind fun b=>(s b).m,fun E f H ⟨rv,fp,I⟩ ms hms es hes r hr=>by
  obtain⟨b,hb,hr⟩:=ab.1 hr
  obtain⟨v,u,h1,h2,h3⟩:=h E rv fp f H I b hb
  obtain⟨p,e,f',H',g,g'⟩:=(s b).ok E (put f (some d) v) H ⟨rv,fp,I.push h3⟩ ms (hms.put (ZU hq).1) es (hes.put (ZU hq).2) r hr
  exact⟨p,e,f',H',stepD hq hms h1 h2 g,g'⟩⟩
def Au{d:Nat}{φ:AW}(hq:pM N k B C y (some d) o=true)(h:Fa tb Γ o (some ()) fun _=>φ)(s:A0 tb (Γ.push d φ) N k B C l w ks Q):A0 tb Γ N k B C (⟨some d,none,o⟩::l) (some y::w) ks Q:=
 ⟨s.m,(A0.op hq h fun _=>s).ok⟩
def Du{d:Nat}{t:T}{x:t.α}(hq:pM N k B C y (some d) o=true)(h:Fa tb Γ o (some ()) fun _=> .val t x)(s:(y:t.α)→A0 tb (Γ.push d (.val t y)) N k B C l w ks Q):A0 tb Γ N k B C (⟨some d,none,o⟩::l) (some y::w) ks Q:=
 Au hq h (s x)
def chkL(N k:Nat)(B:List Ob)(C:List Cb)(lo hi d:Nat)(o:HB):Bool:= !QB N k lo hi o&&(nK N k lo hi (some d) o&&(Pr (some d) B&&Tn (some d) C))
def QE{α γ:Type}(a:Option α)(F:(b:α)→a=some b→Option γ):Option γ:=
 match a,F with
 |some b,F=>F b rfl
 |none,_=>none
theorem rW{α γ:Type}{a:Option α}{F:(b:α)→a=some b→Option γ}{r:γ}(h:QE a F=some r): ∃b e,F b e=some r:=by
 cases a with
 |none=>cases h
 |some b=>exact⟨b,rfl,h⟩
theorem Fa.at{Γ:Cx}{o:HB}{β:Type}{a:Option β}{φ:β→AW}{b:β}(h:Fa tb Γ o a φ)(e:a=some b):Fa tb Γ o (some ()) fun _=>φ b:=fun E rv fp f H I _ _=>h E rv fp f H I b e
def Nh{d lo hi:Nat}{β:Type}{a:Option β}{φ:β→AW}(hq:chkL N k B C lo hi d o=true)(h:Fa tb Γ o a φ)
  (s:(b:β)→a=some b→A0 tb (Γ.push d (φ b)) N k (⟨o,d,φ b,hi-k⟩::B) C l w ks Q):A0 tb Γ N k B C (⟨some d,none,o⟩::l) (some (lo,hi)::w) ks Q:=
 ⟨QE a fun b e=>(s b e).m,fun E f H ⟨rv,fp,I⟩ ms hms es hes r hr=>by
  obtain⟨b,hb,hr⟩:=rW hr
  obtain⟨v,u',h1,h2,h3⟩:=h E rv fp f H I b hb
  simp only[chkL,af,cg]at hq
  obtain⟨p,e,f',H',h4,h5⟩:=(s b hb).ok E (put f (some d) v) H ⟨rv,fp,I.push h3⟩ (⟨o,v,hi-k⟩::ms) (.cons (by simp[put,get]) (hms.put hq.2.2.1)) es (hes.put hq.2.2.2) r hr
  refine⟨p,e,f',H', .inl ⟨rfl,(v,u'),h1,h2,hms.fresh hq.2.2.1, .inl ⟨by rw[hq.2.1];simp,?_⟩⟩,h5⟩
  simp only[pX,hq.1,cond_false]
  exact h4⟩
def Sc{d lo hi:Nat}{φ:AW}(hq:chkL N k B C lo hi d o=true)(h:Fa tb Γ o (some ()) fun _=>φ)
  (s:A0 tb (Γ.push d φ) N k (⟨o,d,φ,hi-k⟩::B) C l w ks Q):A0 tb Γ N k B C (⟨some d,none,o⟩::l) (some (lo,hi)::w) ks Q:=
 ⟨s.m,(Nh hq h fun _ _=>s).ok⟩
def CU{d:Option Nat}{β:Type}{a:Option β}{Γ':β→Cx}(hq:zQ B C' d=true)(hb: ∀b,dI tb (Γ' b) B)(hc:Nj Γ k C C')(h:XN tb Γ d o a Γ')(s:(b:β)→A0 tb (Γ' b) N (k+1) (tO B) C' l w ks Q):A0 tb Γ N k B C (⟨d,none,o⟩::l) (none::w) ks Q:=
 ⟨a.bind fun b=>(s b).m,fun E f H ⟨rv,fp,I⟩ ms hms es hes r hr=>by
  obtain⟨b,hb',hr⟩:=ab.1 hr
  obtain⟨v,u,h1,rv',fp',h3⟩:=h E rv fp f H I b hb'
  obtain⟨es',g1,g2⟩:=stepW (l:=l) (w:=w) (N:=N) hq (hb b) hc hms hes I h1 h3
  have hq':=hq;simp only[zQ,af]at hq'
  obtain⟨p,e,f',H',g,g'⟩:=(s b).ok E _ _ ⟨rv',fp',h3⟩ _ (hms.put hq'.1).dec _ g1 r hr
  exact⟨p,e,f',H',g2 p g,g'⟩⟩
end
end
section
def NR(tB nne:Nat):CI:=⟨false,1,20,[],
 (.seq (rg false [⟨some 2,none, .mv (.t 0)⟩,⟨some 3,none, .nilc (.t 2)⟩,⟨some 4,none, .fa 0 (.t 3)⟩,⟨some 5,none, .ld false 1 (.t 4)⟩,⟨some 6,none, .eq false .p (.t 5) (.k (.nilp))⟩])
 (.cond (.t 6)
  (rg false [⟨some 7,none, .mv (.t 0)⟩,⟨some 8,none, .mv (.t 0)⟩,⟨some 9,none, .cvp (.t 8)⟩,⟨some 10,none, .call nne [(.t 9)]⟩,⟨some 11,none, .cvu tB 2 (.t 10)⟩,⟨some 12,none, .nilc (.t 7)⟩,⟨some 13,none, .fa 0 (.t 12)⟩,⟨none,none, .st 1 (.t 13) (.t 11)⟩])
  (.seq (rg false [⟨some 14,none, .mv (.t 0)⟩,⟨some 15,none, .nilc (.t 14)⟩,⟨some 16,none, .fa 0 (.t 15)⟩,⟨some 17,none, .ld false 1 (.t 16)⟩,⟨some 18,none, .mv (.t 0)⟩,⟨some 19,none, .eqp true (.t 17) (.t 18)⟩])
  (.cond (.t 19)
  .stop
  .skip))))⟩
def Ye(te ncc:Nat):CI:=⟨false,2,19,[.tmp 4, .tmp 5],
 (.seq (rg false [⟨some 4,none, .mv (.k (.i .i64 0))⟩,⟨some 5,none, .mv (.k (.nili))⟩])
 (.seq (rg false [⟨some 6,none, .mv (.t 0)⟩,⟨some 7,none, .call ncc [(.t 6)]⟩])
 (.seq (rg false [⟨some 8,none, .mv (.t 0)⟩,⟨some 9,none, .mv (.t 0)⟩,⟨some 10,none, .nilc (.t 9)⟩,⟨some 11,none, .fa 1 (.t 10)⟩,⟨some 12,none, .ld false 1 (.t 11)⟩,⟨some 13,none, .mv (.t 1)⟩,⟨some 14,none, .app te 1 1 (.t 12) (.t 13)⟩,⟨some 15,none, .nilc (.t 8)⟩,⟨some 16,none, .fa 1 (.t 15)⟩,⟨none,none, .st 1 (.t 16) (.t 14)⟩])
 (.seq (rg false [⟨some 17,none, .mv (.t 1)⟩,⟨some 18,none, .lens (.t 17)⟩,⟨some 4,none, .mv (.t 18)⟩,⟨some 5,none, .mv (.k (.nili))⟩])
 .ret))))⟩
def Yf(te ncc:Nat):CI:=⟨false,2,17,[.tmp 4],
 (.seq (rg false [⟨some 4,none, .mv (.k (.nili))⟩])
 (.seq (rg false [⟨some 5,none, .mv (.t 0)⟩,⟨some 6,none, .call ncc [(.t 5)]⟩])
 (.seq (rg false [⟨some 7,none, .mv (.t 0)⟩,⟨some 8,none, .mv (.t 0)⟩,⟨some 9,none, .nilc (.t 8)⟩,⟨some 10,none, .fa 1 (.t 9)⟩,⟨some 11,none, .ld false 1 (.t 10)⟩,⟨some 12,none, .mv (.t 1)⟩,⟨some 13,none, .bll 1 (aq 1 a7.zc) [(0,(.t 12))]⟩,⟨some 14,none, .app te 1 1 (.t 11) (.t 13)⟩,⟨some 15,none, .nilc (.t 7)⟩,⟨some 16,none, .fa 1 (.t 15)⟩,⟨none,none, .st 1 (.t 16) (.t 14)⟩])
 (.seq (rg false [⟨some 4,none, .mv (.k (.nili))⟩])
 .ret))))⟩
def TI(te:Nat):CI:=⟨false,1,14,[.tmp 2],
 (.seq (rg false [⟨some 2,none, .mv (.k (.s []))⟩])
 (.seq (.regd [⟨some 3,none, .mv (.t 0)⟩,⟨some 4,none, .nilc (.t 3)⟩,⟨some 5,none, .fa 1 (.t 4)⟩,⟨some 6,none, .ld false 1 (.t 5)⟩,⟨some 7,none, .usd (.t 6)⟩,⟨some 8,none, .mv (.t 0)⟩,⟨some 9,none, .nilc (.t 8)⟩,⟨some 10,none, .fa 1 (.t 9)⟩,⟨some 11,none, .ld false 1 (.t 10)⟩,⟨some 12,none, .len (.t 11)⟩,⟨some 13,none, .ust te (.t 7) (.t 12)⟩,⟨some 2,none, .mv (.t 13)⟩] [some (0,0),some (0,0),some (0,0),some (0,0),some (0,0),some (0,0),some (0,0),some (0,0),some (0,0),some (0,0),none,some (1,1)])
 .ret))⟩
section
variable{tb:Di}{tB te ncc nne nws nwb nbs:Nat}{h:Az}{id:Nat}{a b:AV}
theorem Hd{cs:List AV}{l:Option Nat}(hh:h[id]? =some (.cells l cs)):C3 h id=some cs∧ED h id=l:=⟨by simp only[C3,hh],by simp only[ED,hh]⟩
theorem mG{els:List (List AV)}{l:Option Nat}{fz:Bool}{sz:Nat}(hh:h[id]? =some (.row l fz sz els)):rowAt h id=some (fz,sz,els)∧ED h id=l:=⟨by simp only[rowAt,hh],by simp only[ED,hh]⟩
theorem MK(fn:Bool)(n:Nat)(h:Az)(hn:h.length=n)(vs:List AV)(hv:B0 vs=0): ∃u,YX fn n h vs=(GN vs,some u)∧u=h:=by
 have h1:jI h n vs=some vs:=by
  unfold jI
  exact Pj (by omega)
 have h2:h.take n=h:=by rw[←hn];exact kj
 cases fn
 ·simp only[YX,Zn,h1,h2]
  split<;>exact⟨_,rfl,rfl⟩
 ·exact⟨_,rfl,rfl⟩
theorem Vv(n:Nat)(h:Az)(hn: ¬D1 (h.take n)≤n)(vs:List AV)(hv:B0 vs=0)(fn:Bool):YX fn n h vs=(GN vs,some h):=by
 have h1:jI h n vs=some vs:=by
  unfold jI
  exact Pj (by omega)
 cases fn
 ·simp only[YX,Zn,h1,qo hn]
 ·rfl
theorem Ya(hf:tb.prim ncc=none∧tb.fns ncc=some (NR tB nne))(hne:tb.prim nne=some PW)(hh:h[id]? =some (.cells (some tB) [a,b]))(ha:a= .nilp∨a= .ptr id 0):
  BK tb (CC tb) h ncc [.ptr id 0]=some (.tup [],some (h.set id (.cells (some tB) [.ptr id 0,b]))):=by
 obtain⟨hc,hl⟩:=Hd hh
 have hid:=(ca.1 hh).1
 simp only[BK,hf.1]
 rw[Rb,hf.2]
 rcases ha with rfl|rfl
 ·obtain⟨u,hu,rfl⟩:=MK false h.length (h.set id (.cells (some tB) [.ptr id 0,b])) (by simp) [] rfl
  simp[body,NR,Bj,rg,ops,wanted,BC,eval,get,put,val,load,place,shift,hc,hl,Iq,sub,qL,BK,hne,PW,store,cellsOf,BA,results,hu,GN]
 ·have hs:h.set id (.cells (some tB) [.ptr id 0,b])=h:=by
   apply ii
   intro j
   rw[k4]
   split
   ·rename_i hj;subst hj;exact hh.symm
   ·rfl
  obtain⟨u,hu,rfl⟩:=MK false h.length h rfl [] rfl
  simp[body,NR,Bj,rg,ops,wanted,BC,eval,get,put,val,load,place,shift,hc,Iq,sub,qL,results,hu,GN,hs]
theorem LD(s:AG):(BQ s).length=s.length:=by simp[BQ]
theorem pP(s t:AG):BQ (s++t)=BQ s++BQ t:=by simp[BQ]
theorem mC{h:Az}{o:CB}(hh:h[id]? =some o):h.set id o=h:=by
 apply ii
 intro j
 rw[k4]
 split
 ·rename_i hj;subst hj
  split
  ·exact hh.symm
  ·rename_i hn;exact absurd (ca.1 hh).1 hn
 ·rfl
inductive aU(tB te:Nat)(h:Az)(id:Nat)(s:AG):Az→Prop where
 |none {a:AV} (hh:h[id]? =some (.cells (some tB) [a, .nils])) (ha:a= .nilp∨a= .ptr id 0) (hs:s=[]):aU tB te h id s (h.set id (.cells (some tB) [.ptr id 0, .nils]))
 |first {a:AV} (hh:h[id]? =some (.cells (some tB) [a, .nils])) (ha:a= .nilp∨a= .ptr id 0) (hs:s≠[]) (hm:s.length≤Bs):
  aU tB te h id s (h.set id (.cells (some tB) [.ptr id 0, .orow h.length s.length 0 s.length])++[.row (some te) false 1 (BQ s)])
 |more {r:Nat} {l:AG} (hh:h[id]? =some (.cells (some tB) [.ptr id 0, .orow r l.length 0 l.length])) (hr:h[r]? =some (.row (some te) false 1 (BQ l))) (hne:r≠id) (hm:l.length+s.length≤Bs):
  aU tB te h id s ((h.set r (.row (some te) false 1 (BQ (l++s)))).set id (.cells (some tB) [.ptr id 0, .orow r (l++s).length 0 (l++s).length]))
theorem fR{s:AG}{G:Az}(hid:id<h.length)(hG:G=h.set id (.cells (some tB) [.ptr id 0, .orow h.length s.length 0 s.length])++[.row (some te) false 1 (BQ s)]): ¬D1 (G.take h.length)≤h.length:=by
 have h1:G.take h.length=h.set id (.cells (some tB) [.ptr id 0, .orow h.length s.length 0 s.length]):=by
  rw[hG];exact il (by simp)
 rw[h1]
 have key: ∀(h:Az) (id:Nat) (o:CB) (m:Nat),id<h.length→m<E7 o→m<D1 (h.set id o):=by
  intro h
  induction h with
  |nil=>intro id o m hi;simp at hi
  |cons x h ih=>
   intro id o m hi ho
   cases id with
   |zero=>simp only[ir,D1];omega
   |succ id=>simp only[jo,D1];have:=ih id o m (by simpa using hi) ho;omega
 have:=key h id (.cells (some tB) [.ptr id 0, .orow h.length s.length 0 s.length]) h.length hid (by simp only[E7,B0,Cc];omega)
 omega
theorem Om{d:Option Nat}{o:HB}{l:List Br}{f:Fr}{v:AV}{u:Option Az}{r:Option (Fr×Az)}(e:BC tb (CC tb) (eval tb f) h o=some (v,u))(k:ops tb (CC tb) l (put f d v) (u.getD h)=r):ops tb (CC tb) (⟨d,none,o⟩::l) f h=r:=by
 simp[ops,wanted,e,k]
theorem J8{l:List Br}{y:AC}{f f':Fr}{h':Az}(e:ops tb (CC tb) l f h=some (f',h')):Bj tb (CC tb) (.seq (rg false l) y) f h=Bj tb (CC tb) y f' h':=by
 simp[Bj,rg,e]
theorem stR{N j:Nat}{d:Option Nat}{o:HB}{l:List Br}{w:List (Option (Nat×Nat))}{y:Nat×Nat}{f:Fr}{v:AV}{p:Fr×Az}(e:BC tb (CC tb) (eval tb f) h o=some (v,none))(k:Nl tb (CC tb) N j [] [] l w (put f d v) h p)(hq:QB N j y.1 y.2 o=true:=by rfl):Nl tb (CC tb) N j [] [] (⟨d,none,o⟩::l) (some y::w) f h p:=by
 obtain⟨lo,hi⟩:=y
 refine .inl ⟨rfl,(v,none),e,rfl,rfl, .inl ⟨by rw[hq];rfl,?_⟩⟩
 simp only[pX,hq,cond_true]
 exact k
theorem stW{N j:Nat}{d:Option Nat}{o:HB}{l:List Br}{w:List (Option (Nat×Nat))}{f:Fr}{v:AV}{u:Option Az}{p:Fr×Az}(e:BC tb (CC tb) (eval tb f) h o=some (v,u))(k:Nl tb (CC tb) N (j+1) [] [] l w (put f d v) (u.getD h) p):Nl tb (CC tb) N j [] [] (⟨d,none,o⟩::l) (none::w) f h p:=
 .inl ⟨rfl,(v,u),[],e,rfl,(fun _ hm=>absurd hm (by simp)),(fun _ hx=>absurd hx (by simp)),k⟩
theorem stE{N:Nat}{f:Fr}:Nl tb (CC tb) N N [] [] [] [] f h (f,h):=⟨rfl,rfl⟩
theorem uZ{x y:AC}{f f':Fr}{h':Az}(e:Bj tb (CC tb) x f h=some (.normal,f',h')):Bj tb (CC tb) (.seq x y) f h=Bj tb (CC tb) y f' h':=by
 simp[Bj,e]
theorem fS{cl:Nat→List AV→Az→Mb}{rho:AO→AV}{x:AO}{ag:Bool}{n:Nat}{v:AV}(e:load h ag n (rho x)=some v):BC tb cl rho h (.ld ag n x)=some (v,none):=by simp[BC,e,val]
theorem ap_app{cl:Nat→List AV→Az→Mb}{rho:AO→AV}{s x:AO}{t sz b:Nat}{new:List (List AV)}{r:AV×Option Az}(e:mW h sz (rho x)=some new)(e':Wg h t sz b (rho s) new=some r):BC tb cl rho h (.app t sz b s x)=some r:=by simp[BC,e,e']
theorem ap_st{cl:Nat→List AV→Az→Mb}{rho:AO→AV}{a x:AO}{n:Nat}{G:Az}(e:store h n (rho a) (rho x)=some G):BC tb cl rho h (.st n a x)=some (.junk,some G):=by simp[BC,e]
theorem ap_len{cl:Nat→List AV→Az→Mb}{rho:AO→AV}{x:AO}{n:Nat}(e:Pn (rho x)=some n):BC tb cl rho h (.len x)=some (.i .i64 n,none):=by simp[BC,e]
theorem Yb{rho:AO→AV}{g:Nat}{xs:List AO}{r:AV×Option Az}(e:BK tb (CC tb) h g (xs.map rho)=some r):BC tb (CC tb) rho h (.call g xs)=some r:=by simp only[BC];exact e
theorem ws_run{s:AG}{h1 G:Az}{bv bv':AV}{u2:Option Az}(hc:BK tb (CC tb) h ncc [.ptr id 0]=some (.tup [],some h1))(hld:load h1 false 1 (.ptr id 1)=some bv)(hap:Wg h1 te 1 1 bv (BQ s)=some (bv',u2))(hst:store (u2.getD h1) 1 (.ptr id 1) bv'=some G):
  ∃f',Bj tb (CC tb) (Ye te ncc).body [(0, .ptr id 0),(1, .s s)] h=some (.ret,f',G)∧results f' G [.tmp 4, .tmp 5]=some [.i .i64 s.length, .nili]:=by
 apply Exists.intro
 apply And.intro
 ·unfold Ye
  simp only
  refine(J8 (Om (v:= .i .i64 0) (u:=none) rfl (Om (v:= .nili) (u:=none) rfl rfl))).trans ?_
  refine(J8 (Om (v:= .ptr id 0) (u:=none) rfl (Om (v:= .tup []) (u:=some h1) (Yb (by exact hc)) rfl))).trans ?_
  refine(J8 (Om (v:= .ptr id 0) (u:=none) rfl (Om (v:= .ptr id 0) (u:=none) rfl (Om (v:= .ptr id 0) (u:=none) rfl (Om (v:= .ptr id 1) (u:=none) rfl (Om (v:=bv) (u:=none) (fS (by exact hld))
   (Om (v:= .s s) (u:=none) rfl (Om (v:=bv') (u:=u2) (ap_app (new:=BQ s) rfl (by exact hap)) (Om (v:= .ptr id 0) (u:=none) rfl (Om (v:= .ptr id 1) (u:=none) rfl
   (Om (v:= .junk) (u:=some G) (ap_st (by exact hst)) rfl))))))))))).trans ?_
  refine(J8 (Om (v:= .s s) (u:=none) rfl (Om (v:= .i .i64 s.length) (u:=none) rfl (Om (v:= .i .i64 s.length) (u:=none) rfl (Om (v:= .nili) (u:=none) rfl rfl))))).trans ?_
  rfl
 ·rfl
theorem wb_run{c:UInt8}{h1 G:Az}{bv bv':AV}{u2:Option Az}(hc:BK tb (CC tb) h ncc [.ptr id 0]=some (.tup [],some h1))(hld:load h1 false 1 (.ptr id 1)=some bv)(hap:Wg h1 te 1 1 bv (BQ [c])=some (bv',u2))(hst:store (u2.getD h1) 1 (.ptr id 1) bv'=some G):
  ∃f',Bj tb (CC tb) (Yf te ncc).body [(0, .ptr id 0),(1, .i .u8 c.toNat)] h=some (.ret,f',G)∧results f' G [.tmp 4]=some [.nili]:=by
 apply Exists.intro
 apply And.intro
 ·unfold Yf
  simp only
  refine(J8 (Om (v:= .nili) (u:=none) rfl rfl)).trans ?_
  refine(J8 (Om (v:= .ptr id 0) (u:=none) rfl (Om (v:= .tup []) (u:=some h1) (Yb (by exact hc)) rfl))).trans ?_
  refine(J8 (Om (v:= .ptr id 0) (u:=none) rfl (Om (v:= .ptr id 0) (u:=none) rfl (Om (v:= .ptr id 0) (u:=none) rfl (Om (v:= .ptr id 1) (u:=none) rfl (Om (v:=bv) (u:=none) (fS (by exact hld))
   (Om (v:= .i .u8 c.toNat) (u:=none) rfl (Om (v:= .sl 1 (BQ [c])) (u:=none) rfl (Om (v:=bv') (u:=u2) (ap_app (new:=BQ [c]) rfl (by exact hap)) (Om (v:= .ptr id 0) (u:=none) rfl (Om (v:= .ptr id 1) (u:=none) rfl
   (Om (v:= .junk) (u:=some G) (ap_st (by exact hst)) rfl)))))))))))).trans ?_
  refine(J8 (Om (v:= .nili) (u:=none) rfl rfl)).trans ?_
  rfl
 ·rfl
theorem Zz(hcc:tb.prim ncc=none∧tb.fns ncc=some (NR tB nne))(hne:tb.prim nne=some PW){s:AG}{G:Az}(hg:aU tB te h id s G):
  ∃h1 bv bv' u2,BK tb (CC tb) h ncc [.ptr id 0]=some (.tup [],some h1)∧load h1 false 1 (.ptr id 1)=some bv∧Wg h1 te 1 1 bv (BQ s)=some (bv',u2)∧store (u2.getD h1) 1 (.ptr id 1) bv'=some G∧
   (G.length=h.length∨ ¬D1 (G.take h.length)≤h.length):=by
 cases hg with
 |none hh ha hs=>
  subst hs
  have hc:=Ya hcc hne hh ha
  have hid:=(ca.1 hh).1
  have h2:=Hd (h:=h.set id (.cells (some tB) [.ptr id 0, .nils])) (dg hid)
  refine⟨_, .nils, .nils,none,hc,?_,?_,?_, .inl (by simp)⟩
  ·simp[load,place,h2.1,Iq,sub]
  ·simp[Wg,BQ]
  ·simp[store,h2.1,h2.2,cellsOf,BA]
 |first hh ha hs hm=>
  have hc:=Ya hcc hne hh ha
  have hid:=(ca.1 hh).1
  have h2:=Hd (h:=h.set id (.cells (some tB) [.ptr id 0, .nils])) (dg hid)
  have hid':id<(h.set id (CB.cells (some tB) [.ptr id 0, .nils])).length:=by simpa using hid
  have h3:(h.set id (CB.cells (some tB) [.ptr id 0, .nils])++[CB.row (some te) false 1 (BQ s)])[id]? =some (.cells (some tB) [.ptr id 0, .nils]):=by
   rw[br hid']
   exact dg hid
  have h4:=Hd h3
  have hs0: ¬s.length=0:=by simpa using hs
  refine⟨_, .nils, .orow h.length s.length 0 s.length,some (h.set id (CB.cells (some tB) [.ptr id 0, .nils])++[CB.row (some te) false 1 (BQ s)]),hc,?_,?_,?_, .inr (fR (te:=te) (tB:=tB) (s:=s) hid rfl)⟩
  ·simp[load,place,h2.1,Iq,sub]
  ·simp[Wg,LD,hs,hm]
  ·simp[store,h4.1,h4.2,cellsOf,BA]
   rw[nz _ _ hid',List.set_set]
 | @more r l hh hr hne' hm=>
  have hc:=Ya hcc hne hh (.inr rfl)
  rw[mC hh]at hc
  have h1:=Hd hh
  have hrow:=mG hr
  by_cases hs:s=[]
  ·subst hs
   have hm':l.length≤Bs:=by simpa using hm
   refine⟨_, .orow r l.length 0 l.length, .orow r l.length 0 l.length,none,hc,?_,?_,?_, .inl (by simp)⟩
   ·simp[load,place,h1.1,Iq,sub]
   ·simp[Wg,hrow.1,LD,hm',BQ]
   ·simp[store,h1.1,h1.2,cellsOf,BA,mC hr]
  ·have h2:(h.set r (CB.row (some te) false 1 (BQ (l++s))))[id]? =some (.cells (some tB) [.ptr id 0, .orow r l.length 0 l.length]):=by
    rw[dx hne'];exact hh
   have h3:=Hd h2
   have hs0: ¬s.length=0:=by simpa using hs
   refine⟨_, .orow r l.length 0 l.length, .orow r (l++s).length 0 (l++s).length,some (h.set r (CB.row (some te) false 1 (BQ (l++s)))),hc,?_,?_,?_, .inl (by simp)⟩
   ·simp[load,place,h1.1,Iq,sub]
   ·simp[Wg,hrow.1,hrow.2,LD,pP,hm,hs,W9]
   ·simp[store,h3.1,h3.2,cellsOf,BA]
theorem PJ{fn:CI}{args vs:List AV}{f f':Fr}{G:Az}{e:Ex}(hn:args.length=fn.np)(hf:(args.zipIdx.map fun p=>(p.2,p.1))=f)(he:Bj tb (CC tb) fn.body f h=some (e,f',G))(hex:e= .ret∨e= .normal)(hr:results f' G fn.res=some vs):
  body tb (CC tb) fn args h=some (YX fn.warm h.length G vs):=by
 simp only[body,qn hn,hf,he,aa]
 rcases hex with rfl|rfl<;>simp[hr]
theorem ws_eval(hf:tb.prim nws=none∧tb.fns nws=some (Ye te ncc))(hcc:tb.prim ncc=none∧tb.fns ncc=some (NR tB nne))(hne:tb.prim nne=some PW){s:AG}{G:Az}(hg:aU tB te h id s G):
  BK tb (CC tb) h nws [.ptr id 0, .s s]=some (.tup [.i .i64 s.length, .nili],some G):=by
 obtain⟨h1,bv,bv',u2,a1,a2,a3,a4,a5⟩:=Zz hcc hne hg
 obtain⟨f',e1,e2⟩:=ws_run a1 a2 a3 a4
 simp only[BK,hf.1]
 rw[Rb,hf.2]
 simp only[aa]
 rw[PJ (tb:=tb) (h:=h) (fn:=Ye te ncc) (args:=[.ptr id 0, .s s]) rfl rfl e1 (.inl rfl) e2]
 rcases a5 with a5|a5
 ·obtain⟨u,hu,rfl⟩:=MK false h.length G a5 [.i .i64 s.length, .nili] rfl
  exact qv some hu
 ·exact qv some (Vv h.length G a5 [.i .i64 s.length, .nili] rfl false)
theorem wb_eval(hf:tb.prim nwb=none∧tb.fns nwb=some (Yf te ncc))(hcc:tb.prim ncc=none∧tb.fns ncc=some (NR tB nne))(hne:tb.prim nne=some PW){c:UInt8}{G:Az}(hg:aU tB te h id [c] G):
  BK tb (CC tb) h nwb [.ptr id 0, .i .u8 c.toNat]=some (.nili,some G):=by
 obtain⟨h1,bv,bv',u2,a1,a2,a3,a4,a5⟩:=Zz hcc hne hg
 obtain⟨f',e1,e2⟩:=wb_run a1 a2 a3 a4
 simp only[BK,hf.1]
 rw[Rb,hf.2]
 simp only[aa]
 rw[PJ (tb:=tb) (h:=h) (fn:=Yf te ncc) (args:=[.ptr id 0, .i .u8 c.toNat]) rfl rfl e1 (.inl rfl) e2]
 rcases a5 with a5|a5
 ·obtain⟨u,hu,rfl⟩:=MK false h.length G a5 [.nili] rfl
  exact qv some hu
 ·exact qv some (Vv h.length G a5 [.nili] rfl false)
theorem fN: ∀l:AG,EY (BQ l)=some l
 |[]=>rfl
 |c::l=>by
  have:=fN l
  simp only[BQ,bn,EY]at this ⊢
  rw[this]
  simp
theorem bs_run{G:Az}{bv pv:AV}{n:Nat}{s:AG}{u2:Option Az}(hld:load h false 1 (.ptr id 1)=some bv)(hus:BC tb (CC tb) (fun _=>bv) h (.usd (.t 0))=some (pv,none))(hln:Pn bv=some n)
  (hst:BC tb (CC tb) (fun a=>match a with| .t 0=>pv|_=> .i .i64 n) h (.ust te (.t 0) (.t 1))=some (.s s,u2)) (hG:u2.getD h=G):
  ∃f',Bj tb (CC tb) (TI te).body [(0, .ptr id 0)] h=some (.ret,f',G)∧results f' G [.tmp 2]=some [.s s]:=by
 subst hG
 apply Exists.intro
 apply And.intro
 ·unfold TI
  simp only
  refine(J8 (Om (v:= .s []) (u:=none) rfl rfl)).trans ?_
  refine(uZ (fH (n:=1) (p:=(_,u2.getD h))
   (stR (v:= .ptr id 0) rfl (stR (v:= .ptr id 0) rfl (stR (v:= .ptr id 1) rfl (stR (v:=bv) (fS (by exact hld)) (stR (v:=pv) (by exact hus) (stR (v:= .ptr id 0) rfl (stR (v:= .ptr id 0) rfl (stR (v:= .ptr id 1) rfl (stR (v:=bv) (fS (by exact hld)) (stR (v:= .i .i64 n) (ap_len (by exact hln))
    (stW (v:= .s s) (u:=u2) (by exact hst) (stR (v:= .s s) rfl stE)))))))))))))).trans ?_
  rfl
 ·rfl
theorem pQ(hf:tb.prim nbs=none∧tb.fns nbs=some (TI te))(hh:h[id]? =some (.cells (some tB) [a, .nils])):BK tb (CC tb) h nbs [.ptr id 0]=some (.s [],some h):=by
 have hcl:=(Hd hh).1
 obtain⟨f',e1,e2⟩:=bs_run (tb:=tb) (te:=te) (h:=h) (id:=id) (G:=h) (bv:= .nils) (pv:= .nilp) (n:=0) (s:=[]) (u2:=none) (by simp[load,place,hcl,Iq,sub]) rfl rfl (by simp[BC,HE]) rfl
 simp only[BK,hf.1]
 rw[Rb,hf.2]
 simp only[aa]
 rw[PJ (tb:=tb) (h:=h) (fn:=TI te) (args:=[.ptr id 0]) rfl rfl e1 (.inl rfl) e2]
 obtain⟨u,hu,rfl⟩:=MK false h.length h rfl [.s []] rfl
 exact qv some hu
theorem bs_eval(hf:tb.prim nbs=none∧tb.fns nbs=some (TI te)){r:Nat}{l:AG}(hh:h[id]? =some (.cells (some tB) [a, .orow r l.length 0 l.length]))(hr:h[r]? =some (.row (some te) false 1 (BQ l)))(hl:l≠[])(hm:l.length≤Bs):
  BK tb (CC tb) h nbs [.ptr id 0]=some (.s l,some (h.set r (.row (some te) true 1 (BQ l)))):=by
 have hcl:=(Hd hh).1
 have hrow:=mG hr
 have hpos:0<l.length:=lr.2 hl
 have htk:(BQ l).take l.length=BQ l:=av (by simp[BQ])
 obtain⟨f',e1,e2⟩:=bs_run (tb:=tb) (te:=te) (h:=h) (id:=id) (G:=h.set r (.row (some te) true 1 (BQ l))) (bv:= .orow r l.length 0 l.length) (pv:= .pe r l.length 0 0) (n:=l.length) (s:=l) (u2:=some (h.set r (.row (some te) true 1 (BQ l))))
  (by simp[load,place,hcl,Iq,sub]) (by simp[BC,hrow.1,LD,hpos]) rfl (by simp[BC,HE,hrow.1,hrow.2,LD,hpos,htk,fN,show(l.length:Int)≤Bs by omega]) rfl
 simp only[BK,hf.1]
 rw[Rb,hf.2]
 simp only[aa]
 rw[PJ (tb:=tb) (h:=h) (fn:=TI te) (args:=[.ptr id 0]) rfl rfl e1 (.inl rfl) e2]
 obtain⟨u,hu,rfl⟩:=MK false h.length (h.set r (.row (some te) true 1 (BQ l))) (by simp) [.s l] rfl
 exact qv some hu
end
end
section
def PP(tB te:Nat)(g:Bool):Dom where
 α:=AG
 R:=fun F _ H v l=> ∃id,v= .ptr id 0∧((g=false∧l=[]∧ ∃a,(a= .nilp∨a= .ptr id 0)∧H[id]? =some (.cells (some tB) [a, .nils])∧ ∀i,F i↔i=id)∨
  ((g=true∨l≠[])∧ ∃r,r≠id∧H[id]? =some (.cells (some tB) [.ptr id 0, .orow r l.length 0 l.length])∧H[r]? =some (.row (some te) false 1 (BQ l))∧ ∀i,F i↔(i=id∨i=r)))
 lt:=by
  rintro F P H v l ⟨id,_,⟨_,_,a,_,h,hF⟩|⟨_,r,_,h,h',hF⟩⟩ i hi
  ·obtain rfl:=(hF i).1 hi;exact Bl h
  ·rcases(hF i).1 hi with rfl|rfl
   ·exact Bl h
   ·exact Bl h'
 men:=by
  rintro F P H v l m ⟨id,rfl,⟨_,_,a,_,h,hF⟩|⟨_,r,_,h,h',hF⟩⟩ _ hm
  ·exact hm id ((hF id).2 rfl)
  ·exact hm id ((hF id).2 (.inl rfl))
 mono:=by
  rintro F P Q H G v l _ hG ⟨id,hv,⟨h0,h1,a,h2,h,hF⟩|⟨h0,r,h1,h,h',hF⟩⟩
  ·exact⟨id,hv, .inl ⟨h0,h1,a,h2,by rw[hG id ((hF id).2 rfl)];exact h,hF⟩⟩
  ·exact⟨id,hv, .inr ⟨h0,r,h1,by rw[hG id ((hF id).2 (.inl rfl))];exact h,by rw[hG r ((hF r).2 (.inr rfl))];exact h',hF⟩⟩
def DUsed:Dom where
 α:=Unit
 R:=fun F _ H v _=>(∀i,F i→i<H.length)∧ ∃id,v= .ptr id 0∧F id
 lt:=fun h=>h.1
 men:=by rintro F P H v x m ⟨_,id,rfl,h⟩ _ hm;exact hm id h
 mono:=by
  rintro F P Q H G v x _ hG ⟨h,id,hv,hi⟩
  refine⟨fun i hi=> ?_,id,hv,hi⟩
  have h1:=h i hi
  have h2:=hG i hi
  rw[ad h1]at h2
  exact Bl h2
theorem Pi(l:AG):Dc (BQ l)=0:=by
 have:=(fT (P:=fun _=>False) (H:=[]) l).men (m:=0) (fun _ h=>h.elim)
 omega
section
variable{tb:Di}{tB te ncc nne nws nwb nbs:Nat}
theorem pT{g:Bool}{F P:Nat→Prop}{H:Az}{v:AV}{l s:AG}(hw:D1 H≤H.length)(h:(PP tB te g).R F P H v l)(hm:l.length+s.length≤Bs):
  ∃id G F',v= .ptr id 0∧aU tB te H id s G∧H.length≤G.length∧(∀i,i<H.length→ ¬F i→G[i]? =H[i]?)∧(∀i,F' i→F i∨(H.length≤i∧i<G.length))∧D1 G≤G.length∧ ∀Q,(PP tB te g).R F' Q G v (l++s):=by
 obtain⟨id,hv,⟨h0,h1,a,ha,hh,hF⟩|⟨h0,r,hne,hh,hr,hF⟩⟩:=h
 ·subst h1
  have hid:=Bl hh
  by_cases hs:s=[]
  ·subst hs
   refine⟨id,_,F,hv, .none hh ha rfl,by simp,fun i _ hi=>dx fun e=>hi ((hF i).2 e.symm),fun i hi=> .inl hi,?_,fun Q=>⟨id,hv, .inl ⟨h0,rfl,_, .inr rfl,dg hid,hF⟩⟩⟩
   simp only[fy]
   exact Ic hw (by simp only[E7,B0,Cc];omega)
  ·refine⟨id,_,fun i=>i=id∨i=H.length,hv, .first hh ha hs (by simpa using hm),by simp,fun i hi hn=> ?_,fun i hi=> ?_,?_,fun Q=>⟨id,hv, .inr ⟨.inr (by simpa using hs),H.length,by omega,?_,?_,fun i=>o9⟩⟩⟩
   ·rw[br (by simpa using hi)]
    exact dx fun e=>hn ((hF i).2 e.symm)
   ·rcases hi with rfl|rfl
    ·exact .inl ((hF _).2 rfl)
    ·exact .inr ⟨be _,by simp⟩
   ·rw[RN]
    have:=Ic (l:=H) (i:=id) (o:= .cells (some tB) [.ptr id 0, .orow H.length s.length 0 s.length]) (m:=H.length+1) (by omega) (by simp only[E7,B0,Cc];omega)
    simp only[D1,E7,Pi,aw,fy,bb,bz]
    omega
   ·rw[br (by simpa using hid),dw]
    exact dg hid
   ·rw[bo (by simp)];simp
 ·have hid:=Bl hh
  have hrd:=Bl hr
  refine⟨id,_,F,hv, .more hh hr hne hm,by simp,fun i _ hi=> ?_,fun i hi=> .inl hi,?_,fun Q=>⟨id,hv, .inr ⟨?_,r,hne,?_,?_,hF⟩⟩⟩
  ·rw[dx (fun e=>hi ((hF i).2 (.inl e.symm))),dx (fun e=>hi ((hF i).2 (.inr e.symm)))]
  ·simp only[fy]
   exact Ic (Ic hw (by simp only[E7,Pi];omega)) (by simp only[E7,B0,Cc];omega)
  ·rcases h0 with h0|h0
   ·exact .inl h0
   ·exact .inr (by simp[h0])
  ·exact dg (by simpa using hid)
  ·rw[dx (jz hne)]
   exact dg hrd
variable{Γ:Cx}{a b:AO}
theorem uM{d:Nat}{z:List AV}(j:Nat)(te:Nat)(hz:z=[.nilp, .nils])(hj:AM Γ.ss j=none):XN tb Γ (some d) (.alloc tB z) (some ([]:AG)) fun l=>⟨(d, .own j)::Γ.ts,(j, .dom (PP tB te false) l)::Γ.ss⟩:=by
 rintro E rv fp f H R _ ⟨⟩
 subst hz
 obtain⟨rv',fp',h1,h2,h3⟩:=R.more (j:=j) (S:= .dom (PP tB te false) []) (v:= .ptr H.length 0) (o:= .cells (some tB) [.nilp, .nils]) (Ht hj) (by simp only[E7,B0,Cc];omega) rfl (by simp[Cc]) rfl fun rv' fp' e1 e2 hP hs=>
  ⟨H.length,e1, .inl ⟨rfl,rfl, .nilp, .inl rfl,by simp,e2⟩⟩
 exact⟨_,_,rfl,rv',fp',h3.push (d:=d) (φ:= .own j) ⟨h2,h1.symm⟩⟩
theorem B8.dom{E:R7}{rv:Nat→AV}{fp:Fp}{f:Fr}{H G:Az}(R:B8 E Γ rv fp f H){j:Nat}{S:BY}{D:Dom}{y:D.α}(hnk:DH (AM Γ.ss j)=false)(hl:Bo Γ.ss j){F':Nat→Prop}(hlen:H.length≤G.length)(hG: ∀i,i<H.length→ ¬fp j i→G[i]? =H[i]?)
  (hF: ∀i,F' i→fp j i∨(H.length≤i∧i<G.length)) (hw:D1 G≤G.length) (hS:S= .dom D y) (hR: ∀Q,D.R F' Q G (rv j) y):
  ∃rv' fp',rv' j=rv j∧Bo ((j,S)::Γ.ss) j∧B8 E ⟨Γ.ts,(j,S)::Γ.ss⟩ rv' fp' f G:=by
 subst hS
 exact R.chg (j:=j) (S:= .dom D y) (v:=rv j) (F:=F') (G:=G) hnk rfl hlen (fun i hi hn=>hG i hi (hn hl)) (fun i hi=>(hF i hi).imp (fun h=>⟨hl,h⟩) id) (fun _=> .inl rfl) hw (dy (R.rvlt j hl) hlen) (.inr ((R.scal j hl).resolve_left (by rw[hnk];simp)))
  fun rv' fp' e1 e2 _ _=>by
   show D.R (fp' j) _ G (rv' j) y
   rw[e1,e2];exact hR _
def Nm(l s:AG):Option AG:=if l.length+s.length≤Bs then some (l++s)else none
theorem aT{g:Bool}{d j:Nat}{l s:AG}(hcc:tb.prim ncc=none∧tb.fns ncc=some (NR tB nne))(hne:tb.prim nne=some PW)(hf:tb.prim nws=none∧tb.fns nws=some (Ye te ncc))
  (ha:Cd tb Γ a (.own j)) (hj:AM Γ.ss j=some (.dom (PP tB te g) l)) (hb:Cd tb Γ b (.val Ak s)):
  XN tb Γ (some d) (.call nws [a,b]) (Nm l s) fun l'=>⟨(d, .junk)::Γ.ts,(j, .dom (PP tB te g) l')::Γ.ss⟩:=by
 intro E rv fp f H R l' hl'
 simp only[Nm]at hl'
 split at hl'
 ·rename_i hm
  cases hl'
  obtain⟨hl,hv⟩:=ha E rv fp f H R
  obtain⟨id,G,F',e,hg,h1,h2,h3,h4,h5⟩:=pT (s:=s) R.wf (R.slots j _ hj) hm
  obtain⟨rv',fp',g1,g2,g3⟩:=R.dom (G:=G) (F':=F') (by rw[hj];rfl) hl h1 h2 h3 h4 rfl h5
  refine⟨.tup [.i .i64 s.length, .nili],some G,?_,rv',fp',g3.push (d:=d) (φ:= .junk) trivial⟩
  simp only[BC,bn,ew,hv,e,Ep.1 (hb E rv fp f H R)]
  exact ws_eval hf hcc hne hg
 ·cases hl'
theorem M_bldB{g:Bool}{d j:Nat}{l:AG}{c:UInt8}(hcc:tb.prim ncc=none∧tb.fns ncc=some (NR tB nne))(hne:tb.prim nne=some PW)(hf:tb.prim nwb=none∧tb.fns nwb=some (Yf te ncc))
  (ha:Cd tb Γ a (.own j)) (hj:AM Γ.ss j=some (.dom (PP tB te g) l)) (hb:Cd tb Γ b (.val a7 c)):
  XN tb Γ (some d) (.call nwb [a,b]) (Nm l [c]) fun l'=>⟨(d, .junk)::Γ.ts,(j, .dom (PP tB te g) l')::Γ.ss⟩:=by
 intro E rv fp f H R l' hl'
 simp only[Nm]at hl'
 split at hl'
 ·rename_i hm
  cases hl'
  obtain⟨hl,hv⟩:=ha E rv fp f H R
  obtain⟨id,G,F',e,hg,h1,h2,h3,h4,h5⟩:=pT (s:=[c]) R.wf (R.slots j _ hj) hm
  obtain⟨rv',fp',g1,g2,g3⟩:=R.dom (G:=G) (F':=F') (by rw[hj];rfl) hl h1 h2 h3 h4 rfl h5
  refine⟨.nili,some G,?_,rv',fp',g3.push (d:=d) (φ:= .junk) trivial⟩
  simp only[BC,bn,ew,hv,e,Wj.1 (hb E rv fp f H R)]
  exact wb_eval hf hcc hne hg
 ·cases hl'
def kQ(g:Bool)(l:AG):Option AG:=if l.length≤Bs∧(g=true→l≠[])then some l else none
theorem uL{g:Bool}{d j:Nat}{l:AG}(hf:tb.prim nbs=none∧tb.fns nbs=some (TI te))(ha:Cd tb Γ a (.own j))(hj:AM Γ.ss j=some (.dom (PP tB te g) l)):
  XN tb Γ (some d) (.call nbs [a]) (kQ g l) fun l'=>⟨(d, .val Ak l')::Γ.ts,(j, .dom DUsed ())::Γ.ss⟩:=by
 intro E rv fp f H R l' hl'
 simp only[kQ]at hl'
 split at hl'
 ·rename_i hc
  obtain⟨hm,hg⟩:=hc
  cases hl'
  obtain⟨hl,hv⟩:=ha E rv fp f H R
  have hd:=R.slots j _ hj
  obtain⟨id,e,⟨h0,h1,x,hx,hh,hF⟩|⟨h0,r,hne',hh,hr,hF⟩⟩:=hd
  ·subst h1
   obtain⟨rv',fp',g1,g2,g3⟩:=R.dom (D:=DUsed) (y:=()) (G:=H) (F':=fp j) (by rw[hj];rfl) hl (be _) (fun _ _ _=>rfl) (fun i hi=> .inl hi) R.wf rfl (fun Q=>⟨fun i hi=>(R.fplt j i hl hi).1,id,e,(hF id).2 rfl⟩)
   refine⟨.s [],some H,?_,rv',fp',g3.push (d:=d) (φ:= .val Ak []) (Ep.2 rfl)⟩
   simp only[BC,bn,ew,hv,e]
   exact pQ hf hh
  ·have hl0:l≠[]:=by
    rcases h0 with h0|h0
    ·exact hg h0
    ·exact h0
   have hrd:=Bl hr
   obtain⟨rv',fp',g1,g2,g3⟩:=R.dom (D:=DUsed) (y:=()) (G:=H.set r (.row (some te) true 1 (BQ l))) (F':=fp j) (by rw[hj];rfl) hl (by simp) (fun i _ hn=>dx fun e=>hn ((hF i).2 (.inr e.symm))) (fun i hi=> .inl hi)
    (by simp only[fy];exact Ic R.wf (by simp only[E7,Pi];omega)) rfl (fun Q=>⟨fun i hi=>by simpa using (R.fplt j i hl hi).1,id,e,(hF id).2 (.inl rfl)⟩)
   refine⟨.s l,some (H.set r (.row (some te) true 1 (BQ l))),?_,rv',fp',g3.push (d:=d) (φ:= .val Ak l) (Ep.2 rfl)⟩
   simp only[BC,bn,ew,hv,e]
   exact bs_eval hf hh hr hl0 hm
 ·cases hl'
end
end
section
section
variable{tb:Di}{Γ:Cx}{a b:AO}{E:R7}{rv:Nat→AV}{fp:Fp}{f:Fr}{H:Az}
theorem Bp{n j:Nat}{φ:AW}(h:BM Γ.ts n=some (.kv j))(hj:AM Γ.ss j=some (.keep φ)):Cd tb Γ (.t n) φ:=by
 intro E rv fp f H I
 have h1:=(I.temps n _ h).2
 have h2:=(I.slots j _ hj).1
 show FR rv Γ.ss (Pf E Γ.ss fp H) H φ (get f n)
 rw[h1];exact h2
theorem BF{g:Nat}:Cd tb Γ (.f g) (.fnv (.func g) [] []):=fun _ _ _ _ _ _=>⟨fun j hj=>(by cases hj),rfl⟩
theorem B8.keepNew(I:B8 E Γ rv fp f H){j:Nat}{φ:AW}{v:AV}(hj:AM Γ.ss j=none)(h:FR rv Γ.ss (Pf E Γ.ss fp H) H φ v)(hv:Cc v≤H.length):
  ∃rv' fp',rv' j=v∧(∀k,k≠j→rv' k=rv k)∧B8 E ⟨Γ.ts,(j, .keep φ)::Γ.ss⟩ rv' fp' f H∧ ∀ψ w,FR rv Γ.ss (Pf E Γ.ss fp H) H ψ w→FR rv' ((j, .keep φ)::Γ.ss) (Pf E ((j, .keep φ)::Γ.ss) fp' H) H ψ w:=by
 have hnl:=Ht hj
 let rv':Nat→AV:=fun k=>if k=j then v else rv k
 let fp':Fp:=fun k=>if k=j then fun _=>False else fp k
 have hrj:rv' j=v:=qn rfl
 have hfj: ∀i,¬fp' j i:=fun i h=>by simp only[fp',qt]at h
 have hr: ∀k,k≠j→rv' k=rv k:=fun k hk=>qo hk
 have hf: ∀k,k≠j→fp' k=fp k:=fun k hk=>qo hk
 have hlv: ∀k,k≠j→(Bo ((j, .keep φ)::Γ.ss) k↔Bo Γ.ss k):=fun k hk=>V5 hk
 have hne: ∀k,Bo Γ.ss k→k≠j:=fun k l e=>hnl (e▸l)
 have hfind: ∀k,k≠j→AM ((j, .keep φ)::Γ.ss) k=AM Γ.ss k:=fun k hk=>by simp only[AM,qo (jz hk)]
 have hP: ∀i,Pf E Γ.ss fp H i→Pf E ((j, .keep φ)::Γ.ss) fp' H i:=by
  rintro i (h|⟨h1,h2,h3⟩)
  ·exact .inl h
  ·refine .inr ⟨h1,h2,fun k l e=> ?_⟩
   by_cases hk:k=j
   ·subst hk;exact hfj i e
   ·rw[hf k hk]at e;exact h3 k ((hlv k hk).1 l) e
 have hsame: ∀ψ,Wl rv rv' Γ.ss ((j, .keep φ)::Γ.ss) ψ:=fun ψ k _ l=>⟨⟨(hlv k (hne k l)).2 l,fun e=>by rw[hfind k (hne k l)];exact e⟩,hr k (hne k l)⟩
 have hFR: ∀ψ w,FR rv Γ.ss (Pf E Γ.ss fp H) H ψ w→FR rv' ((j, .keep φ)::Γ.ss) (Pf E ((j, .keep φ)::Γ.ss) fp' H) H ψ w:=fun ψ w k=>k.mono (fun i hi=>⟨hP i hi,rfl⟩) (hsame ψ)
 refine⟨rv',fp',hrj,hr,⟨I.le,I.base,I.wf,?_,?_,?_,?_,?_,fun t ψ e=>hFR ψ _ (I.temps t ψ e),?_⟩,hFR⟩
 ·intro k i l e
  by_cases hk:k=j
  ·subst hk;exact absurd e (hfj i)
  ·rw[hf k hk]at e;exact I.fplt k i ((hlv k hk).1 l) e
 ·intro k l
  by_cases hk:k=j
  ·subst hk;rw[hrj];exact hv
  ·rw[hr k hk];exact I.rvlt k ((hlv k hk).1 l)
 ·intro k l
  by_cases hk:k=j
  ·subst hk;exact .inl (by simp only[AM,qt];rfl)
  ·rw[hr k hk,hfind k hk];exact I.scal k ((hlv k hk).1 l)
 ·intro k k' i l l' e e'
  by_cases hk:k=j
  ·subst hk;exact absurd e (hfj i)
  ·by_cases hk':k'=j
   ·subst hk';exact absurd e' (hfj i)
   ·rw[hf k hk]at e
    rw[hf k' hk']at e'
    exact I.inj k k' i ((hlv k hk).1 l) ((hlv k' hk').1 l') e e'
 ·intro k S e
  by_cases hk:k=j
  ·subst hk
   simp only[AM,qt,ae]at e
   subst e
   exact⟨by rw[hrj];exact hFR φ v h,hfj⟩
  ·rw[hfind k hk]at e
   exact(I.slots k S e).keep (hr k hk) (hf k hk) (fun i hi=>⟨hP i hi,rfl⟩) (be _) (fun _ _=>rfl) (fun ps _ p _=>hsame p.2) (fun ψ _=>hsame ψ) fun _ _ _=>hsame _
 ·intro k ψ e
  by_cases hk:k=j
  ·subst hk;simp only[AM,qt]at e;cases e
  ·rw[hfind k hk]at e;exact hFR ψ _ (I.gh k ψ e)
def pZ:Nat→List AW→Ss→Ss
 |_,[],ss=>ss
 |j,φ::l,ss=>pZ (j+1) l ((j, .keep φ)::ss)
def VD(ss:Ss):Nat→List AW→Prop
 |_,[]=>True
 |j,_::l=>AM ss j=none∧VD ss (j+1) l
def qH(rv:Nat→AV)(ss:Ss)(P:Nat→Prop)(H:Az):List AW→List AV→Prop
 |[],[]=>True
 |φ::l,v::r=>FR rv ss P H φ v∧qH rv ss P H l r
 |_,_=>False
theorem WB{ss:Ss}{S:BY}{k:Nat}: ∀{l:List AW} {j:Nat},k<j→VD ss j l→VD ((k,S)::ss) j l
 |[],_,_,_=>trivial
 |_::_,j,hk,h=>⟨by simp only[AM,qo (show¬k=j by omega)];exact h.1,WB (by omega) h.2⟩
theorem pY{k:Nat}: ∀{l:List AW} {j:Nat} {ss:Ss},k<j→AM (pZ j l ss) k=AM ss k
 |[],_,_,_=>rfl
 |φ::l,j,ss,hk=>by
  rw[pZ,pY (by omega)]
  simp only[AM,qo (show¬j=k by omega)]
theorem B8.keepL: ∀{l:List AW} {vs:List AV} {Γ:Cx} {rv:Nat→AV} {fp:Fp} {j:Nat},B8 E Γ rv fp f H→VD Γ.ss j l→qH rv Γ.ss (Pf E Γ.ss fp H) H l vs→(∀v∈vs,Cc v≤H.length)→
  ∃rv' fp',(fh j l.length).map rv'=vs∧N0 (pZ j l Γ.ss) (fh j l.length)∧(∀k,k<j→rv' k=rv k)∧B8 E ⟨Γ.ts,pZ j l Γ.ss⟩ rv' fp' f H
 |[],[],Γ,rv,fp,j,I,_,_,_=>⟨rv,fp,rfl,fun _ h=>(by cases h),fun _ _=>rfl,I⟩
 |φ::l,v::vs,Γ,rv,fp,j,I,hf,hv,hm=>by
  obtain⟨rv1,fp1,h1,h2,h3,h4⟩:=I.keepNew hf.1 hv.1 (hm v bj)
  have key: ∀{l:List AW} {vs:List AV},qH rv Γ.ss (Pf E Γ.ss fp H) H l vs→qH rv1 ((j, .keep φ)::Γ.ss) (Pf E ((j, .keep φ)::Γ.ss) fp1 H) H l vs:=by
   intro l
   induction l with
   |nil=>intro vs h;cases vs<;>exact h
   |cons ψ l ih=>
    intro vs h
    cases vs with
    |nil=>exact h
    |cons w vs=>exact⟨h4 ψ w h.1,ih h.2⟩
  obtain⟨rv2,fp2,g1,g2,g3,g4⟩:=B8.keepL (l:=l) (vs:=vs) (j:=j+1) h3 (WB (by omega) hf.2) (key hv.2) (fun w hw=>hm w (bg _ hw))
  refine⟨rv2,fp2,?_,fun k hk=> ?_,fun k hk=>by rw[g3 k (by omega),h2 k (by omega)],g4⟩
  ·rw[bb,kg,bn,g1,g3 j (by omega),h1]
  ·rw[bb,kg]at hk
   rcases bu.1 hk with rfl|hk
   ·rw[pZ,pY (by omega)];simp only[AM,qt];rfl
   ·exact g2 k hk
inductive OpFs(tb:Di)(Γ:Cx):List AO→List AW→Prop where
 |nil:OpFs tb Γ [] []
 |cons {a:AO} {φ:AW} {l:List AO} {r:List AW}:Cd tb Γ a φ→OpFs tb Γ l r→OpFs tb Γ (a::l) (φ::r)
theorem OpFs.spec(I:B8 E Γ rv fp f H): ∀{l:List AO} {r:List AW},OpFs tb Γ l r→qH rv Γ.ss (Pf E Γ.ss fp H) H r (l.map (eval tb f))
 |_,_, .nil=>trivial
 |_,_, .cons h k=>⟨h E rv fp f H I,k.spec I⟩
def Pe:AW→Bool
 | .junk=>false
 |_=>true
theorem qH.men(hp: ∀i,Pf E Γ.ss fp H i→i<H.length)(hi: ∀j,Bo Γ.ss j→Cc (rv j)≤H.length): ∀{l:List AW} {vs:List AV},l.all Pe=true→qH rv Γ.ss (Pf E Γ.ss fp H) H l vs→ ∀v∈vs,Cc v≤H.length
 |[],[],_,_,v,hv=>by cases hv
 |φ::l,w::vs,hj,h,v,hv=>by
  simp only[fc,af]at hj
  rcases bu.1 hv with rfl|hv
  ·exact pj hp hi (by rintro rfl;simp[Pe]at hj) h.1
  ·exact qH.men hp hi hj.2 h.2 v hv
def OpN(tb:Di)(Γ:Cx)(d:Option Nat)(o:HB)(Γ':Cx):Prop:=
 ∀E rv fp f H,B8 E Γ rv fp f H→ ∃v u,BC tb (CC tb) (eval tb f) H o=some (v,u)∧u.getD H=H∧ ∃rv' fp',B8 E Γ' rv' fp' (put f d v) H
def oneS:Option BY→Bool
 |some (.row _ _)=>true
 |some (.rowk _ _)=>true
 |some (.cells _)=>true
 |some (.dom _ _)=>true
 |_=>false
def szF(ss:Ss):AW→Option Nat
 | .own j=>if oneS (AM ss j)then some 1 else none
 | .val t _=>some t.sz
 | .rp _ _=>some 1
 | .cp _ _=>some 1
 | .ep _ _ _=>some 1
 | .con _=>some 1
 | .fnv _ _ _=>some 1
 |_=>none
def aggF:AW→Bool
 | .val t _=>t.agg
 |_=>false
theorem rD{P:Nat→Prop}{v:AV}(h:iR P v):cellsOf v=[v]:=by
 cases v<;>simp only[iR]at h<;>rfl
theorem Yl(I:B8 E Γ rv fp f H){φ:AW}{v:AV}{n:Nat}(hs:szF Γ.ss φ=some n)(h:FR rv Γ.ss (Pf E Γ.ss fp H) H φ v):(cellsOf v).length=n∧Iq (aggF φ) (cellsOf v)=some v:=by
 cases φ<;>simp only[szF,ae,reduceCtorEq]at hs
 case own j=>
  split at hs
  ·rename_i ho
   cases hs
   obtain⟨l,rfl⟩:=h
   have hsc:=(I.scal j l).resolve_left (by
    intro hk
    cases e:AM Γ.ss j with
    |none=>rw[e]at ho;cases ho
    |some S=>rw[e]at ho hk;cases S<;>simp only[oneS,DH,au]at ho hk)
   rw[Kj hsc];exact⟨rfl,rfl⟩
  ·cases hs
 ·subst hs
  rename_i t x
  have hc:=k9 h
  refine⟨t.len hc,?_⟩
  rcases h with ⟨ha,cs,rfl,_⟩|⟨ha,hr⟩
  ·simp only[aggF,ha];rfl
  ·have:=t.sca hr
   simp only[fc,o7,kp]at this
   rw[Kj this]
   simp only[aggF,ha];rfl
 ·subst hs;rw[rD h.1];exact⟨rfl,rfl⟩
 ·subst hs;obtain⟨_,id,_,rfl⟩:=h;exact⟨rfl,rfl⟩
 ·subst hs;obtain⟨_,id,m,_,_,rfl⟩:=h;exact⟨rfl,rfl⟩
 ·subst hs;obtain⟨rfl,_,hsc⟩:=h;rw[Kj hsc];exact⟨rfl,rfl⟩
 ·subst hs;obtain⟨_,rfl⟩:=h;exact⟨rfl,rfl⟩
def YK(ss:Ss):Nat→List (Nat×Nat×AO)→List AW→Option Nat
 |o,[],[]=>some o
 |o,(o',n,_)::r,φ::l=>if o'=o∧szF ss φ=some n then YK ss (o+n) r l else none
 |_,_,_=>none
theorem oC(I:B8 E Γ rv fp f H){rho:AO→AV}: ∀{ps:List (Nat×Nat×AO)} {l:List AW} {o e:Nat} {cs:List AV},YK Γ.ss o ps l=some e→e=cs.length→qH rv Γ.ss (Pf E Γ.ss fp H) H l (ps.map fun p=>rho p.2.2)→
  MP cs rho ps=some (cs.take o++(ps.map fun p=>rho p.2.2).flatMap cellsOf)
 |[],[],o,e,cs,h,he,_=>by
  simp only[YK,ae]at h
  simp only[MP,ew,mw,dv]
  rw[av (by omega)]
 |(o',n,a)::ps,φ::l,o,e,cs,h,he,hv=>by
  simp only[YK]at h
  split at h
  ·rename_i hc
   obtain⟨rfl,hs⟩:=hc
   obtain⟨h1,_⟩:=Yl I hs hv.1
   have hle: ∀{ps:List (Nat×Nat×AO)} {l:List AW} {o e:Nat},YK Γ.ss o ps l=some e→o≤e:=by
    intro ps
    induction ps with
    |nil=>intro l o e h;cases l<;>simp only[YK,ae,reduceCtorEq]at h;omega
    |cons q ps ih=>
     intro l o e h
     obtain⟨q1,q2,q3⟩:=q
     cases l with
     |nil=>simp[YK]at h
     |cons φ l=>
      simp only[YK]at h
      split at h
      ·have:=ih h;omega
      ·cases h
   have hb:=hle h
   simp only at h1
   simp only[MP,h1]
   rw[qn ⟨trivial,by omega⟩]
   have hlen:(BA cs o' (cellsOf (rho a))).length=cs.length:=Yp (by omega)
   rw[oC I h (by rw[hlen];exact he) hv.2]
   simp only[bn,eh]
   have ht:(BA cs o' (cellsOf (rho a))).take (o'+n)=cs.take o'++cellsOf (rho a):=by
    simp only[BA]
    rw[il (by simp only[aw,a6,h1];omega)]
   rw[ht,dl]
  ·cases h
 |[],_::_,_,_,_,h,_,_=>by simp[YK]at h
 |(_,_,_)::_,[],_,_,_,h,_,_=>by simp[YK]at h
theorem B7{d:Nat}{zero:List AV}{ps:List (Nat×Nat×AO)}{φs:List AW}(j:Nat)(hx:OpFs tb Γ (ps.map fun p=>p.2.2) φs)(hr:YK Γ.ss 0 ps φs=some zero.length)(hn:φs.all Pe=true)(hf:VD Γ.ss j φs){js:List Nat}(hjs:js=fh j φs.length):
  OpN tb Γ (some d) (.bld zero ps) ⟨(d, .aggk js)::Γ.ts,pZ j φs Γ.ss⟩:=by
 intro E rv fp f H R
 subst hjs
 have hv:=hx.spec R
 rw[na]at hv
 have hfill:=oC R (rho:=eval tb f) hr rfl hv
 obtain⟨rv',fp',h1,h2,_,h4⟩:=R.keepL (j:=j) hf hv (qH.men R.ltP R.rvlt hn hv)
 refine⟨.agg (zero.take 0++(ps.map fun p=>eval tb f p.2.2).flatMap cellsOf),none,by simp only[BC,hfill,val,an],rfl,rv',fp',h4.push (d:=d) (φ:= .aggk _) ⟨h2,?_⟩⟩
 have e:((fh j φs.length).flatMap fun j=>cellsOf (rv' j))=((fh j φs.length).map rv').flatMap cellsOf:=by rw[List.flatMap_map]
 rw[e,h1,j5,dw]
 rfl
def yH(ss:Ss):List Nat→Option Nat
 |[]=>some 0
 |j::r=>match AM ss j with
  |some (.keep φ)=>(szF ss φ).bind fun n=>(yH ss r).map (n+ ·)
  |_=>none
theorem V2(I:B8 E Γ rv fp f H): ∀{l:List Nat} {o:Nat},yH Γ.ss l=some o→(l.flatMap fun j=>cellsOf (rv j)).length=o
 |[],o,h=>by simp only[yH,ae]at h;subst h;rfl
 |j::l,o,h=>by
  simp only[yH]at h
  split at h
  ·rename_i φ e
   obtain⟨n,hn,h⟩:=ab.1 h
   obtain⟨m,hm,rfl⟩:=aj.1 h
   rw[eh,aw,V2 I hm,(Yl I hn (I.slots j _ e).1).1]
  ·cases h
theorem BL{js:List Nat}{i j:Nat}(ha:Cd tb Γ a (.tupk js))(hi:js[i]? =some j):Fa tb Γ (.ext a i) (some ()) fun _=> .kv j:=by
 rintro E rv fp f H R _ ⟨⟩
 obtain⟨hk,hv⟩:=ha E rv fp f H R
 have hm:=cq hi
 refine⟨rv j,none,by simp only[BC,hv,ff,hi,an,val],rfl,fun k hk'=>by rw[gf.1 hk'];exact hk j hm,rfl⟩
theorem B8.keepTemp(I:B8 E Γ rv fp f H){j n:Nat}{φ:AW}(hj:AM Γ.ss j=none)(hn:BM Γ.ts n=some φ)(hφ:Pe φ=true): ∃rv' fp',B8 E ⟨(n, .kv j)::Γ.ts,(j, .keep φ)::Γ.ss⟩ rv' fp' f H:=by
 have h:=I.temps n φ hn
 obtain⟨rv',fp',h1,_,h3,_⟩:=I.keepNew hj h (pj I.ltP I.rvlt (by rintro rfl;simp[Pe]at hφ) h)
 refine⟨rv',fp',h3.le,h3.base,h3.wf,h3.fplt,h3.rvlt,h3.scal,h3.inj,h3.slots,fun t ψ e=> ?_,h3.gh⟩
 simp only[BM]at e
 split at e
 ·rename_i ht
  cases e
  subst ht
  exact⟨fun k hk=>by rw[gf.1 hk];simp only[AM,qt];rfl,h1.symm⟩
 ·exact h3.temps t ψ e
variable{ks:List Kf}{ρ:Type}{Q:Oj ρ}
def Cf{c:AC}(j n:Nat){φ:AW}(hj:AM Γ.ss j=none)(hn:BM Γ.ts n=some φ)(hφ:Pe φ=true)(s:Aa tb ⟨(n, .kv j)::Γ.ts,(j, .keep φ)::Γ.ss⟩ c ks Q):Aa tb Γ c ks Q:=
 s.turn fun _ _ _ ⟨_,_,I⟩=>I.keepTemp hj hn hφ
def Bi{q:Bool}{d:Option Nat}{o:HB}{l:List Br}{Γ':Cx}(h:OpN tb Γ d o Γ')(k:Aa tb Γ' (rg q l) ks Q):Aa tb Γ (rg q (⟨d,none,o⟩::l)) ks Q:=
 ⟨k.m,fun E f H ⟨rv,fp,I⟩ r hr=>by
  obtain⟨v,u,h1,h2,rv',fp',h3⟩:=h E rv fp f H I
  obtain⟨e,f',H',h4,h5⟩:=k.ok E _ _ ⟨rv',fp',h3⟩ r hr
  exact⟨e,f',H',by rw[Ej h1 h2];exact h4,h5⟩⟩
end
end
section
inductive fV where
 |o (a:AO)
 |k (j:Nat)
def lQ(tb:Di)(f:Fr)(rv:Nat→AV):fV→AV
 | .o a=>eval tb f a
 | .k j=>rv j
def OpS(tb:Di)(Γ:Cx)(s:fV)(φ:AW):Prop:= ∀E rv fp f H,B8 E Γ rv fp f H→FR rv Γ.ss (Pf E Γ.ss fp H) H φ (lQ tb f rv s)
inductive lA(tb:Di)(Γ:Cx):List fV→List AW→Prop where
 |nil:lA tb Γ [] []
 |cons {s:fV} {φ:AW} {l:List fV} {r:List AW}:OpS tb Γ s φ→lA tb Γ l r→lA tb Γ (s::l) (φ::r)
def aW(tb:Di)(Γ:Cx)(o:HB)(g:Nat)(l:List fV):Prop:=
 ∀E rv fp f H,B8 E Γ rv fp f H→BC tb (CC tb) (eval tb f) H o=BK tb (CC tb) H g (l.map (lQ tb f rv))
section
variable{tb:Di}{Γ:Cx}{a b:AO}{E:R7}{rv:Nat→AV}{fp:Fp}{f:Fr}{H:Az}
theorem J1{φ:AW}(h:Cd tb Γ a φ):OpS tb Γ (.o a) φ:=h
theorem BS{g:Nat}{xs:List AO}{l:List fV}(hl:l=xs.map .o):aW tb Γ (.call g xs) g l:=by
 intro E rv fp f H I
 subst hl
 simp only[BC,na];rfl
theorem CX{g:Nat}{x:AO}{xs:List AO}{js ks:List Nat}{l:List fV}(ha:Cd tb Γ x (.fnv (.func g) js ks))(hl:l=js.map .k++xs.map .o++ks.map .k):aW tb Γ (.callv x xs) g l:=by
 intro E rv fp f H I
 subst hl
 simp only[BC,(ha E rv fp f H I).2,de,na];rfl
theorem lA.spec(I:B8 E Γ rv fp f H): ∀{l:List fV} {r:List AW},lA tb Γ l r→qH rv Γ.ss (Pf E Γ.ss fp H) H r (l.map (lQ tb f rv))
 |_,_, .nil=>trivial
 |_,_, .cons h k=>⟨h E rv fp f H I,k.spec I⟩
def XL:Nat→List AW→Ts
 |_,[]=>[]
 |k,φ::r=>(k,φ)::XL (k+1) r
def La(vs:List AV)(k:Nat):Fr:=(vs.zipIdx k).map fun p=>(p.2,p.1)
theorem UM{P:Nat→Prop}{ss:Ss}: ∀{r:List AW} {vs:List AV} {k:Nat},qH rv ss P H r vs→ ∀t φ,BM (XL k r) t=some φ→k≤t∧FR rv ss P H φ (get (La vs k) t)
 |[],[],_,_,t,φ,e=>by simp[XL,BM]at e
 |ψ::r,v::vs,k,h,t,φ,e=>by
  simp only[XL,BM]at e
  simp only[La,ke,bn,get]
  split at e
  ·rename_i hk
   cases e
   subst hk
   exact⟨be _,by rw[qn rfl];exact h.1⟩
  ·rename_i hk
   obtain⟨h1,h2⟩:=UM (k:=k+1) h.2 t φ e
   exact⟨by omega,by rw[qo hk];exact h2⟩
def G0(J:Nat):Ts→Ss→Ss
 |[],ss=>ss
 |(t,φ)::r,ss=>(J+t, .ghost φ)::G0 J r ss
def RP(Γ:Cx)(J:Nat):Ts→Prop
 |[]=>True
 |(t,φ)::r=>(BM Γ.ts t=some φ∧AM Γ.ss (J+t)=none)∧RP Γ J r
def JG(J:Nat):Ss→Bool
 |[]=>true
 |(j, .ghost _)::r=>je j J&&JG J r
 |_::r=>JG J r
theorem Pp{J:Nat}: ∀{ss:Ss} {j:Nat} {φ:AW},JG J ss=true→AM ss j=some (.ghost φ)→j<J
 |[],_,_,_,e=>by simp[AM]at e
 |(u,S)::r,j,φ,h,e=>by
  simp only[AM]at e
  split at e
  ·rename_i hu
   cases e
   simp only[JG,af]at h
   have:=h.1
   rw[UK]at this
   omega
  ·refine Pp (ss:=r) ?_ e
   cases S<;>simp only[JG,af]at h<;>first|exact h.2|exact h
theorem L0{J:Nat}{ss:Ss}: ∀{l:Ts} {j:Nat},AM (G0 J l ss) j=AM ss j∨ ∃t φ,j=J+t∧BM l t=some φ∧AM (G0 J l ss) j=some (.ghost φ)
 |[],_=> .inl rfl
 |(t,φ)::r,j=>by
  simp only[G0,AM]
  by_cases hj:J+t=j
  ·rw[qn hj]
   exact .inr ⟨t,φ,hj.symm,by simp[BM],rfl⟩
  ·rw[qo hj]
   rcases L0 (J:=J) (ss:=ss) (l:=r) (j:=j)with h|⟨t',φ',h1,h2,h3⟩
   ·exact .inl h
   ·refine .inr ⟨t',φ',h1,?_,h3⟩
    simp only[BM]
    rw[qo (fun e=>hj (by rw[h1,e]))]
    exact h2
theorem Ml{J:Nat}: ∀{l:Ts} {t:Nat} {φ:AW},RP Γ J l→BM l t=some φ→BM Γ.ts t=some φ∧AM Γ.ss (J+t)=none
 |[],_,_,_,e=>by simp[BM]at e
 |(u,ψ)::r,t,φ,h,e=>by
  simp only[BM]at e
  split at e
  ·rename_i hu
   cases e
   subst hu
   exact h.1
  ·exact Ml h.2 e
theorem B8.enter(I:B8 E Γ rv fp f H){J:Nat}{L:Ts}{srcs:List fV}{φs:List AW}(hL:RP Γ J L)(hg:JG J Γ.ss=true)(ha:lA tb Γ srcs φs):
  B8 {E with g:=fun j=>if J≤j then get f (j-J)else E.g j} ⟨XL 0 φs,G0 J L Γ.ss⟩ rv fp (La (srcs.map (lQ tb f rv)) 0) H:=by
 have hlv: ∀k,Bo (G0 J L Γ.ss) k↔Bo Γ.ss k:=by
  intro k
  rcases L0 (J:=J) (ss:=Γ.ss) (l:=L) (j:=k)with h|⟨t,φ,rfl,h2,h3⟩
  ·simp only[Bo,h]
  ·have:=(Ml hL h2).2
   simp only[Bo,h3,this,liveO]
 have hkeep: ∀k,DH (AM (G0 J L Γ.ss) k)=DH (AM Γ.ss k):=by
  intro k
  rcases L0 (J:=J) (ss:=Γ.ss) (l:=L) (j:=k)with h|⟨t,φ,rfl,h2,h3⟩
  ·rw[h]
  ·rw[h3,(Ml hL h2).2];rfl
 have hP: ∀i,Pf E Γ.ss fp H i→Pf E (G0 J L Γ.ss) fp H i:=fun i=>oa fun k l=>(hlv k).1 l
 have hFR: ∀φ v,FR rv Γ.ss (Pf E Γ.ss fp H) H φ v→FR rv (G0 J L Γ.ss) (Pf E (G0 J L Γ.ss) fp H) H φ v:=fun φ v h=>
  h.mono (fun i hi=>⟨hP i hi,rfl⟩) fun k _ l=>⟨⟨(hlv k).2 l,fun e=>by rw[hkeep];exact e⟩,rfl⟩
 have hFRs: ∀{l:List AW} {vs:List AV},qH rv Γ.ss (Pf E Γ.ss fp H) H l vs→qH rv (G0 J L Γ.ss) (Pf E (G0 J L Γ.ss) fp H) H l vs:=by
  intro l
  induction l with
  |nil=>intro vs h;cases vs<;>exact h
  |cons φ l ih=>
   intro vs h
   cases vs with
   |nil=>exact h
   |cons v vs=>exact⟨hFR φ v h.1,ih h.2⟩
 refine⟨I.le,I.base,I.wf,fun j i l e=>I.fplt j i ((hlv j).1 l) e,fun j l=>I.rvlt j ((hlv j).1 l),fun j l=>(I.scal j ((hlv j).1 l)).imp (fun e=>by rw[hkeep];exact e) id,fun j k i l l'=>I.inj j k i ((hlv j).1 l) ((hlv k).1 l'),?_,?_,?_⟩
 ·intro j S e
  rcases L0 (J:=J) (ss:=Γ.ss) (l:=L) (j:=j)with h|⟨t,φ,rfl,h2,h3⟩
  ·replace e:AM (G0 J L Γ.ss) j=some S:=e
   rw[h]at e
   exact(I.slots j S e).keep rfl rfl (fun i hi=>⟨hP i hi,rfl⟩) (be _) (fun _ _=>rfl) (fun _ _ _ _ k _ l=>⟨⟨(hlv k).2 l,fun e=>by rw[hkeep];exact e⟩,rfl⟩) (fun _ _ k _ l=>⟨⟨(hlv k).2 l,fun e=>by rw[hkeep];exact e⟩,rfl⟩) (fun _ _ _ k _ l=>⟨⟨(hlv k).2 l,fun e=>by rw[hkeep];exact e⟩,rfl⟩)
  ·replace e:AM (G0 J L Γ.ss) (J+t)=some S:=e
   rw[h3]at e;cases e;trivial
 ·intro t φ e
  exact(UM (hFRs (ha.spec I)) t φ e).2
 ·intro j φ e
  show FR rv (G0 J L Γ.ss) _ H φ (if J≤j then get f (j-J)else E.g j)
  rcases L0 (J:=J) (ss:=Γ.ss) (l:=L) (j:=j)with h|⟨t,ψ,rfl,h2,h3⟩
  ·replace e:AM (G0 J L Γ.ss) j=some (.ghost φ):=e
   rw[h]at e
   have:=Pp hg e
   rw[qo (by omega)]
   exact hFR φ _ (I.gh j φ e)
  ·replace e:AM (G0 J L Γ.ss) (J+t)=some (.ghost φ):=e
   rw[h3]at e
   cases e
   rw[qn (by omega),show J+t-J=t by omega]
   exact hFR _ _ (I.temps t _ (Ml hL h2).1)
def QIn{τ:Type}(res:List LG)(Γr:τ→Cx):Oj τ:=fun E p e f H=>
 (e= .ret∨e= .normal)∧ ∃vs,results f H res=some vs∧Rel E (Γr p) (La vs 0) H
def ResG(Γ:Cx)(a:LG)(φ:AW):Prop:= ∀E rv fp f H,B8 E Γ rv fp f H→ ∀r vs,results f H r=some vs→ ∃v,results f H (a::r)=some (v::vs)∧FR rv Γ.ss (Pf E Γ.ss fp H) H φ v
inductive uI(Γ:Cx):List LG→List AW→Prop where
 |nil:uI Γ [] []
 |cons {a:LG} {φ:AW} {l:List LG} {r:List AW}:ResG Γ a φ→uI Γ l r→uI Γ (a::l) (φ::r)
theorem uI.spec(I:B8 E Γ rv fp f H): ∀{l:List LG} {r:List AW},uI Γ l r→ ∃vs,results f H l=some vs∧qH rv Γ.ss (Pf E Γ.ss fp H) H r vs
 |_,_, .nil=>⟨[],rfl,trivial⟩
 |_,_, .cons h k=>by
  obtain⟨vs,e,g⟩:=k.spec I
  obtain⟨v,e',g'⟩:=h E rv fp f H I _ vs e
  exact⟨v::vs,e',g',g⟩
theorem Dh{n:Nat}{φ:AW}(h:BM Γ.ts n=some φ):ResG Γ (.tmp n) φ:=fun _ _ _ _ _ I r vs hr=>⟨_,by simp only[results,hr,an],I.temps n _ h⟩
theorem rg_c{t:T}{x:t.α}{ar:LG}(h:Aa1 Γ ar t x):ResG Γ ar (.val t x):=h
variable{ks:List Kf}{ρ τ:Type}{Q:Oj ρ}
def A4{res:List LG}{Γr:τ→Cx}{φs:List AW}(p:τ)(h:uI Γ res φs)(hs:Sub (Γr p) ⟨XL 0 φs,Γ.ss⟩):Aa tb Γ .ret ks (QIn res Γr):=
 UR ⟨some p,fun E f H ⟨rv,fp,I⟩ r hr=>by
  cases hr
  obtain⟨vs,e,g⟩:=h.spec I
  refine⟨.ret,f,H,by simp[Bj,Is], .inl rfl,vs,e,rv,fp,B8.sub (Γ:=⟨XL 0 φs,Γ.ss⟩) ?_ hs⟩
  exact⟨I.le,I.base,I.wf,I.fplt,I.rvlt,I.scal,I.inj,I.slots,fun t φ e=>(UM g t φ e).2,I.gh⟩⟩
def fX{q:Bool}{res:List LG}{Γr:τ→Cx}{φs:List AW}(p:τ)(h:uI Γ res φs)(hs:Sub (Γr p) ⟨XL 0 φs,Γ.ss⟩):Aa tb Γ (rg q []) [] (QIn res Γr):=
 ⟨some p,fun E f H ⟨rv,fp,I⟩ r hr=>by
  cases hr
  obtain⟨vs,e,g⟩:=h.spec I
  refine⟨.normal,f,H,by simp[DN,Is], .inr rfl,vs,e,rv,fp,B8.sub (Γ:=⟨XL 0 φs,Γ.ss⟩) ?_ hs⟩
  exact⟨I.le,I.base,I.wf,I.fplt,I.rvlt,I.scal,I.inj,I.slots,fun t φ e=>(UM g t φ e).2,I.gh⟩⟩
inductive US(tsr:Ts):Nat→AW→Prop where
 |none:US tsr 0 (.tup [])
 |one {φ:AW}:BM tsr 0=some φ→US tsr 1 φ
 |vals {n:Nat} {l:List (Σ t:T,t.α)} (hn:l.length=n+2) (h: ∀(i:Nat) (p: Σ t:T,t.α),l[i]? =some p→BM tsr i=some (.val p.1 p.2)):US tsr (n+2) (.tup l)
 |kvs {n:Nat} {js:List Nat} (hn:js.length=n+2) (h: ∀i j,js[i]? =some j→BM tsr i=some (.kv j)):US tsr (n+2) (.tupk js)
 |junk {n:Nat}:US tsr n .junk
theorem QT{vs:List AV}{i:Nat}{v:AV}(h:vs[i]? =some v):get (La vs 0) i=v:=by
 have key: ∀(vs:List AV) (k i:Nat) (v:AV),vs[i]? =some v→get (La vs k) (k+i)=v:=by
  intro vs
  induction vs with
  |nil=>intro k i v h;simp at h
  |cons w vs ih=>
   intro k i v h
   simp only[La,ke,bn,get]
   cases i with
   |zero=>simp only[bx,ae]at h;rw[qn (by omega)];exact h
   |succ i=>
    rw[qo (by omega)]
    have:=ih (k+1) i v (by simpa using h)
    rw[show k+(i+1)=k+1+i by omega]
    exact this
 have:=key vs 0 i v h
 rwa [da]at this
theorem US.spec{Γr:Cx}{n:Nat}{φ:AW}{vs:List AV}(I:B8 E Γr rv fp (La vs 0) H)(hn:vs.length=n)(h:US Γr.ts n φ):FR rv Γr.ss (Pf E Γr.ss fp H) H φ (GN vs):=by
 cases h with
 |none=>
  have:vs=[]:=cj hn
  subst this
  exact⟨[],rfl,trivial⟩
 |one h=>
  match vs,hn with
  |[v],_=>
   have:=I.temps 0 _ h
   rw[QT (i:=0) (v:=v) rfl]at this
   exact this
 | @vals m l hl h=>
  have hp:GN vs= .tup vs:=by
   match vs,hn with
   |_::_::_,_=>rfl
  rw[hp]
  refine⟨vs,rfl,?_⟩
  have key: ∀(vs:List AV) (l:List (Σ t:T,t.α)),vs.length=l.length→(∀(i:Nat) (v:AV) (p: Σ t:T,t.α),vs[i]? =some v→l[i]? =some p→p.1.V (Pf E Γr.ss fp H) H v p.2)→UP (Pf E Γr.ss fp H) H vs l:=by
   intro vs
   induction vs with
   |nil=>intro l h _;cases l<;>first|trivial|simp at h
   |cons v vs ih=>
    intro l h g
    cases l with
    |nil=>simp at h
    |cons p l=>exact⟨g 0 v p rfl rfl,ih l (by simpa using h) fun i w q a b=>g (i+1) w q (by simpa using a) (by simpa using b)⟩
  refine key vs l (by omega) fun i v p a b=> ?_
  have:=I.temps i _ (h i p b)
  rw[QT a]at this
  exact this
 | @kvs m js hl h=>
  have hp:GN vs= .tup vs:=by
   match vs,hn with
   |_::_::_,_=>rfl
  rw[hp]
  have hv:vs=js.map rv:=by
   apply ii
   intro i
   rcases dq i vs.length with hi|hi
   ·have hj:i<js.length:=by omega
    have:=(I.temps i _ (h i js[i] (ad hj))).2
    rw[QT (ad hi)]at this
    rw[ad hi,ff,ad hj,this];rfl
   ·rw[f9 hi,f9 (by rw[e9];omega)]
  refine⟨fun j hj=> ?_,by rw[hv]⟩
  obtain⟨i,hi,rfl⟩:=n0.1 hj
  exact(I.temps i _ (h i _ (ad hi))).1 _ (by simp)
 |junk=>trivial
def fP(Γr:Cx)(ss:Ss)(J:Nat):Ts→Prop
 |[]=>True
 |(t,φ)::r=>(AM Γr.ss (J+t)=some (.ghost φ)∧Nw ss φ)∧fP Γr ss J r
structure AZ(Γr Γk:Cx)(J:Nat)(d:Option Nat)(n:Nat):Prop where
 ss:subS Γr Γk.ss Γk.ss
 gl:JG J Γk.ss=true
 ts:match d with
  |none=>fP Γr Γk.ss J Γk.ts
  |some d=> ∃φ r,Γk.ts=(d,φ)::r∧US Γr.ts n φ∧Nw Γk.ss φ∧fP Γr Γk.ss J r
theorem Ay{Γr:Cx}{ss:Ss}{J d n:Nat}{φ:AW}{r:Ts}(h1:subS Γr ss ss)(h2:JG J ss=true)(h3:US Γr.ts n φ)(h4:Nw ss φ)(h5:fP Γr ss J r):AZ Γr ⟨(d,φ)::r,ss⟩ J (some d) n:=⟨h1,h2,φ,r,rfl,h3,h4,h5⟩
theorem aM{Γr:Cx}{ss:Ss}{J:Nat}: ∀{l:Ts} {t:Nat} {φ:AW},fP Γr ss J l→BM l t=some φ→AM Γr.ss (J+t)=some (.ghost φ)∧Nw ss φ
 |[],_,_,_,e=>by simp[BM]at e
 |(u,ψ)::r,t,φ,h,e=>by
  simp only[BM]at e
  split at e
  ·rename_i hu;cases e;subst hu;exact h.1
  ·exact aM h.2 e
theorem B8.back{Γr Γk:Cx}{J n:Nat}{d:Option Nat}{vs:List AV}{f:Fr}(I:B8 {E with g:=fun j=>if J≤j then get f (j-J)else E.g j} Γr rv fp (La vs 0) H)(hn:vs.length=n)(hb:AZ Γr Γk J d n):
  B8 E Γk rv fp (put f d (GN vs)) H:=by
 have S:Sub ⟨[],Γk.ss⟩ Γr:=⟨trivial,hb.ss⟩
 have I0:=I.sub S
 have hlv: ∀k,Bo Γk.ss k→Bo Γr.ss k:=by
  intro k l
  cases e:AM Γk.ss k with
  |none=>simp only[Bo,e]at l;exact l.elim
  |some S=>
   have:=(Jr hb.ss e).1
   simp only[Bo,e]at l
   simp only[Bo,this];exact l
 have hP: ∀i,Pf E Γr.ss fp H i→Pf E Γk.ss fp H i:=fun i=>oa hlv
 have hsame: ∀φ,Nw Γk.ss φ→Wl rv rv Γr.ss Γk.ss φ:=fun φ r j hj l=>by
  have hl:=(YR r j hj).1
  refine⟨⟨hl,fun e=> ?_⟩,rfl⟩
  cases e':AM Γk.ss j with
  |none=>simp only[Bo,e']at hl;exact hl.elim
  |some S=>rw[(Jr hb.ss e').1]at e;exact e
 have hFR: ∀φ v,Nw Γk.ss φ→FR rv Γr.ss (Pf E Γr.ss fp H) H φ v→FR rv Γk.ss (Pf E Γk.ss fp H) H φ v:=fun φ v r h=>h.mono (fun i hi=>⟨hP i hi,rfl⟩) (hsame φ r)
 have hback: ∀{l:Ts},fP Γr Γk.ss J l→ ∀t φ,BM l t=some φ→FR rv Γk.ss (Pf E Γk.ss fp H) H φ (get f t):=by
  intro l hl t φ e
  obtain⟨h1,h2⟩:=aM hl e
  have:=I.gh _ _ h1
  simp only[qn (show J≤J+t by omega),show J+t-J=t by omega]at this
  exact hFR φ _ h2 this
 refine⟨I0.le,I0.base,I0.wf,I0.fplt,I0.rvlt,I0.scal,I0.inj,I0.slots,?_,?_⟩
 ·intro t φ e
  have hts:=hb.ts
  cases d with
  |none=>exact hback hts t φ e
  |some d=>
   obtain⟨ψ,r,hr,h1,h2,h3⟩:=hts
   rw[hr]at e
   simp only[BM]at e
   simp only[put,get]
   split at e
   ·rename_i hd
    cases e
    rw[qn hd]
    have h1':=h1.spec I hn
    exact hFR _ _ h2 h1'
   ·rename_i hd
    rw[qo hd]
    exact hback h3 t φ e
 ·intro j φ e
  have h1:=Pp hb.gl e
  have:=I0.gh j φ e
  simp only[qo (show¬J≤j by omega)]at this
  exact this
structure uN(tb:Di){τ:Type}(Γk:τ→Cx)(c:AC)(ks:List Kf){ρ:Type}(Q:Oj ρ) where
 m:τ→Option ρ
 ok: ∀p E f H,Rel E (Γk p) f H→ ∀r,m p=some r→ ∃e f' H',(Bj tb (CC tb) c f H).bind (Is tb ks)=some (e,f',H')∧Q E r e f' H'
def uN.one{Γk:τ→Cx}{c:AC}(k:(p:τ)→Aa tb (Γk p) c ks Q):uN tb Γk c ks Q:=⟨fun p=>(k p).m,fun p=>(k p).ok⟩
def uN.alt{σ:Type}{Γ1:τ→Cx}{Γ2:σ→Cx}{c:AC}(k1:uN tb Γ1 c ks Q)(k2:uN tb Γ2 c ks Q):uN tb (a8 Γ1 Γ2) c ks Q:=
 ⟨a8 k1.m k2.m,fun p=>match p with
  | .inl p=>k1.ok p
  | .inr p=>k2.ok p⟩
theorem DT{σ:Type}{Γ1 Δ1:τ→Cx}{Γ2 Δ2:σ→Cx}{J n:Nat}{d:Option Nat}(h1: ∀p,AZ (Γ1 p) (Δ1 p) J d n)(h2: ∀p,AZ (Γ2 p) (Δ2 p) J d n): ∀p,AZ (a8 Γ1 Γ2 p) (a8 Δ1 Δ2 p) J d n
 | .inl p=>h1 p
 | .inr p=>h2 p
theorem Q7: ∀{l:List LG} {vs:List AV},results f H l=some vs→vs.length=l.length
 |[],vs,h=>by simp only[results,ae]at h;subst h;rfl
 | .tmp t::r,vs,h=>by
  simp only[results]at h
  obtain⟨v,hv,rfl⟩:=aj.1 h
  simp[Q7 hv]
 | .cell ag n t::r,vs,h=>by
  simp only[results]at h
  obtain⟨w,hw,h⟩:=ab.1 h
  obtain⟨v,hv,rfl⟩:=aj.1 h
  simp[Q7 hv]
theorem inl_eq{g:Nat}{fn:CI}{o:HB}{d:Option Nat}{srcs:List fV}{φs:List AW}{J n:Nat}{L:Ts}{Γr Γk:τ→Cx}(hf:tb.prim g=none∧tb.fns g=some fn)(hw:fn.warm=true)(hnp:fn.np=srcs.length)(hn:n=fn.res.length)
  (hc:aW tb Γ o g srcs) (ha:lA tb Γ srcs φs) (hL:RP Γ J L) (hg:JG J Γ.ss=true) (s:Aa tb ⟨XL 0 φs,G0 J L Γ.ss⟩ fn.body [] (QIn fn.res Γr)) (hb: ∀p,AZ (Γr p) (Γk p) J d n) (I:B8 E Γ rv fp f H) {p:τ} (hp:s.m=some p):
  ∃v H',BC tb (CC tb) (eval tb f) H o=some (v,some H')∧Rel E (Γk p) (put f d v) H':=by
 have R:=I.enter (tb:=tb) hL hg ha
 obtain⟨e,f',H',h1,h2,vs,h3,rv',fp',h4⟩:=s.ok _ _ _ ⟨_,_,R⟩ p hp
 have h1':Bj tb (CC tb) fn.body (La (srcs.map (lQ tb f rv)) 0) H=some (e,f',H'):=by
  obtain⟨q,hq,h1⟩:=ab.1 h1
  rw[hq,←h1];rfl
 have hbody:body tb (CC tb) fn (srcs.map (lQ tb f rv)) H=some (GN vs,some H'):=by
  have:=PJ (tb:=tb) (h:=H) (fn:=fn) (args:=srcs.map (lQ tb f rv)) (by rw[e9,hnp]) rfl h1' h2 h3
  rw[this,hw];rfl
 refine⟨GN vs,H',?_,rv',fp',h4.back (by rw[hn];exact Q7 h3) (hb p)⟩
 rw[hc E rv fp f H I]
 simp only[BK,hf.1]
 rw[Rb,hf.2]
 exact hbody
def Aa.inl{g:Nat}{fn:CI}{o:HB}{d:Option Nat}{rest:List Br}{srcs:List fV}{φs:List AW}{n:Nat}{L:Ts}{Γr:τ→Cx}(J:Nat)(Γk:τ→Cx)(hf:tb.prim g=none∧tb.fns g=some fn)(hw:fn.warm=true)(hnp:fn.np=srcs.length)(hn:n=fn.res.length)
  (hc:aW tb Γ o g srcs) (ha:lA tb Γ srcs φs) (hL:RP Γ J L) (hg:JG J Γ.ss=true) (s:Aa tb ⟨XL 0 φs,G0 J L Γ.ss⟩ fn.body [] (QIn fn.res Γr)) (hb: ∀p,AZ (Γr p) (Γk p) J d n) (k:uN tb Γk (rg false rest) ks Q):Aa tb Γ (rg false (⟨d,none,o⟩::rest)) ks Q:=
 ⟨s.m.bind k.m,fun E f H ⟨rv,fp,I⟩ r hr=>by
  obtain⟨p,hp,hr⟩:=ab.1 hr
  obtain⟨v,H',h1,h2⟩:=inl_eq hf hw hnp hn hc ha hL hg s hb I hp
  obtain⟨e,f',H2,h4,h5⟩:=k.ok p E _ _ h2 r hr
  exact⟨e,f',H2,by rw[Lj h1];exact h4,h5⟩⟩
def A0.inl{g:Nat}{fn:CI}{o:HB}{d:Option Nat}{rest:List Br}{w:List (Option (Nat×Nat))}{N k:Nat}{B:List Ob}{C C':List Cb}{srcs:List fV}{φs:List AW}{n:Nat}{L:Ts}{Γr:τ→Cx}(hq:zQ B C' d=true)(hcn:Nj Γ k C C')(J:Nat)(Γk:τ→Cx)(hO: ∀p,dI tb (Γk p) B)(hf:tb.prim g=none∧tb.fns g=some fn)(hw:fn.warm=true)(hnp:fn.np=srcs.length)(hn:n=fn.res.length)
  (hc:aW tb Γ o g srcs) (ha:lA tb Γ srcs φs) (hL:RP Γ J L) (hg:JG J Γ.ss=true) (s:Aa tb ⟨XL 0 φs,G0 J L Γ.ss⟩ fn.body [] (QIn fn.res Γr)) (hb: ∀p,AZ (Γr p) (Γk p) J d n) (t:(p:τ)→A0 tb (Γk p) N (k+1) (tO B) C' rest w ks Q):A0 tb Γ N k B C (⟨d,none,o⟩::rest) (none::w) ks Q:=
 CU hq hO hcn (a:=s.m) (Γ':=Γk) (fun E rv fp f H I p hp=>by
  obtain⟨v,H',h1,rv',fp',h2⟩:=inl_eq hf hw hnp hn hc ha hL hg s hb I hp
  exact⟨v,some H',h1,rv',fp',h2⟩) t
inductive qD(tb:Di)(Γ:Cx):(As:List T)→List fV→Cl As→Prop where
 |nil:qD tb Γ [] [] ()
 |one {t:T} {s:fV} {x:t.α}:OpS tb Γ s (.val t x)→qD tb Γ [t] [s] x
 |cons {t u:T} {As:List T} {s:fV} {l:List fV} {x:t.α} {y:Cl (u::As)}:OpS tb Γ s (.val t x)→qD tb Γ (u::As) l y→qD tb Γ (t::u::As) (s::l) (x,y)
theorem qD.spec(R:B8 E Γ rv fp f H): ∀{As:List T} {l:List fV} {x:Cl As},qD tb Γ As l x→TK (Pf E Γ.ss fp H) H As (l.map (lQ tb f rv)) x
 |_,_,_, .nil=>rfl
 |_,_,_, .one h=>⟨_,rfl,h E rv fp f H R⟩
 |_,_,_, .cons h k=>⟨_,_,rfl,h E rv fp f H R,k.spec R⟩
theorem h_callS{g:Nat}{As Rs:List T}{F:Cl As→Option (Cl Rs)}{o:HB}{l:List fV}{x:Cl As}(sp:Spec tb g As Rs F)(hc:aW tb Γ o g l)(hx:qD tb Γ As l x):Fa tb Γ o (F x) fun r=>outF Rs r:=by
 intro E rv fp f H R r hr
 obtain⟨v,u,h1,h2,h3⟩:=(sp (Pf E Γ.ss fp H) H _ x R.ltP R.wf (hx.spec R) r hr).call
 exact⟨v,u,by rw[hc E rv fp f H R];exact h1,h2,Zf h3⟩
theorem IF{g:Nat}{As:List T}{t:T}{F:Cl As→Option (Cl [t])}{o:HB}{l:List fV}{x:Cl As}(sp:Spec tb g As [t] F)(hc:aW tb Γ o g l)(hx:qD tb Γ As l x):Fa tb Γ o (F x) fun r:t.α=> .val t r:=h_callS sp hc hx
theorem QX{lv:List Nat}{x:AC}:Bj tb (CC tb) (.loop lv x) f H=(Bj tb (CC tb) x (keepL lv f) H).bind fun
  |(.normal,f',h')=>Bj tb (CC tb) (.loop lv x) (keepL lv f') h'
  |r=>some r:=by
 simp only[Bj]
 rw[lp_eq]
 simp only[Lu]
 cases Bj tb (CC tb) x (keepL lv f) H with
 |none=>rfl
 |some p=>
  obtain⟨e,f',h'⟩:=p
  cases e<;>rfl
end
end
section
section
variable{tb:Di}{Γ:Cx}{a b:AO}{E:R7}{rv:Nat→AV}{fp:Fp}{f:Fr}{H:Az}{ks:List Kf}{ρ:Type}{Q:Oj ρ}
theorem sG{lv:List Nat}{f:Fr}:keepL lv (keepL lv f)=keepL lv f:=by
 simp only[keepL]
 apply lq
 intro t ht
 rw[show(lv.map fun t=>(t,get f t))=keepL lv f from rfl,Th ht]
theorem ZJ{lv:List Nat}{x:AC}:Bj tb (CC tb) (.loop lv x) (keepL lv f) H=Bj tb (CC tb) (.loop lv x) f H:=by
 rw[QX,QX,sG]
def Ba{lv:List Nat}{x:AC}{Γ':Cx}(hs:Sub Γ' Γ)(hl:nE lv Γ'.ts=true)(s:Aa tb Γ' x (.seq (.loop lv x)::ks) Q):Aa tb Γ (.loop lv x) ks Q:=
 ⟨s.m,fun E f H ⟨rv,fp,I⟩ r hr=>by
  obtain⟨e,f',H',h1,h2⟩:=s.ok E (keepL lv f) H (Rel.keep hl ⟨rv,fp,I.sub hs⟩) r hr
  refine⟨e,f',H',?_,h2⟩
  rw[QX]
  obtain⟨p,hp,h1⟩:=ab.1 h1
  obtain⟨e0,f0,H0⟩:=p
  rw[hp]
  cases e0<;>simp only[aa,Is]at h1 ⊢
  ·rw[ZJ];exact h1
  ·exact h1
  ·exact h1⟩
theorem Bz{o:HB}{t:T}{x y:t.α}(h:Fa tb Γ o (some x) fun z=> .val t z)(e:x=y):Fa tb Γ o (some ()) fun _=> .val t y:=by
 rintro E rv fp f H R _ ⟨⟩
 obtain⟨v,u,h1,h2,h3⟩:=h E rv fp f H R x rfl
 exact⟨v,u,h1,h2,e▸h3⟩
inductive ElsK(tb:Di)(Γ:Cx)(sz:Nat):Nat→List (Nat×AO)→List (List Nat)→Prop where
 |nil {i:Nat}:ElsK tb Γ sz i [] []
 |cons {i:Nat} {a:AO} {js:List Nat} {ps:List (Nat×AO)} {l:List (List Nat)}:Cd tb Γ a (.aggk js)→yH Γ.ss js=some sz→ElsK tb Γ sz (i+1) ps l→ElsK tb Γ sz i ((i,a)::ps) (js::l)
theorem ElsK.spec{sz:Nat}(I:B8 E Γ rv fp f H): ∀{i:Nat} {ps:List (Nat×AO)} {l:List (List Nat)} {els:List (List AV)},ElsK tb Γ sz i ps l→i+l.length=els.length→
  LA els sz (eval tb f) ps=some (els.take i++l.map fun js=>js.flatMap fun j=>cellsOf (rv j))∧N0 Γ.ss l.flatten
 |i,_,_,els, .nil,hl=>by
  simp only[bz]at hl
  exact⟨by simp only[LA,ew,dv];rw[av (by omega)],fun j hj=>(by cases hj)⟩
 |i,_,_,els, .cons (a:=a) (js:=js) (l:=l) h ho k,hl=>by
  obtain⟨hk,hv⟩:=h E rv fp f H I
  have hlen:=V2 I ho
  simp only[bb]at hl
  obtain⟨h1,h2⟩:=k.spec I (els:=els.set i (js.flatMap fun j=>cellsOf (rv j))) (by rw[fy];omega)
  refine⟨?_,fun j hj=> ?_⟩
  ·have hc:cellsOf (eval tb f a)=js.flatMap fun j=>cellsOf (rv j):=by rw[hv];rfl
   simp only[LA,hc]
   rw[qn ⟨hlen,by omega⟩,h1,bd (by rw[fy];omega),oj (be _),nm,bn,dl]
   rfl
  ·rw[bm]at hj
   rcases go.1 hj with hj|hj
   ·exact hk j hj
   ·exact h2 j hj
theorem Fg{zero:List (List AV)}{d t0 sz:Nat}{ps:List (Nat×AO)}{l:List (List Nat)}(j:Nat)(h:ElsK tb Γ sz 0 ps l)(hz:zero.length=l.length)(hj:AM Γ.ss j=none):
  XN tb Γ (some d) (.bls t0 sz zero ps) (some ()) fun _=>⟨(d, .own j)::Γ.ts,(j, .rowk sz l)::Γ.ss⟩:=by
 rintro E rv fp f H R _ ⟨⟩
 obtain⟨h1,h2⟩:=h.spec R (els:=zero) (by omega)
 rw[j5,dw]at h1
 have hm:Dc (l.map fun js=>js.flatMap fun j=>cellsOf (rv j))≤H.length:=by
  clear h h1 hz
  induction l with
  |nil=>simp[Dc]
  |cons js l ih=>
   simp only[bn,Dc]
   have:=ih fun j hj=>h2 j (by simp only[bm,go];exact .inr hj)
   have:=(M4 R.rvlt (l:=js) fun j hj=>h2 j (by simp only[bm,go];exact .inl hj)).2
   omega
 obtain⟨rv',fp',g1,g2,g3⟩:=R.more (j:=j) (S:= .rowk sz l) (v:= .orow H.length l.length 0 l.length) (o:= .row (some t0) false sz (l.map fun js=>js.flatMap fun j=>cellsOf (rv j))) (Ht hj) (by simp only[E7];omega) rfl (by simp[Cc]) rfl fun rv' fp' e1 e2 hP hs=>by
  have hsame: ∀k∈l.flatten,Bo Γ.ss k→(Bo ((j, .rowk sz l)::Γ.ss) k∧(DH (AM Γ.ss k)=true→DH (AM ((j, .rowk sz l)::Γ.ss) k)=true))∧rv' k=rv k:=fun k hk lk=>hs (.aggk l.flatten) k (fun hn=>hn hk) lk
  refine⟨(HM (rv:=rv) (rv':=rv') h2 hsame).1,H.length,e1,e2,?_⟩
  have:(l.map fun js=>js.flatMap fun j=>cellsOf (rv' j))=l.map fun js=>js.flatMap fun j=>cellsOf (rv j):=by
   apply lq
   intro js hjs
   exact(HM (rv:=rv) (rv':=rv') (ss':=(j, .rowk sz l)::Γ.ss) (fun j hj=>h2 j (jh.2 ⟨js,hjs,hj⟩)) fun k hk=>hsame k (jh.2 ⟨js,hjs,hk⟩)).2.2
  rw[this]
  simp[rowAt]
 refine⟨.orow H.length l.length 0 l.length,some (H++[CB.row (some t0) false sz (l.map fun js=>js.flatMap fun j=>cellsOf (rv j))]),by simp only[BC,h1,an,e9],rv',fp',g3.push (d:=d) (φ:= .own j) ⟨g2,g1.symm⟩⟩
theorem Fd{sz j n:Nat}{l:List (List Nat)}(ha:Cd tb Γ a (.own j))(hj:AM Γ.ss j=some (.rowk sz l))(hn:n=l.length):Fa tb Γ (.len a) (some ()) fun _=> .val qj (n:Int):=by
 rintro E rv fp f H R _ ⟨⟩
 obtain⟨_,hv⟩:=ha E rv fp f H R
 obtain⟨_,id,h1,_,h3⟩:=R.slots j _ hj
 subst hn
 exact⟨_,none,by simp only[BC,hv,h1,Pn,an],rfl,BX.2 rfl⟩
theorem DU{sz sz' j i:Nat}{n:Int}{k:IntKind}{l:List (List Nat)}(ha:Cd tb Γ a (.own j))(hj:AM Γ.ss j=some (.rowk sz l))(hs:sz'=sz)(hb:Cd tb Γ b (.val (ah k) n))(hi:n=i)(hl:i<l.length):Fa tb Γ (.ias sz' a b) (some ()) fun _=> .ep j i 0:=by
 rintro E rv fp f H R _ ⟨⟩
 obtain⟨lv,hv⟩:=ha E rv fp f H R
 obtain⟨_,id,h1,_,h3⟩:=R.slots j _ hj
 subst hs hi
 refine⟨.pe id l.length (0+i) 0,none,?_,rfl,lv,id,l.length,h1,hl,by rw[da]⟩
 simp only[BC,hv,h1,BX.1 (hb E rv fp f H R),HE,aa]
 rw[qn (by omega)]
 simp[SD,E4,h3,hl,val]
theorem F8{sz n j i:Nat}{l:List (List Nat)}{js:List Nat}(ha:Cd tb Γ a (.ep j i 0))(hj:AM Γ.ss j=some (.rowk sz l))(hi:l[i]? =some js)(hn:yH Γ.ss js=some n):Fa tb Γ (.ld true n a) (some ()) fun _=> .aggk js:=by
 rintro E rv fp f H R _ ⟨⟩
 obtain⟨lv,id,m,e,_,hv⟩:=ha E rv fp f H R
 obtain⟨h0,id',h1,_,h3⟩:=R.slots j _ hj
 rw[e]at h1
 cases h1
 have hlen:=V2 R hn
 refine⟨.agg (js.flatMap fun j=>cellsOf (rv j)),none,?_,rfl,fun k hk=>h0 k (jh.2 ⟨js,cq hi,hk⟩),rfl⟩
 have hg:(l.map fun js=>js.flatMap fun j=>cellsOf (rv j))[i]? =some (js.flatMap fun j=>cellsOf (rv j)):=by rw[ff,hi];rfl
 simp only[BC,hv,load,place,h3,aa,e9,qt,val]
 rw[OB hg,Yo (by omega),qn (by rw[aw];omega)]
 simp only[sub,db]
 rw[av (by omega)]
 rfl
end
end
section
theorem OR{tb:Di}{q:Bool}{g:Nat}{w:Bool}{R:List Br}: ∀{l:List Br} {f:Fr} {H:Az},get f g= .b w→g∉HF l→Bj tb (CC tb) (rg q (l.map (gd g w)++R)) f H=Bj tb (CC tb) (rg q (l++R)) f H
 |[],_,_,_,_=>rfl
 |o::l,f,H,h,hn=>by
  have hd:o.d≠some g:=fun e=>hn (by simp[HF,e])
  have hn':g∉HF l:=fun e=>hn (by
   simp only[HF,jf]at e ⊢
   cases o.d<;>simp[e])
  have hwt:wanted f (gd g w o).g=wanted f o.g:=by
   cases ho:o.g with
   |none=>simp[gd,ho,wanted,h]
   |some p=>simp[gd,ho]
  have hoo:(gd g w o).o=o.o:=by cases ho:o.g<;>simp[gd,ho]
  have hod:(gd g w o).d=o.d:=by cases ho:o.g<;>simp[gd,ho]
  have ih: ∀v H',Bj tb (CC tb) (rg q (l.map (gd g w)++R)) (put f o.d v) H'=Bj tb (CC tb) (rg q (l++R)) (put f o.d v) H':=fun v H'=>OR (by rw[wanted_put (w:=w) hd];exact h) hn'
  cases q with
  |true=>
   have ih': ∀v H',I9 tb (CC tb) H' (l.map (gd g w)++R) (put f o.d v)=I9 tb (CC tb) H' (l++R) (put f o.d v):=fun v H'=>by
    have:=ih v H'
    simp only[rg,qt,Bj]at this
    cases h1:I9 tb (CC tb) H' (l.map (gd g w)++R) (put f o.d v)<;>cases h2:I9 tb (CC tb) H' (l++R) (put f o.d v)<;>simp_all
   simp only[rg,qt,Bj,bn,dt,I9,hwt,hoo,hod,ih']
  |false=>
   have ih': ∀v H',ops tb (CC tb) (l.map (gd g w)++R) (put f o.d v) H'=ops tb (CC tb) (l++R) (put f o.d v) H':=fun v H'=>by
    have:=ih v H'
    simp only[rg,au,qu,Bj]at this
    cases h1:ops tb (CC tb) (l.map (gd g w)++R) (put f o.d v) H'<;>cases h2:ops tb (CC tb) (l++R) (put f o.d v) H'<;>simp_all [Prod.ext_iff]
   simp only[rg,au,qu,Bj,bn,dt,ops,hwt,hoo,hod,ih']
section
variable{tb:Di}{Γ:Cx}{a b:AO}{ks:List Kf}{ρ:Type}{Q:Oj ρ}
def Aa.andI{q:Bool}{L l rest:List Br}{g t d:Nat}{b:Bool}(Γk:Cx)(n:Nat)(og:BM Γ.ts g=some (.val di b))(h:K3 g true n L=some (l,⟨some d,none, .pick (.t g) (.t t) (.k (.b false))⟩::rest))(hc:U7 g l Γ.ts=true)(hs: ∀z,Sub (Γk.push d (.val di z)) (Γ.push d (.val di z)))
  (k:(z:Bool)→Aa tb (Γk.push d (.val di z)) (rg q rest) ks Q)
  (main:((z:Bool)→Aa tb (Γk.push d (.val di z)) (rg q rest) ks Q)→Aa tb (Γ.push g (.val di true)) (rg q (l++⟨some d,none, .pick (.t g) (.t t) (.k (.b false))⟩::rest)) ks Q):Aa tb Γ (rg q L) ks Q:=
 ⟨if b=true then(main k).m else(k false).m,fun E f H ⟨rv,fp,I⟩ r hr=>by
  have hL:=G7 h
  simp only[U7,af,cg]at hc
  obtain⟨hc1,hc2,hc3⟩:=hc
  have hg:=F1.1 (I.temps g _ og)
  have hng:=Js hc2
  cases b with
  |true=>
   obtain⟨e,f',H',h4,h5⟩:=(main k).ok E f H ⟨rv,fp,I.le,I.base,I.wf,I.fplt,I.rvlt,I.scal,I.inj,I.slots,fun u φ e=>by
    simp only[n9,BM]at e
    split at e
    ·rename_i hu;cases e;subst hu;exact F1.2 hg
    ·exact I.temps u φ e,I.gh⟩ r (by simpa using hr)
   exact⟨e,f',H',by rw[hL,OR hg hng];exact h4,h5⟩
  |false=>
   obtain⟨f',h1,h2⟩:=Nv (tb:=tb) (q:=q) (w:=true) (H:=H) hg hng hc1 (by simp)
   have hp:BC tb (CC tb) (eval tb f') H (.pick (.t g) (.t t) (.k (.b false)))=some (.b false,none):=by
    simp only[BC,eval,h2 g hng,hg];rfl
   have I':B8 E Γ rv fp f' H:=I.fr fun u φ e=>h2 u (HX hc3 e)
   obtain⟨e,f2,H2,h4,h5⟩:=(k false).ok E _ H ⟨rv,fp,(YZ I').sub (hs _)⟩ r (by simpa using hr)
   exact⟨e,f2,H2,by rw[hL,EJ h1,Ej hp rfl];exact h4,h5⟩⟩
theorem LM{n:Nat}{t:T}{zero:List AV}{ps:List (Nat×Nat×AO)}(z:Ar t.α n)(hz:zero=(ak n t).zc)(h:uP tb Γ (ak n t) ps (ak n t).z z):Fa tb Γ (.bld zero ps) (some ()) fun _=> .val (ak n t) z:=by
 rintro E rv fp f H R _ ⟨⟩
 exact C9 hz rfl h E rv fp f H R z rfl
theorem O7{sz:Nat}: ∀{l:List (List AV)} {i:Nat},(∀e∈l,e.length=sz)→i≤l.length→l.flatten.take (i*sz)=(l.take i).flatten∧l.flatten.drop (i*sz)=(l.drop i).flatten
 |l,0,_,_=>by simp
 |[],i+1,_,h=>by simp at h
 |d::l,i+1,hl,h=>by
  have h1:=hl d bj
  obtain⟨a,b⟩:=O7 (l:=l) (i:=i) (fun e he=>hl e (bg _ he)) (by simpa using h)
  have hs:(i+1)*sz=d.length+i*sz:=by rw[ci];omega
  constructor
  ·rw[bm,hs,gw,av (by omega),ij,a];simp
  ·rw[bm,hs,←ck,ez rfl,b];simp
theorem sO{sz k m:Nat}{l:List (List AV)}(hl: ∀e∈l,e.length=sz)(h:k+m≤l.length):sub l.flatten (k*sz) (m*sz)=((l.drop k).take m).flatten:=by
 simp only[sub]
 rw[(O7 hl (i:=k) (by omega)).2,(O7 (fun e he=>hl e (cu he)) (i:=m) (by rw[bh];omega)).1]
theorem oB{sz:Nat}{l:List (List AV)}(hl: ∀e∈l,e.length=sz):l.flatten.length=l.length*sz:=by
 induction l with
 |nil=>simp
 |cons d l ih=>
  have:=ih fun e he=>hl e (bg _ he)
  have:=hl d bj
  simp only[bm,aw,bb,ci];omega
theorem jJ{sz i:Nat}{l dss:List (List AV)}(hl: ∀e∈l,e.length=sz)(hd: ∀e∈dss,e.length=sz)(h:i+dss.length≤l.length):BA l.flatten (i*sz) dss.flatten=(l.take i++dss++l.drop (i+dss.length)).flatten:=by
 simp only[BA,f6]
 rw[(O7 hl (i:=i) (by omega)).1,oB hd,←fx,(O7 hl (i:=i+dss.length) h).2]
def Wm(n:Nat)(t:T)(k m:Nat)(hkm:k+m≤n):AR (ak n t) (ak m t) (k*t.sz) where
 get:=fun x=>⟨(x.l.drop k).take m,by rw[a6,bh,x.len];omega⟩
 put:=fun x y=>⟨x.l.take k++y.l++x.l.drop (k+m),by rw[aw,aw,a6,bh,x.len,y.len];omega⟩
 le:=by
  show k*t.sz+m*t.sz≤n*t.sz
  rw[←fx];exact cr _ hkm
 getR:=fun{P H cs x} ⟨css,e,h⟩=>by
  refine⟨(css.drop k).take m,?_,h.drop.take⟩
  have hlen:=h.length
  have hx:=x.len
  rw[e]
  exact sO h.lens (by omega)
 putR:=fun{P H cs x c y} ⟨css,e,h⟩ ⟨dss,e',h'⟩=>by
  refine⟨css.take k++dss++css.drop (k+m),?_,(h.take.app h').app h.drop⟩
  have hlen:=h.length
  have hx:=x.len
  have hlen':=h'.length
  have hy:=y.len
  rw[e,e']
  have:=jJ (dss:=dss) h.lens h'.lens (i:=k) (by omega)
  rw[this,show dss.length=m by omega]
theorem VB{j off n sz:Nat}{ps:List (Nat×AW)}{lo hi:Option AO}{l h:Option Int}(hj:AM Γ.ss j=some (.cells ps))(hle:oe (off+n*sz) (Ww ps)=true)(ha:Cd tb Γ a (.cp j off))(hl:OpO tb Γ lo l)(hh:OpO tb Γ hi h):
  Fa tb Γ (.sla n sz a lo hi) (Qr n l h) fun p=> .oc j (off+p.1*sz) sz (p.2-p.1):=by
 intro E rv fp f H I p hp
 obtain⟨lv,id,e,hv⟩:=ha E rv fp f H I
 obtain⟨cs,h0,h2,h3⟩:=Ho I hj e
 have hs:=n8 h3
 have hle:=i7 hle
 refine⟨.ocel sz id (off+p.1*sz) (p.2-p.1),none,?_,rfl,lv,id,e,rfl⟩
 simp only[BC,hv]
 rw[Wd hl hh I,hp]
 simp only[aa,pV,h2]
 rw[qn (by omega)]
 rfl
theorem QQ{j off n sz k m o' c:Nat}{ps:List (Nat×AW)}{lo hi:Option AO}{l h:Option Int}(hj:AM Γ.ss j=some (.cells ps))(hle:oe (off+n*sz) (Ww ps)=true)(ha:Cd tb Γ a (.cp j off))(hl:OpO tb Γ lo l)(hh:OpO tb Γ hi h)
  (hb:Qr n l h=some (k,m)) (ho:off+k*sz=o') (hc:m-k=c):Fa tb Γ (.sla n sz a lo hi) (some ()) fun _=> .oc j o' sz c:=by
 rintro E rv fp f H I _ ⟨⟩
 subst ho hc
 exact VB hj hle ha hl hh E rv fp f H I (k,m) hb
theorem zT{n:Nat}{h:Option Int}{p:Nat×Nat}(e:Qr n none h=some p):p.1=0∧p.2≤n:=by
 have h2:=(bnd_le e).2
 unfold Qr at e
 obtain⟨u,hu,e⟩:=ab.1 e
 obtain⟨l,hl,e⟩:=ab.1 e
 cases hl
 cases e
 exact⟨rfl,h2⟩
theorem jD{j off n sz:Nat}{ps:List (Nat×AW)}{hi:Option AO}{h:Option Int}(hj:AM Γ.ss j=some (.cells ps))(hle:oe (off+n*sz) (Ww ps)=true)(ha:Cd tb Γ a (.cp j off))(hh:OpO tb Γ hi h):
  Fa tb Γ (.sla n sz a none hi) ((Qr n none h).map fun p=>p.2) fun m=> .oc j off sz m:=by
 intro E rv fp f H I m hm
 obtain⟨p,hp,rfl⟩:=aj.1 hm
 have:=VB hj hle ha .none hh E rv fp f H I p hp
 simp only[(zT hp).1,jb,ja,m7]at this
 exact this
theorem h_s2aC{j off len sz n:Nat}(ha:Cd tb Γ a (.oc j off sz len))(hn:oe n len=true):Fa tb Γ (.s2a n sz a) (some ()) fun _=> .cp j off:=by
 rintro E rv fp f H I _ ⟨⟩
 obtain⟨lv,id,e,hv⟩:=ha E rv fp f H I
 have hn:=i7 hn
 exact⟨.ptr id off,none,by simp only[BC,hv,Xa];rw[qn ⟨trivial,hn⟩];rfl,rfl,lv,id,e,rfl⟩
theorem h_lenC{j off len sz:Nat}(ha:Cd tb Γ a (.oc j off sz len)):Fa tb Γ (.len a) (some (len:Int)) fun n=> .val qj n:=by
 rintro E rv fp f H I _ ⟨⟩
 obtain⟨lv,id,e,hv⟩:=ha E rv fp f H I
 exact⟨.i .i64 len,none,by simp only[BC,hv,Pn,an],rfl,BX.2 rfl⟩
theorem h_iasC{j off len sz:Nat}{k:IntKind}{i:Int}{ps:List (Nat×AW)}(hj:AM Γ.ss j=some (.cells ps))(hle:off+len*sz≤Ww ps)(ha:Cd tb Γ a (.oc j off sz len))(hb:Cd tb Γ b (.val (ah k) i)):
  Fa tb Γ (.ias sz a b) (BU len i) fun m=> .cp j (off+m*sz):=by
 intro E rv fp f H I m hm
 obtain⟨h0,rfl,h1⟩:=eV hm
 obtain⟨lv,id,e,hv⟩:=ha E rv fp f H I
 obtain⟨cs,g0,g2,g3⟩:=Ho I hj e
 have hs:=n8 g3
 have hcl: ∀(n:Nat) (l:List AV),(BR sz n l).length=n:=by
  intro n
  induction n with
  |zero=>intro l;rfl
  |succ n ih=>intro l;simp[BR,ih]
 refine⟨.ptr id (off+i.toNat*sz),none,?_,rfl,lv,id,e,rfl⟩
 simp only[BC,hv,BX.1 (hb E rv fp f H I),HE,aa,qn h0,SD,E4,g2]
 rw[qn ⟨trivial,by omega⟩]
 simp only[aa,hcl]
 rw[qn (by omega)]
 rfl
theorem Jn{j off len sz:Nat}{k:IntKind}{i:Int}{ps:List (Nat×AW)}(N:Nat)(hj:AM Γ.ss j=some (.cells ps))(hN:N=Ww ps)(ha:Cd tb Γ a (.oc j off sz len))(hb:Cd tb Γ b (.val (ah k) i)):
  Fa tb Γ (.ias sz a b) (if off+len*sz≤N then BU len i else none) fun m=> .cp j (off+m*sz):=by
 intro E rv fp f H I m hm
 split at hm
 ·rename_i hle
  exact h_iasC hj (hN▸hle) ha hb E rv fp f H I m hm
 ·cases hm
theorem B8.learn{E:R7}{rv:Nat→AV}{fp:Fp}{f:Fr}{H:Az}(I:B8 E Γ rv fp f H){d:Nat}{φ:AW}(h:FR rv Γ.ss (Pf E Γ.ss fp H) H φ (get f d)):B8 E (Γ.push d φ) rv fp f H:=
 ⟨I.le,I.base,I.wf,I.fplt,I.rvlt,I.scal,I.inj,I.slots,fun t ψ e=>by
  simp only[n9,BM]at e
  split at e
  ·rename_i hd;cases e;subst hd;exact h
  ·exact I.temps t ψ e,I.gh⟩
def frzO{α:Type}(l:List α)(k m n:Nat):Option (GS α):=if k+m≤n then some (.mk ((l.drop k).take m))else none
theorem B8.frzSl{E:R7}{rv:Nat→AV}{fp:Fp}{f:Fr}{H:Az}(I:B8 E Γ rv fp f H){j N o k m n sz d:Nat}{t u:T}{x:t.α}{g:GS u.α}(F:AR t (ak n u) o)(hsz:sz=u.sz)(hj:AM Γ.ss j=some (.cells [(N, .val t x)]))(hn:je j iT=true)
  (hd:BM Γ.ts d=some (.oc j (o+k*sz) sz m)) (hg:frzO (F.get x).l k m n=some g):B8 E ((Γ.turn j (kI t x)).push d (.val (bq u) g)) rv fp f H:=by
 have hlj:Bo Γ.ss j:=Nz hj rfl
 have hs:=I.slots j _ hj
 obtain⟨_,id,e,hv⟩:=I.temps d _ hd
 obtain⟨id',cs,h3,h0,h4,c,e',h5,h6,h7,h8⟩:=hs
 rw[e]at h3
 cases h3
 have h8':e'=[]:=h8
 subst h8'
 simp only[dv]at h5
 subst h5
 simp only[frzO]at hg
 split at hg
 ·rename_i hkm
  cases hg
  have hlen:=t.len h7
  have hle:=F.le
  have J:=I.frzCell hj hn
  have hlv: ∀k,Bo (Γ.turn j (kI t x)).ss k↔k≠j∧Bo Γ.ss k:=RO
  subst hsz
  have hk:=(h0 id).2 rfl
  have hPid:Pf E (Γ.turn j (kI t x)).ss fp H id:=Pf.gone I hlj hk (fun k lk=>(hlv k).1 lk) (I.new hlj hn id hk)
  have hr:=t.mono (G:=H) (fun i hi=>⟨oa (ss':=(Γ.turn j (kI t x)).ss) (fun k l=>((hlv k).1 l).2) hi,rfl⟩) h7
  obtain⟨css,e1,e2⟩:=F.getR hr
  have hszA:(ak n u).sz=n*u.sz:=rfl
  have hwhole:Sb u (Pf E (Γ.turn j (kI t x)).ss fp H) H (.ocel u.sz id o n) (.mk (F.get x).l):=by
   refine⟨hPid,css,?_,e2⟩
   simp only[E4,h4,aa]
   rw[qn ⟨trivial,by omega⟩]
   congr 1
   have key: ∀(k:Nat) (css:List (List AV)) (cs:List AV),css.length=k→(∀e∈css,e.length=u.sz)→cs.take (k*u.sz)=css.flatten→BR u.sz k cs=css:=by
    intro k
    induction k with
    |zero=>intro css cs h _ _;rw[cj h];rfl
    |succ k ih=>
     intro css cs hk hall hc
     match css,hk with
     |y::css,hk=>
      have hy:=hall y (by simp)
      simp only[BR]
      simp only[bm]at hc
      have hA:cs.take u.sz=y:=by
       have:=qv (pn u.sz) hc
       rw[ji,f3 (by rw[ci];omega),il hy]at this
       exact this
      have hB:(cs.drop u.sz).take (k*u.sz)=css.flatten:=by
       have:=qv (List.drop u.sz) hc
       rw[ez hy,gb,ci,mc]at this
       exact this
      rw[hA,ih css (cs.drop u.sz) (by simpa using hk) (fun e he=>hall e (by simp[he])) hB]
   exact key n css (cs.drop o) (by rw[e2.length];exact(F.get x).len) e2.lens (by rw[←e1];rfl)
  have hlenx:(F.get x).l.length=n:=(F.get x).len
  obtain⟨w,h9,h10⟩:=hwhole.resl (c:=k) (d:=k+m) (by omega) (by simp only[l6];omega)
  have hw:Am.resl H u.sz (.ocel u.sz id o n) k (k+m)=some (.ocel u.sz id (o+k*u.sz) m):=by simp[Am.resl]
  rw[hw]at h9
  cases h9
  refine J.learn ?_
  rw[hv]
  have:Vz (GS.mk (F.get x).l) k (k+m)= .mk (((F.get x).l.drop k).take m):=by simp[Vz,gb]
  rw[this]at h10
  exact Iy.2 h10
 ·cases hg
def Aa.frzSl{c:AC}{j N o k m n sz:Nat}(d:Nat){t u:T}{x:t.α}(F:AR t (ak n u) o)(hsz:sz=u.sz)(hj:AM Γ.ss j=some (.cells [(N, .val t x)]))(hn:je j iT=true)
  (hd:BM Γ.ts d=some (.oc j (o+k*sz) sz m)) (s:(g:GS u.α)→Aa tb ((Γ.turn j (kI t x)).push d (.val (bq u) g)) c ks Q):Aa tb Γ c ks Q:=
 ⟨(frzO (F.get x).l k m n).bind fun g=>(s g).m,fun E f H ⟨rv,fp,I⟩ r hr=>by
  obtain⟨g,hg,hr⟩:=ab.1 hr
  exact(s g).ok E f H ⟨rv,fp,I.frzSl F hsz hj hn hd hg⟩ r hr⟩
def XB{α:Type}{n:Nat}(x:Ar α n)(k m:Nat)(ys:List α):Option (Ar α n):=
 if h:k+m≤n then some ⟨x.l.take k++ys.take m++x.l.drop (k+min ys.length m),by
  rw[aw,aw,a6,a6,bh,x.len];omega⟩else none
theorem B8.cpy{E:R7}{rv:Nat→AV}{fp:Fp}{f:Fr}{H:Az}(I:B8 E Γ rv fp f H){s t:T}{x:s.α}{n j o o' k sz m N:Nat}{ps:List (Nat×AW)}{ys:List t.α}{z:Ar t.α n}(F:AR s (ak n t) o')(hk:sz=t.sz)
  (ha:Cd tb Γ a (.oc j (o+k*sz) sz m)) (hb:NewL tb Γ b t ys) (hj:AM Γ.ss j=some (.cells ps)) (hp:L8 ps o=some (N, .val s x,o')) (hz:XB (F.get x) k m ys=some z):
  ∃v H',BC tb (CC tb) (eval tb f) H (.cpy sz a b)=some (v,some H')∧v= .i .i64 ((min ys.length m:Nat):Int)∧ ∃rv' fp',B8 E (Γ.setS j (.cells (X0 ps o (.val s (F.put x z))))) rv' fp' f H':=by
 subst hk
 simp only[XB]at hz
 split at hz
 ·rename_i hkm
  cases hz
  obtain⟨l,id,e,hv⟩:=ha E rv fp f H I
  obtain⟨cs,h0,h2,h3⟩:=Ho I hj e
  obtain⟨b',c,e0,e1,e2,e3,e4,e5,e6⟩:=Ha h3 hp
  obtain⟨els,g1,g2⟩:=hb E rv fp f H I
  have hel:=g2.length
  have hlens:=(g2.take (n:=m)).lens
  have htl:(els.take m).length=min ys.length m:=by rw[a6,hel,nb]
  have hfl:=oB hlens
  rw[htl]at hfl
  let G:=Ko F (Wm n t k (min ys.length m) (by omega))
  have hle:=G.le
  have hszA:(ak (min ys.length m) t).sz=min ys.length m*t.sz:=rfl
  have hl:=s.len e4
  have hy:(ak (min ys.length m) t).R (Pf E Γ.ss fp H) H (els.take m).flatten ⟨ys.take m,by rw[a6,nb]⟩:=⟨els.take m,rfl,g2.take⟩
  have hput:=G.putR e4 hy
  have hpr:=e6 (o'+k*t.sz) (els.take m).flatten (.val s (G.put x ⟨ys.take m,by rw[a6,nb]⟩)) (by rw[hfl];omega) hput
  rw[show b'+(o'+k*t.sz)=o+k*t.sz by omega]at hpr
  have hmen:=qg I.ltP I.rvlt h3
  have hym:=(ak (min ys.length m) t).men hy I.ltP
  have hlt':=(I.fplt j id l ((h0 id).2 rfl)).1
  have hx:G.put x ⟨ys.take m,by rw[a6,nb]⟩=F.put x ⟨(F.get x).l.take k++ys.take m++(F.get x).l.drop (k+min ys.length m),by
    rw[aw,aw,a6,a6,bh,(F.get x).len];omega⟩:=rfl
  rw[hx]at hpr
  obtain⟨rv',fp',_,_,R'⟩:=I.set (j:=j) (S:= .cells (X0 ps o (.val s (F.put x ⟨(F.get x).l.take k++ys.take m++(F.get x).l.drop (k+min ys.length m),by
    rw[aw,aw,a6,a6,bh,(F.get x).len];omega⟩)))) (v:=rv j) (o:= .cells (ED H id) (BA cs (o+k*t.sz) (els.take m).flatten)) (by rw[hj];rfl) l h0 (by simp only[E7];exact Ph hmen hym) rfl (I.rvlt j l) (.inl rfl) (I.scal j l) fun rv' fp' e1 e2 hP hs=>
   ⟨id,_,by rw[e1,e],e2,by simp[C3,hlt'],o8 hP (by simp) (fun p _=>hs p.2 (.inl rfl)) hpr⟩
  refine⟨_,H.set id (CB.cells (ED H id) (BA cs (o+k*t.sz) (els.take m).flatten)),?_,rfl,rv',fp',R'⟩
  have hmn:min els.length m=min ys.length m:=by rw[hel]
  have hbnd:o+k*t.sz+m*t.sz≤cs.length:=by
   have hF:=F.le
   have hszF:(ak n t).sz=n*t.sz:=rfl
   have:(k+m)*t.sz≤n*t.sz:=cr _ hkm
   rw[fx]at this
   omega
  simp only[BC,g1,aa,hv,kF,h2]
  rw[qn ⟨trivial,hbnd⟩,hmn]
  have hte:els.take (min ys.length m)=els.take m:=by
   rw[←hmn]
   rcases Nat.le_total els.length m with h|h
   ·rw[f3 h,av (be _),av h]
   ·rw[Nat.min_eq_right h]
  rw[hte,BA,hfl]
 ·cases hz
theorem uK{s t:T}{x:s.α}{n j o o' k sz m N d:Nat}{ps:List (Nat×AW)}{ys:List t.α}(F:AR s (ak n t) o')(hk:sz=t.sz)
  (ha:Cd tb Γ a (.oc j (o+k*sz) sz m)) (hb:NewL tb Γ b t ys) (hj:AM Γ.ss j=some (.cells ps)) (hp:L8 ps o=some (N, .val s x,o')):
  XN tb Γ (some d) (.cpy sz a b) (XB (F.get x) k m ys) fun z=>(Γ.setS j (.cells (X0 ps o (.val s (F.put x z))))).push d (.val qj ((min ys.length m:Nat):Int)):=fun E rv fp f H I z hz=>by
 obtain⟨v,H',h1,rfl,rv',fp',h2⟩:=I.cpy F hk ha hb hj hp hz
 exact⟨_,some H',h1,rv',fp',h2.push (BX.2 rfl)⟩
def rM:AW→Bool
 | .own _=>true
 | .rp _ _=>true
 | .cp _ _=>true
 | .ep _ _ _=>true
 | .con _=>true
 | .fnv _ _ _=>true
 | .val t _=> !t.agg
 |_=>false
theorem yE{φ:AW}(h:rM φ=true){E:R7}{rv:Nat→AV}{fp:Fp}{f:Fr}{H:Az}(R:B8 E Γ rv fp f H)(hs:szF Γ.ss φ=some 1){v:AV}(r:FR rv Γ.ss (Pf E Γ.ss fp H) H φ v):
  cellsOf v=[v]∧Cc v≤H.length∧ ∀rv ss P H,FC rv ss P H φ [v]↔FR rv ss P H φ v:=by
 obtain⟨g1,g2⟩:=Yl R hs r
 have ha:aggF φ=false:=by cases φ<;>first|rfl|(simp only[rM,au]at h;done)|(simp only[rM,cg]at h;exact h)
 rw[ha]at g2
 refine⟨?_,pj R.ltP R.rvlt (by rintro rfl;cases h) r,fun rv ss P H=> ?_⟩
 ·match hc:cellsOf v,g1 with
  |[w],_=>
   rw[hc]at g2
   simp only[Iq,ae]at g2
   rw[g2]
 ·cases φ<;>first
   |(simp only[rM,au]at h;done)
   |exact⟨fun⟨w,e,r⟩=>by cases e;exact r,fun r=>⟨v,rfl,r⟩⟩
   |exact⟨fun r=> .inr ⟨by simpa [rM]using h,r⟩,fun r=>r.elim (fun⟨e,_⟩=>by simp[rM,e]at h) (fun e=>e.2)⟩
theorem AH{d t0:Nat}{z:List AV}(j:Nat)(ps:List (Nat×AW))(hz: ∀rv ss P H,PR rv ss P H ps z)(hm:B0 z=0)(hj:AM Γ.ss j=none):XN tb Γ (some d) (.alloc t0 z) (some ()) fun _=>⟨(d, .cp j 0)::Γ.ts,(j, .cells ps)::Γ.ss⟩:=by
 intro E rv fp f H R _ hz0
 obtain⟨rv',fp',h1,h2,h3⟩:=R.more (j:=j) (S:= .cells ps) (v:= .ptr H.length 0) (o:= .cells (some t0) z) (Ht hj) (by simp only[E7];omega) rfl (by simp[Cc]) rfl fun rv' fp' e1 e2 hP hs=>
  ⟨_,z,e1,e2,by simp[C3],hz _ _ _ _⟩
 exact⟨_,_,rfl,rv',fp',h3.push (φ:= .cp j 0) ⟨h2,_,h1,rfl⟩⟩
theorem h_cvcI{I:IT}{x:I.t.α}(ha:Cd tb Γ a (.val I.t x)):Fa tb Γ (.cvc a) (some (mg (I.toI x)).data.toList) fun z=> .val Ak z:=by
 rintro E rv fp f H R z ⟨⟩
 exact⟨_,none,by simp only[BC,I.V.1 (ha E rv fp f H R)],rfl,Ep.2 rfl⟩
end
section
variable{tb:Di}{Γ:Cx}{a b:AO}
def Ul(ss:Ss):List Nat→Bool
 |[]=>true
 |j::r=>(match AM ss j with
  |some (.keep φ)=>rM φ&&(match szF ss φ with|some 1=>true|_=>false)
  |_=>false)&&Ul ss r
theorem Pc{E:R7}{rv:Nat→AV}{fp:Fp}{f:Fr}{H:Az}(R:B8 E Γ rv fp f H): ∀{js:List Nat},Ul Γ.ss js=true→(js.flatMap fun j=>cellsOf (rv j))=js.map rv∧N0 Γ.ss js∧ ∀j∈js,Cc (rv j)≤H.length
 |[],_=>⟨rfl,fun _ hj=>absurd hj (by simp),fun _ hj=>absurd hj (by simp)⟩
 |j::r,h=>by
  simp only[Ul,af]at h
  obtain⟨h1,h2⟩:=h
  obtain⟨g1,g2,g3⟩:=Pc R h2
  split at h1
  ·rename_i φ e
   simp only[af]at h1
   have hs:szF Γ.ss φ=some 1:=by
    have:=h1.2
    split at this
    ·assumption
    ·cases this
   obtain⟨k1,k2,_⟩:=yE h1.1 R hs (R.slots j _ e).1
   refine⟨by simp only[eh,bn,k1,g1];rfl,fun k hk=> ?_,fun k hk=> ?_⟩
   ·rcases bu.1 hk with rfl|hk
    ·rw[e];rfl
    ·exact g2 k hk
   ·rcases bu.1 hk with rfl|hk
    ·exact k2
    ·exact g3 k hk
  ·cases h1
def kvs(js:List Nat):List (Nat×AW):=js.map fun k=>(1, .kv k)
theorem kvs_PR{rv:Nat→AV}{ss:Ss}{P:Nat→Prop}{H:Az}: ∀{js:List Nat},N0 ss js→PR rv ss P H (kvs js) (js.map rv)
 |[],_=>rfl
 |j::r,h=>⟨[rv j],r.map rv,rfl,rfl,⟨rv j,rfl,fun k hk=>by rw[gf.1 hk];exact h j (by simp),rfl⟩,kvs_PR fun k hk=>h k (by simp[hk])⟩
theorem PR_kvs{rv:Nat→AV}{ss:Ss}{P:Nat→Prop}{H:Az}: ∀{js:List Nat} {cs:List AV},PR rv ss P H (kvs js) cs→cs=js.map rv
 |[],cs,h=>h
 |j::r,cs,⟨c,d,e,_,⟨v,hc,_,hv⟩,g⟩=>by rw[e,hc,PR_kvs g,hv];rfl
theorem Bd{js:List Nat}{j n:Nat}{ps:List (Nat×AW)}(ha:Cd tb Γ a (.cp j 0))(hb:Cd tb Γ b (.aggk js))(ho:Ul Γ.ss js=true)(hj:AM Γ.ss j=some (.cells ps))(hn:n=js.length)(hs:n=Ww ps):
  XN tb Γ none (.st n a b) (some ()) fun _=>Γ.setS j (.cells (kvs js)):=by
 rintro E rv fp f H R z ⟨⟩
 obtain⟨l,id,e,hv⟩:=ha E rv fp f H R
 obtain⟨cs,h0,h2,h3⟩:=Ho R hj e
 obtain⟨g1,g2,g3⟩:=Pc R ho
 have hbv:=(hb E rv fp f H R).2
 rw[g1]at hbv
 have hlen:=n8 h3
 have hlt:=(R.fplt j id l ((h0 id).2 rfl)).1
 have hm:B0 (js.map rv)≤H.length:=by
  have key: ∀l:List Nat,(∀j∈l,Cc (rv j)≤H.length)→B0 (l.map rv)≤H.length:=by
   intro l
   induction l with
   |nil=>intro _;simp[B0]
   |cons x l ih=>intro h;simp only[bn,B0];have:=h x (by simp);have:=ih fun j hj=>h j (by simp[hj]);omega
  exact key js g3
 obtain⟨rv',fp',_,_,R'⟩:=R.set (j:=j) (S:= .cells (kvs js)) (v:=rv j) (o:= .cells (ED H id) (js.map rv)) (by rw[hj];rfl) l h0 (by simp only[E7];exact hm) rfl (R.rvlt j l) (.inl rfl) (R.scal j l) fun rv' fp' e1 e2 hP hs=>
  ⟨id,_,by rw[e1,e],e2,by simp[C3,hlt],o8 hP (by simp) (fun p _=>hs p.2 (.inl rfl)) (kvs_PR (rv:=rv) g2)⟩
 have hsp:BA cs 0 (js.map rv)=js.map rv:=by
  simp only[BA,j5,dw,da]
  rw[jp (by rw[e9];omega),dv]
 refine⟨.junk,some (H.set id (CB.cells (ED H id) (js.map rv))),?_,rv',fp',R'⟩
 simp only[BC,hv,store,h2,aa,hbv,cellsOf]
 rw[qn ⟨by rw[e9,hn],by omega⟩,hsp]
 rfl
theorem h_ldKs{js:List Nat}{j n:Nat}(ha:Cd tb Γ a (.cp j 0))(ho:Ul Γ.ss js=true)(hj:AM Γ.ss j=some (.cells (kvs js)))(hn:n=js.length):Fa tb Γ (.ld true n a) (some ()) fun _=> .aggk js:=by
 rintro E rv fp f H R z ⟨⟩
 obtain⟨l,id,e,hv⟩:=ha E rv fp f H R
 obtain⟨cs,h0,h2,h3⟩:=Ho R hj e
 obtain⟨g1,g2,g3⟩:=Pc R ho
 have hcs:=PR_kvs h3
 subst hcs
 have hsub:sub (js.map rv) 0 n=js.map rv:=by
  simp only[sub,db];exact av (by rw[e9];omega)
 refine⟨.agg (js.map rv),none,?_,rfl,g2,by rw[g1]⟩
 simp only[BC,hv,Am.load,place,h2,an,aa]
 rw[qn (by rw[e9];omega),hsub]
 rfl
theorem DJ{js:List Nat}{j n m:Nat}(h:BM Γ.ts n=some (.cp j 0))(ho:Ul Γ.ss js=true)(hj:AM Γ.ss j=some (.cells (kvs js)))(hm:m=js.length):ResG Γ (.cell true m n) (.aggk js):=by
 intro E rv fp f H R r vs hr
 obtain⟨v,u,h1,_,h3⟩:=h_ldKs (tb:=⟨fun _=>none,fun _=>none,fun _=>none,[]⟩) (BT h) ho hj hm E rv fp f H R () rfl
 simp only[BC,eval,val]at h1
 obtain⟨w,hw,e⟩:=aj.1 h1
 cases e
 exact⟨v,by simp only[results,hw,aa,hr,an],h3⟩
end
def dA{t:T}{l:List CK}(p:FG t l)(x y:t.α):Bool:= @decide (x=y) (p.d x y)
theorem ZT{t:T}{l:List CK}{p:FG t l}{x y:t.α}(h:x=y):dA p x y=true:= @qq _ (p.d x y) h
theorem kG{t:T}{l:List CK}{p:FG t l}{x y:t.α}(h: ¬x=y):dA p x y=false:= @qr _ (p.d x y) h
open Classical in
noncomputable def fC{β:Type}(g:Nat→Option β):Option β:=if h: ∃n,(g n).isSome=true then g (d5 h)else none
theorem nW{β:Type}{g:Nat→Option β}{b:β}(h: ∀n,g n=none∨g n=some b){m:Nat}(hm:g m=some b):fC g=some b:=by
 have hx: ∃n,(g n).isSome=true:=⟨m,by rw[hm];rfl⟩
 unfold fC
 rw[dif_pos hx]
 rcases h (d5 hx)with e|e
 ·have:=jv hx
  rw[e]at this;cases this
 ·exact e
theorem aQ{tb:Di}{g:Nat}{As Rs:List T}:Spec tb g As Rs fun _=>none:=fun _ _ _ _ _ _ _ _ h=>by cases h
theorem fW{tb:Di}{g:Nat}{As Rs:List T}{G:Nat→Cl As→Option (Cl Rs)}(h: ∀n,Spec tb g As Rs (G n)):Spec tb g As Rs fun a=>fC fun n=>G n a:=by
 intro P hp args xs h1 h2 h3 r hr
 simp only[fC]at hr
 by_cases e: ∃n,(G n xs).isSome=true
 ·rw[dif_pos e]at hr
  exact h _ P hp args xs h1 h2 h3 r hr
 ·rw[dif_neg e]at hr
  cases hr
end
section
section
variable{tb:Di}{cl:Nat→List AV→Az→Mb}{N:Nat}
end
section
variable{tb:Di}{Γ:Cx}{a b:AO}{ks:List Kf}{ρ:Type}{Q:Oj ρ}
def qA:T:=TL Bool (fun x=>if x then .ifc 0 .junk else .nili) false (fun x=>by cases x<;>rfl) (fun x=>by cases x<;>rfl)
theorem kZ{P:Nat→Prop}{H:Az}{v:AV}{x:Bool}:qA.V P H v x↔v=if x then .ifc 0 .junk else .nili:=R5
theorem h_mkif{t:Nat}:Fa tb Γ (.mkif t a) (some ()) fun _=> .val qA true:=by
 rintro E rv fp f H R _ ⟨⟩
 exact⟨_,none,rfl,rfl,kZ.2 rfl⟩
theorem h_isni{x neg:Bool}(ha:Cd tb Γ a (.val qA x)):Fa tb Γ (.isni neg a) (some (if neg then x else !x)) fun z=> .val di z:=by
 rintro E rv fp f H R _ ⟨⟩
 have h:=kZ.1 (ha E rv fp f H R)
 refine⟨.b (if neg then x else !x),none,?_,rfl,F1.2 rfl⟩
 simp only[BC,h]
 cases x<;>cases neg<;>rfl
theorem o_g{n:Nat}{t:T}{cs:List AV}{x:t.α}(h:tb.gl n=some cs)(hm:B0 cs=0)(hr: ∀P H,t.R P H cs x):Cd tb Γ (.g n) (.rp t x):=fun E rv fp f H R=>by
 have hl:=t.len (hr (Pf E Γ.ss fp H) H)
 have he:eval tb f (.g n)= .ip cs 0:=by simp only[eval,h]
 show qM t _ _ _ _
 rw[he]
 refine⟨trivial,cs,0,rfl,by omega,?_,fun m _=>by simp only[Cc,hm];omega⟩
 have:sub cs 0 t.sz=cs:=by simp[sub,←hl]
 rw[this];exact hr _ _
theorem tab_m{α:Type}(c:α→AV)(hm: ∀x,Cc (c x)=0): ∀l:List α,B0 (l.map c)=0
 |[]=>rfl
 |x::l=>by simp only[bn,B0,hm x,tab_m c hm l];rfl
theorem tab_R{α:Type}{c:α→AV}{z:α}{hs hm}{n:Nat}{P:Nat→Prop}{H:Az}(x:Ar α n):(ak n (TL α c z hs hm)).R P H (x.l.map c) x:=by
 have key: ∀l:List α,l.map c=(l.map fun y=>[c y]).flatten∧CL (TL α c z hs hm) P H (l.map fun y=>[c y]) l:=fun l=>by
  induction l with
  |nil=>exact⟨rfl,trivial⟩
  |cons y l ih=>exact⟨by simp[ih.1],rfl,ih.2⟩
 exact⟨_,(key x.l).1,(key x.l).2⟩
end
section
variable{K V:T}{P Q:Nat→Prop}{H G:Az}
end
section
variable{K V:T}{P Q:Nat→Prop}{H G:Az}{ek:EK}
end
section
variable{tb:Di}{Γ:Cx}{a b c:AO}{K V:T}{ek:EK}
end
end
section
section
variable{tb:Di}{Γ:Cx}{ks:List Kf}{ρ:Type}{Q:Oj ρ}
def QJ(tb:Di){τ:Type}(Γj:τ→Cx)(ks:List Kf)(Q:Oj ρ):Oj (τ⊕ρ):=fun E r e f H=>
 match r with
 | .inl p=>e= .normal∧Rel E (Γj p) f H
 | .inr r=>e≠ .normal∧ ∃e' f' H',Is tb ks (e,f,H)=some (e',f',H')∧Q E r e' f' H'
def E5{c:AC}{τ:Type}(Γj:τ→Cx)(k:(p:τ)→Aa tb (Γj p) (rg false []) ks Q)(main:Aa tb Γ c [] (QJ tb Γj ks Q)):Aa tb Γ c ks Q:=
 ⟨main.m.bind (a8 (fun p=>(k p).m) some),fun E f H R r hr=>by
  obtain⟨b,hb,hr⟩:=ab.1 hr
  obtain⟨e,f1,H1,h1,h2⟩:=main.ok E f H R b hb
  have h1':Bj tb (CC tb) c f H=some (e,f1,H1):=by
   obtain⟨p,hp,h⟩:=ab.1 h1
   rw[hp,←h];rfl
  rw[h1']
  cases b with
  |inr r'=>
   simp only[pa,ae]at hr
   subst hr
   exact h2.2
  |inl p=>
   obtain⟨rfl,R'⟩:=h2
   simp only[fj]at hr
   obtain⟨e2,f2,H2,h4,h5⟩:=(k p).ok E f1 H1 R' r hr
   exact⟨e2,f2,H2,by simpa [DN]using h4,h5⟩⟩
def D5{q:Bool}{τ:Type}{Γj:τ→Cx}(p:τ)(h:Sub (Γj p) Γ):Aa tb Γ (rg q []) [] (QJ tb Γj ks Q):=
 ⟨some (.inl p),fun E f H ⟨rv,fp,I⟩ r hr=>by
  cases hr
  exact⟨.normal,f,H,by simp[DN,Is],rfl,rv,fp,I.sub h⟩⟩
def R6{τ:Type}{Γj:τ→Cx}{ks':List Kf}(s:Aa tb Γ .ret ks Q):Aa tb Γ .ret ks' (QJ tb Γj ks Q):=
 UR ⟨s.m.map fun r=> .inr r,fun E f H R r hr=>by
  obtain⟨r',h1,rfl⟩:=aj.1 hr
  obtain⟨e,f',H',h2,h3⟩:=s.ok E f H R r' h1
  refine⟨.ret,f,H,by simp[Bj,Is],by simp,e,f',H',?_,h3⟩
  simpa [Bj]using h2⟩
def Ai{q:Bool}{d:Nat}{o:HB}{l:List Br}{β:Type}{a:β}{φ:β→AW}(h:Fa tb Γ o (some a) φ)(k:(b:β)→Aa tb (Γ.push d (φ b)) (rg q l) ks Q):Aa tb Γ (rg q (⟨some d,none,o⟩::l)) ks Q:=
 ⟨(k a).m,(am h k).ok⟩
def AL{q:Bool}{d t:Nat}{o:HB}{l:List Br}{β:Type}{a:β}{φ:β→AW}(h:Fa tb Γ o (some a) φ)(k:(b:β)→AU tb (Γ.push d (φ b)) q l t):AU tb Γ q (⟨some d,none,o⟩::l) t:=
 ⟨(k a).m,(ga h k).ok⟩
def Aj{d:Option Nat}{o:HB}{l:List Br}{β:Type}{a:β}{Γ':β→Cx}(h:XN tb Γ d o (some a) Γ')(k:(b:β)→Aa tb (Γ' b) (rg false l) ks Q):Aa tb Γ (rg false (⟨d,none,o⟩::l)) ks Q:=
 ⟨(k a).m,(By h k).ok⟩
variable{w:List (Option (Nat×Nat))}{N k:Nat}{B:List Ob}{C C':List Cb}{o:HB}{l:List Br}{y:Nat×Nat}
def Cm{d:Nat}{β:Type}{a:β}{φ:β→AW}(hq:pM N k B C y (some d) o=true)(h:Fa tb Γ o (some a) φ)(s:(b:β)→A0 tb (Γ.push d (φ b)) N k B C l w ks Q):A0 tb Γ N k B C (⟨some d,none,o⟩::l) (some y::w) ks Q:=
 ⟨(s a).m,(A0.op hq h s).ok⟩
def Wk{d:Option Nat}{β:Type}{a:β}{Γ':β→Cx}(hq:zQ B C' d=true)(hb: ∀b,dI tb (Γ' b) B)(hc:Nj Γ k C C')(h:XN tb Γ d o (some a) Γ')(s:(b:β)→A0 tb (Γ' b) N (k+1) (tO B) C' l w ks Q):A0 tb Γ N k B C (⟨d,none,o⟩::l) (none::w) ks Q:=
 ⟨(s a).m,(CU hq hb hc h s).ok⟩
end
end
section
def eI(tB te:Nat):List AV→Az→Option (AV×Option Az)
 |[.ptr id off, .i .i64 n],h=>match h[id]? with
  |some (.cells (some t) [a, .nils])=>if off=0∧t=tB∧0≤n∧n≤Bs then some (.tup [],some (h.set id (.cells (some t) [a, .orow h.length 0 0 0])++[.row (some te) false 1 []]))else none
  |_=>none
 |_,_=>none
def qG(P:Program)(g te:Nat):Prop:= ∀(b n:Nat) (w:World),w.cell? ⟨b,1,none⟩=some (.slice none 0 0)→b<w.heap.size→w.frozen? ⟨b,1,none⟩=false→n≤281474976710656→
 ∃cs:Array Value,n≤cs.size∧Calls P g #[.pointer (some ⟨b,0,none⟩), .int .i64 n] w fun e w'=>e= .returned (.tuple #[])∧w'=((w.setCell ⟨b,1,none⟩ (.slice (some ⟨w.heap.size,0,none⟩) 0 cs.size)).alloc (.cells cs te)).drew.drew.drew
def pB(P:Program)(g:Nat):Bool:=match P.funcs[g]? with
 |some fn=>fn.body.isSome&& !(fn.name== "runtime.NumGoroutine")
 |none=>false
section
variable{P:Program}{tb:Di}
theorem MR{g:Nat}(h:pB P g=true)(vs:Array Value)(w:World):(callFunc g vs).run P w= .ok (.enter g vs) w:=by
 unfold pB at h
 split at h
 ·rename_i fn hf
  simp only[af,cg]at h
  obtain⟨h1,h2⟩:=h
  obtain⟨c,hc⟩:=bl.1 h1
  have h2': ¬fn.name= "runtime.NumGoroutine" :=by simpa using h2
  simp[callFunc,hf,hc,h2']
 ·cases h
theorem xX{tB te g:Nat}(hen:pB P g=true)(hg:qG P g te):Fh P tb fun g' args h=>if g'=g then eI tB te args h else none:=by
 intro g' C args vs r I hr h
 dsimp only at h
 split at h
 ·rename_i hgg
  subst hgg
  unfold eI at h
  split at h
  ·rename_i hp id off n
   split at h
   ·rename_i t x hid
    split at h
    ·rename_i hc
     obtain⟨rfl,rfl,h0,hm⟩:=hc
     cases h
     obtain⟨v,vs',e1,r1,v2,vs2,e2,r2,e3⟩:=hr
     have e3':vs2=[]:=e3
     have r2':v2= .int .i64 n:=r2
     subst e3';subst e2;subst e1;subst r2'
     obtain⟨_,rfl⟩:=r1
     obtain⟨us,arr,e,fr,⟨h1,hb⟩,h2,h3,h4,h5,h6⟩:=I.obj id _ hid
     obtain⟨ux,us1,eu1,rx,uy,us2,eu2,ry,eu3⟩:=h4
     have eu3':us2=[]:=eu3
     have ry':uy= .slice none 0 0:=ry
     subst eu3';subst eu2;subst eu1;subst ry'
     have hlt:(C.φ id).blk<C.w.heap.size:=I.lt id (Bl hid)
     have hidl:=Bl hid
     have c1:C.w.cell? ⟨(C.φ id).blk,1,none⟩=some (.slice none 0 0):=by
      have:=h5 1 (.slice none 0 0) rfl
      simpa using this
     have hnn:((n.toNat:Nat):Int)=n:=ol h0
     have hmm:n.toNat≤281474976710656:=by unfold Bs at hm;omega
     obtain⟨cs,hcs,hcall⟩:=hg (C.φ id).blk n.toNat C.w c1 hlt (h6 1 (by simp)) hmm
     rw[hnn]at hcall
     refine .inr ⟨g',_,MR hen _ _,hcall.mono ?_⟩
     rintro ee w' ⟨rfl,hw'⟩
     have hszA:C.w.heap.size<(C.w.alloc (.cells cs te)).heap.size:=by rw[HY];omega
     obtain⟨XA,hIA,hφA⟩:=more I (p:=⟨C.w.heap.size,0,cs.size⟩) (o:=CB.row (some te) false 1 []) (w:=C.w.alloc (.cells cs te)) ⟨rfl,rfl,rfl⟩ hszA rfl (fun b hb=>alloc_old _ _ hb)
     have hfA: ∀o,(C.w.alloc (.cells cs te)).frozen? ⟨C.w.heap.size,o,none⟩=false:=fun o=>by simp only[jc,Jy];simp
     have IA:=hIA ⟨[],cs,te,(0,0),⟨Jy _ _,be _,fun k hk=>by cases hk;rfl⟩,rfl,by omega,by simp,rfl,by simp,fun j v hj=>by simp at hj,fun _ o _=>hfA o,fun _ o _ _=>hfA o⟩
     have hφid:(C.more ⟨C.w.heap.size,0,cs.size⟩ (CB.row (some te) false 1 []) (C.w.alloc (.cells cs te))).φ id=C.φ id:=qo (by omega)
     have hgA:(C.more ⟨C.w.heap.size,0,cs.size⟩ (CB.row (some te) false 1 []) (C.w.alloc (.cells cs te))).H[id]? =some (.cells (some t) [x, .nils]):=(br hidl).trans hid
     have hws:w'.heap.size=C.w.heap.size+1:=by rw[hw'];simp
     have hwn:w'.heap[C.w.heap.size]? =some (.cells cs te):=by
      rw[hw']
      have:(C.w.setCell ⟨(C.φ id).blk,1,none⟩ (.slice (some ⟨C.w.heap.size,0,none⟩) 0 cs.size)).heap.size=C.w.heap.size:=by simp
      have hq:=Jy (C.w.setCell ⟨(C.φ id).blk,1,none⟩ (.slice (some ⟨C.w.heap.size,0,none⟩) 0 cs.size)) (.cells cs te)
      rw[this]at hq
      exact hq
     have hwo: ∀b,b<C.w.heap.size→w'.heap[b]? =(C.w.setCell ⟨(C.φ id).blk,1,none⟩ (.slice (some ⟨C.w.heap.size,0,none⟩) 0 cs.size)).heap[b]? :=fun b hb=>by
      rw[hw']
      exact alloc_old _ _ (by simpa using hb)
     have hwid:w'.heap[(C.φ id).blk]? =some (.cells (arr.setIfInBounds 1 (.slice (some ⟨C.w.heap.size,0,none⟩) 0 cs.size)) e fr):=by
      rw[hwo _ hlt];exact Ux h1
     let D0:=C.more ⟨C.w.heap.size,0,cs.size⟩ (CB.row (some te) false 1 []) (C.w.alloc (.cells cs te))
     obtain⟨X,hI⟩:=upd (C:=D0) (D:=⟨D0.φ,D0.H.set id (.cells (some t) [x, .orow C.H.length 0 0 0]),w'⟩) IA (o':= .cells (some t) [x, .orow C.H.length 0 0 0]) (by rw[hw'];exact⟨rfl,rfl,rfl⟩) hgA rfl (fun _ _=>rfl)
      (by show(C.w.alloc (.cells cs te)).heap.size≤w'.heap.size;rw[HY,hws];exact be _)
      (fun b hb hne=>by
       have hb':b<C.w.heap.size+1:=by have:b<(C.w.alloc (.cells cs te)).heap.size:=hb;rw[HY]at this;exact this
       show w'.heap[b]? =(C.w.alloc (.cells cs te)).heap[b]?
       by_cases hbe:b=C.w.heap.size
       ·subst hbe;rw[hwn,Jy]
       ·have hbl:b<C.w.heap.size:=by omega
        have hne':b≠(C.φ id).blk:=fun e=>hne (by rw[e];exact qv Place.blk hφid.symm)
        rw[hwo b hbl,alloc_old _ _ hbl,heap_setCell_other hne'])
      (.inl rfl) (fun _=>⟨rfl,rfl⟩) (fun _ _ _ _ e=>by cases e)
     have hrow:rowAt (D0.H.set id (.cells (some t) [x, .orow C.H.length 0 0 0])) C.H.length=some (false,1,[]):=by
      have:(D0.H.set id (CB.cells (some t) [x, .orow C.H.length 0 0 0]))[C.H.length]? =some (CB.row (some te) false 1 []):=by
       rw[dx (by omega)]
       show(C.H++[_])[C.H.length]? =_
       simp
      simp only[rowAt,this]
     have hI2:=hI (by
      show Obj _ (D0.φ id) _
      rw[hφid]
      refine⟨[ux, .slice (some ⟨C.w.heap.size,0,none⟩) 0 cs.size],_,e,fr,⟨hwid,hb⟩,by simpa using h2,by simp only[fc,o7,kp,af]at h3 ⊢;exact⟨h3.1,rfl⟩,⟨ux,_,rfl,HG.ext (XA.trans X) rx,_,_,rfl,?_,rfl⟩,?_,?_⟩
      ·refine⟨⟨_,_,rfl⟩,false,1,[],hrow,be _,fun _=>⟨be _,0,cs.size,?_,ib _,fun h=>absurd h (by omega),?_,?_⟩⟩
       ·show _=Value.slice (some ⟨(D0.φ C.H.length).blk,0,none⟩) 0 cs.size
        rw[show D0.φ C.H.length=_ from hφA]
       ·show 0+cs.size*1≤(D0.φ C.H.length).size
        rw[show D0.φ C.H.length=_ from hφA];simp
       ·show(D0.φ C.H.length).base≤0
        rw[show D0.φ C.H.length=_ from hφA];exact be _
      ·intro j v hj
       simp only[f7,hwid,da]
       match j,hj with
       |0,hj=>
        have:=h5 0 ux rfl
        simp only[f7,h1]at this
        simp only[bx,ae]at hj
        subst hj
        simpa using this
       |1,hj=>
        simp only[c0,bx,ae]at hj
        subst hj
        have h2':arr.size=2:=by simpa using h2
        simp[h2']
       |j+2,hj=>simp at hj
      ·intro o ho
       have:=h6 o (by simpa using ho)
       simp only[jc,h1]at this
       simp only[jc,hwid]
       exact this)
     refine⟨_,_,rfl,XA.trans X,hI2,rfl,?_,⟨[],rfl,rfl⟩⟩
     show(C.H++[CB.row (some te) false 1 []]).set id _=(C.H.set id _++[_])
     rw[nz _ _ hidl]
    ·cases h
   ·cases h
  ·cases h
 ·cases h
end
end
section
def Tm(tS ncc ngr:Nat):CI:=⟨false,2,25,[],
 (.seq (rg false [⟨some 4,none, .mv (.t 0)⟩,⟨some 5,none, .call ncc [(.t 4)]⟩])
 (.seq (.seq (rg false [⟨some 6,none, .mv (.t 1)⟩,⟨some 7,none, .bin .lss (.t 6) (.k (.i .i64 0))⟩])
 (.cond (.t 7)
  (rg false [⟨some 8,none, .mkif tS (.k (.s [115,116,114,105,110,103,115,46,66,117,105,108,100,101,114,46,71,114,111,119,58,32,110,101,103,97,116,105,118,101,32,99,111,117,110,116]))⟩,⟨none,none, .die⟩])
  .skip))
 (.seq (rg true [⟨some 9,none, .mv (.t 0)⟩,⟨some 10,none, .nilc (.t 9)⟩,⟨some 11,none, .fa 1 (.t 10)⟩,⟨some 12,none, .ld false 1 (.t 11)⟩,⟨some 13,none, .capn (.t 12)⟩,⟨some 14,none, .mv (.t 0)⟩,⟨some 15,none, .nilc (.t 14)⟩,⟨some 16,none, .fa 1 (.t 15)⟩,⟨some 17,none, .ld false 1 (.t 16)⟩,⟨some 18,none, .len (.t 17)⟩,⟨some 19,none, .bin .sub (.t 13) (.t 18)⟩,⟨some 20,none, .mv (.t 1)⟩,⟨some 21,none, .bin .lss (.t 19) (.t 20)⟩])
 (.cond (.t 21)
  (rg false [⟨some 22,none, .mv (.t 0)⟩,⟨some 23,none, .mv (.t 1)⟩,⟨some 24,none, .call ngr [(.t 22),(.t 23)]⟩])
  .skip))))⟩
section
variable{tb:Di}{tB te tS ncc nne ngw ngr:Nat}{h:Az}{id:Nat}{a b:AV}
theorem wV{cl:Nat→List AV→Az→Mb}{d:Option Nat}{o:HB}{l:List Br}{f:Fr}{v:AV}{r:Option Fr}(e:BC tb cl (eval tb f) h o=some (v,none))(k:I9 tb cl h l (put f d v)=r):I9 tb cl h (⟨d,none,o⟩::l) f=r:=by
 simp[I9,wanted,e,k]
theorem run_regq{l:List Br}{y:AC}{f f':Fr}(e:I9 tb (CC tb) h l f=some f'):Bj tb (CC tb) (.seq (rg true l) y) f h=Bj tb (CC tb) y f' h:=by
 simp[Bj,rg,e]
theorem mE{c:AO}{x y:AC}{f:Fr}{b:Bool}(e:eval tb f c= .b b):Bj tb (CC tb) (.cond c x y) f h=if b then Bj tb (CC tb) x f h else Bj tb (CC tb) y f h:=by
 simp[Bj,e]
theorem gr_run{n:Int}{h1 G:Az}(h0:0≤n)(hc:BK tb (CC tb) h ncc [.ptr id 0]=some (.tup [],some h1))(hld:load h1 false 1 (.ptr id 1)=some .nils)(hg:if 0<n then BK tb (CC tb) h1 ngr [.ptr id 0, .i .i64 n]=some (.tup [],some G)else G=h1):
  ∃f',Bj tb (CC tb) (Tm tS ncc ngr).body [(0, .ptr id 0),(1, .i .i64 n)] h=some (.normal,f',G):=by
 have hn0:decide (n<0)=false:=by simp;omega
 have key: ∃F,Bj tb (CC tb) (Tm tS ncc ngr).body [(0, .ptr id 0),(1, .i .i64 n)] h=Bj tb (CC tb) (.cond (.t 21)
  (rg false [⟨some 22,none, .mv (.t 0)⟩,⟨some 23,none, .mv (.t 1)⟩,⟨some 24,none, .call ngr [(.t 22),(.t 23)]⟩])
  .skip) F h1∧get F 21= .b (decide (0<n))∧get F 0= .ptr id 0∧get F 1= .i .i64 n:=by
  apply Exists.intro
  refine⟨?_,?_⟩
  ·unfold Tm
   simp only
   refine(J8 (Om (v:= .ptr id 0) (u:=none) rfl (Om (v:= .tup []) (u:=some h1) (Yb (by exact hc)) rfl))).trans ?_
   refine(uZ ((J8 (Om (v:= .i .i64 n) (u:=none) rfl (Om (v:= .b false) (u:=none) (by rw[←hn0];rfl) rfl))).trans ((mE (b:=false) rfl).trans rfl))).trans ?_
   exact(run_regq (wV (v:= .ptr id 0) rfl (wV (v:= .ptr id 0) rfl (wV (v:= .ptr id 1) rfl (wV (v:= .nils) (fS (by exact hld)) (wV (v:= .i .i64 0) rfl (wV (v:= .ptr id 0) rfl (wV (v:= .ptr id 0) rfl (wV (v:= .ptr id 1) rfl (wV (v:= .nils) (fS (by exact hld)) (wV (v:= .i .i64 0) rfl (wV (v:= .i .i64 0) rfl (wV (v:= .i .i64 n) rfl (wV (v:= .b (decide (0<n))) rfl rfl))))))))))))))
  ·exact⟨rfl,rfl,rfl⟩
 obtain⟨F,e,f21,f0,f1⟩:=key
 rw[e,mE (b:=decide (0<n)) (by simpa [eval]using f21)]
 by_cases hp:0<n
 ·rw[qn hp]at hg
  rw[qn (by simpa using hp)]
  simp only[Bj,rg,au,qu]
  rw[Om (v:= .ptr id 0) (u:=none) (by simp[BC,eval,f0]) (Om (v:= .i .i64 n) (u:=none) (by simp[BC,eval,get,put,f1]) (Om (v:= .tup []) (u:=some G) (Yb (by exact hg)) rfl))]
  exact⟨_,rfl⟩
 ·rw[qo hp]at hg
  rw[qo (by simpa using hp),hg]
  exact⟨_,rfl⟩
theorem gr_eval(hf:tb.prim ngw=none∧tb.fns ngw=some (Tm tS ncc ngr))(hcc:tb.prim ncc=none∧tb.fns ncc=some (NR tB nne))(hne:tb.prim nne=some PW)(hgr:tb.prim ngr=some (eI tB te))(hh:h[id]? =some (.cells (some tB) [a, .nils]))(ha:a= .nilp∨a= .ptr id 0)
  {n:Int} (h0:0≤n) (hm:n≤Bs):
  BK tb (CC tb) h ngw [.ptr id 0, .i .i64 n]=some (.tup [],some (if 0<n then h.set id (.cells (some tB) [.ptr id 0, .orow h.length 0 0 0])++[.row (some te) false 1 []]else h.set id (.cells (some tB) [.ptr id 0, .nils]))):=by
 have hc:=Ya hcc hne hh ha
 have hid:=(ca.1 hh).1
 have hs:(h.set id (CB.cells (some tB) [.ptr id 0, .nils]))[id]? =some (.cells (some tB) [.ptr id 0, .nils]):=dg hid
 have h2:=Hd hs
 simp only[BK,hf.1]
 rw[Rb,hf.2]
 simp only[aa]
 have hld:load (h.set id (CB.cells (some tB) [.ptr id 0, .nils])) false 1 (.ptr id 1)=some .nils:=by simp[load,place,h2.1,Iq,sub]
 by_cases hp:0<n
 ·have hgc:BK tb (CC tb) (h.set id (.cells (some tB) [.ptr id 0, .nils])) ngr [.ptr id 0, .i .i64 n]=some (.tup [],some (h.set id (.cells (some tB) [.ptr id 0, .orow h.length 0 0 0])++[.row (some te) false 1 []])):=by
   simp only[BK,hgr,eI,hs]
   simp[h0,hm,List.set_set]
  obtain⟨f',e1⟩:=gr_run (tb:=tb) (tS:=tS) (ncc:=ncc) (ngr:=ngr) h0 hc hld (by rw[qn hp];exact hgc)
  rw[PJ (tb:=tb) (h:=h) (fn:=Tm tS ncc ngr) (args:=[.ptr id 0, .i .i64 n]) (vs:=[]) rfl rfl e1 (.inr rfl) rfl,qn hp]
  exact qv some (Vv h.length _ (fR (te:=te) (tB:=tB) (s:=[]) hid rfl) [] rfl false)
 ·obtain⟨f',e1⟩:=gr_run (tb:=tb) (tS:=tS) (ncc:=ncc) (ngr:=ngr) h0 hc hld (by rw[qo hp])
  rw[PJ (tb:=tb) (h:=h) (fn:=Tm tS ncc ngr) (args:=[.ptr id 0, .i .i64 n]) (vs:=[]) rfl rfl e1 (.inr rfl) rfl,qo hp]
  obtain⟨u,hu,rfl⟩:=MK false h.length (h.set id (.cells (some tB) [.ptr id 0, .nils])) (by simp) [] rfl
  exact qv some hu
variable{Γ:Cx}{x y:AO}
def nR(l:AG)(n:Int):Option AG:=if l=[]∧0≤n∧n≤Bs then some []else none
theorem M_bldR{d j:Nat}{l:AG}{n:Int}(hcc:tb.prim ncc=none∧tb.fns ncc=some (NR tB nne))(hne:tb.prim nne=some PW)(hf:tb.prim ngw=none∧tb.fns ngw=some (Tm tS ncc ngr))(hgr:tb.prim ngr=some (eI tB te))
  (ha:Cd tb Γ x (.own j)) (hj:AM Γ.ss j=some (.dom (PP tB te false) l)) (hb:Cd tb Γ y (.val qj n)):
  XN tb Γ (some d) (.call ngw [x,y]) (nR l n) fun _=>⟨(d, .junk)::Γ.ts,(j, .dom (PP tB te (decide (0<n))) ([]:AG))::Γ.ss⟩:=by
 intro E rv fp f H R l' hl'
 simp only[nR]at hl'
 split at hl'
 ·rename_i hm
  cases hl'
  obtain⟨rfl,h0,hm⟩:=hm
  obtain⟨hl,hv⟩:=ha E rv fp f H R
  obtain⟨id,e,⟨_,_,a,hx,hh,hF⟩|⟨hg,r,hne',hh,hr,hF⟩⟩:=R.slots j _ hj
  ·have hid:=Bl hh
   have hev:=gr_eval (te:=te) hf hcc hne hgr hh hx h0 hm
   by_cases hp:0<n
   ·rw[qn hp]at hev
    obtain⟨rv',fp',g1,g2,g3⟩:=R.dom (D:=PP tB te (decide (0<n))) (y:=([]:AG)) (G:=H.set id (.cells (some tB) [.ptr id 0, .orow H.length 0 0 0])++[.row (some te) false 1 []]) (F':=fun i=>i=id∨i=H.length) (by rw[hj];rfl) hl (by simp)
     (fun i hi hn=>by rw[br (by simpa using hi)];exact dx fun e=>hn ((hF i).2 e.symm))
     (fun i hi=>by
      rcases hi with rfl|rfl
      ·exact .inl ((hF _).2 rfl)
      ·exact .inr ⟨be _,by simp⟩)
     (by
      rw[RN]
      have:=Ic (l:=H) (i:=id) (o:= .cells (some tB) [.ptr id 0, .orow H.length 0 0 0]) (m:=H.length+1) (by have:=R.wf;omega) (by simp only[E7,B0,Cc];omega)
      simp only[D1,E7,Dc,aw,fy,bb,bz]
      omega) rfl
     (fun Q=>⟨id,e, .inr ⟨.inl (by simpa using hp),H.length,by omega,by
      rw[br (by simpa using hid)]
      exact dg hid,by
      rw[bo (by simp)];simp[BQ],fun i=>o9⟩⟩)
    refine⟨.tup [],some _,?_,rv',fp',g3.push (d:=d) (φ:= .junk) trivial⟩
    simp only[BC,bn,ew,hv,e,BX.1 (hb E rv fp f H R)]
    exact hev
   ·rw[qo hp]at hev
    obtain⟨rv',fp',g1,g2,g3⟩:=R.dom (D:=PP tB te (decide (0<n))) (y:=([]:AG)) (G:=H.set id (.cells (some tB) [.ptr id 0, .nils])) (F':=fp j) (by rw[hj];rfl) hl (by simp)
     (fun i hi hn=>dx fun e=>hn ((hF i).2 e.symm)) (fun i hi=> .inl hi)
     (by simp only[fy];exact Ic R.wf (by simp only[E7,B0,Cc];omega)) rfl
     (fun Q=>⟨id,e, .inl ⟨by simpa using hp,rfl,_, .inr rfl,dg hid,hF⟩⟩)
    refine⟨.tup [],some _,?_,rv',fp',g3.push (d:=d) (φ:= .junk) trivial⟩
    simp only[BC,bn,ew,hv,e,BX.1 (hb E rv fp f H R)]
    exact hev
  ·rcases hg with hg|hg
   ·cases hg
   ·exact absurd rfl hg
 ·cases hl'
end
end
section
section
variable{tb:Di}{Γ:Cx}
variable{ks:List Kf}{ρ:Type}{Q:Oj ρ}
def HL(n:Int):UInt8:=bc (n%256).toNat
def De(n:Int):UInt16:=bw (n%65536).toNat
def DE(n:Int):UInt32:=pb (n%4294967296).toNat
def Cw(n:Int):UInt64:=ei (n%18446744073709551616).toNat
end
end
section
section
variable{tb:Di}{Γ:Cx}{a b:AO}
theorem VP{sz:Nat}: ∀(k:Nat) (css:List (List AV)) (cs:List AV),css.length=k→(∀e∈css,e.length=sz)→cs.take (k*sz)=css.flatten→BR sz k cs=css
 |0,css,cs,h,_,_=>by rw[cj h];rfl
 |k+1,y::css,cs,hk,hall,hc=>by
  have hy:=hall y (by simp)
  simp only[BR]
  simp only[bm]at hc
  have hA:cs.take sz=y:=by
   have:=qv (pn sz) hc
   rw[ji,f3 (by rw[ci];omega),il hy]at this
   exact this
  have hB:(cs.drop sz).take (k*sz)=css.flatten:=by
   have:=qv (List.drop sz) hc
   rw[ez hy,gb,ci,mc]at this
   exact this
  rw[hA,VP k css (cs.drop sz) (by simpa using hk) (fun e he=>hall e (by simp[he])) hB]
theorem oc_els{t u:T}{x:t.α}{j o o' k m n N sz:Nat}{ps:List (Nat×AW)}(F:AR t (ak n u) o')(hsz:sz=u.sz)(ha:Cd tb Γ a (.oc j (o+k*sz) sz m))(hj:AM Γ.ss j=some (.cells ps))(hp:L8 ps o=some (N, .val t x,o'))(hkm:k+m≤n)
  {E:R7} {rv:Nat→AV} {fp:Fp} {f:Fr} {H:Az} (R:B8 E Γ rv fp f H):
  ∃id els,id<H.length∧fp j id∧eval tb f a= .ocel u.sz id (o+k*u.sz) m∧E4 H u.sz (.ocel u.sz id (o+k*u.sz) m)=some els∧CL u (Pf E Γ.ss fp H) H els (((F.get x).l.drop k).take m):=by
 subst hsz
 obtain⟨l,id,e,hv⟩:=ha E rv fp f H R
 obtain⟨cs,h0,h2,h3⟩:=Ho R hj e
 obtain⟨b',c,e0,e1,e2,e3,e4,e5,_⟩:=Ha h3 hp
 have hfp:fp j id:=(h0 id).2 rfl
 have hlt:=(R.fplt j id l hfp).1
 have hlen:=t.len e4
 have hle:=F.le
 have hszA:(ak n u).sz=n*u.sz:=rfl
 rw[hszA]at hle
 have hmul:k*u.sz+m*u.sz≤n*u.sz:=by rw[←fx];exact cr _ hkm
 obtain⟨css,q1,q2⟩:=F.getR e4
 have hlc:css.length=n:=by rw[q2.length];exact(F.get x).len
 have hs1:=e5 o' (n*u.sz) (by omega)
 rw[←e1]at hs1
 have hch:BR u.sz n (cs.drop o)=css:=VP n css (cs.drop o) hlc q2.lens (by rw[show(cs.drop o).take (n*u.sz)=sub cs o (n*u.sz)from rfl,hs1,←q1];rfl)
 have hsub:=MS (sz:=u.sz) (len:=n) (c:=k) (d:=k+m) (l:=cs.drop o) (by omega) hkm
 refine⟨id,(css.take (k+m)).drop k,hlt,hfp,hv,?_,?_⟩
 ·simp only[E4,h2,aa]
  rw[qn ⟨trivial,by omega⟩]
  rw[←hch,hsub,ck,ij]
 ·have:=(q2.take (n:=k+m)).drop (n:=k)
  simp only[gb,ij]at this ⊢
  exact this
theorem a_s{t u:T}{x:t.α}{j o o' k m n N sz:Nat}{ps:List (Nat×AW)}(F:AR t (ak n u) o')(hsz:sz=u.sz)(ha:Cd tb Γ a (.oc j (o+k*sz) sz m))(hj:AM Γ.ss j=some (.cells ps))(hp:L8 ps o=some (N, .val t x,o'))(hkm:k+m≤n):
  ArgP tb Γ a (bq u) (.mk (((F.get x).l.drop k).take m)):=by
 intro E rv fp f H R
 obtain⟨id,els,h1,_,h3,h4,h5⟩:=oc_els F hsz ha hj hp hkm R
 rw[h3]
 exact Iy.2 ⟨h1,els,h4,h5.mono fun i hi=>⟨Pf.lt R.le hi,rfl⟩⟩
theorem nO{c:Prop} [Decidable c]{g:Nat}{As Rs:List T}{F:Cl As→Option (Cl Rs)}{l:List AO}{x:Cl As}(sp:Spec tb g As Rs F)(fl:Xd Rs)(hx:c→lD tb Γ As l x):Fa tb Γ (.call g l) (if c then F x else none) fun r=>outF Rs r:=by
 intro E rv fp f H R r hr
 split at hr
 ·rename_i hc;exact h_callR sp fl (hx hc) E rv fp f H R r hr
 ·cases hr
theorem O4{c:Prop} [Decidable c]{g:Nat}{As:List T}{t:T}{F:Cl As→Option (Cl [t])}{l:List AO}{x:Cl As}(sp:Spec tb g As [t] F)(fl:Xd [t])(hx:c→lD tb Γ As l x):Fa tb Γ (.call g l) (if c then F x else none) fun r:t.α=> .val t r:=nO sp fl hx
theorem yY{c:Prop} [Decidable c]{g:Nat}{As:List T}{t u:T}{Rs:List T}{F:Cl As→Option (Cl (t::u::Rs))}{l:List AO}{x:Cl As}(sp:Spec tb g As (t::u::Rs) F)(fl:Xd (t::u::Rs))(hx:c→lD tb Γ As l x):
  Fa tb Γ (.call g l) (if c then F x else none) fun r=> .tup (tupL (t::u::Rs) r):=nO sp fl hx
theorem n_oc{t u:T}{x:t.α}{j o o' k m n N sz:Nat}{ps:List (Nat×AW)}(F:AR t (ak n u) o')(hsz:sz=u.sz)(ha:Cd tb Γ a (.oc j (o+k*sz) sz m))(hj:AM Γ.ss j=some (.cells ps))(hp:L8 ps o=some (N, .val t x,o'))(hkm:k+m≤n):
  NewL tb Γ a u (((F.get x).l.drop k).take m):=by
 intro E rv fp f H R
 obtain⟨id,els,h1,_,h3,h4,h5⟩:=oc_els F hsz ha hj hp hkm R
 exact⟨els,by rw[h3];exact h4,h5⟩
theorem M_if{c:Prop} [Decidable c]{d:Option Nat}{o:HB}{α:Type}{A:Option α}{G:α→Cx}(h:c→XN tb Γ d o A G):XN tb Γ d o (if c then A else none) G:=by
 intro E rv fp f H R r hr
 split at hr
 ·rename_i hc;exact h hc E rv fp f H R r hr
 ·cases hr
def dL{α:Type}(n:Nat)(g:GS α):Option (Ar α n):=if h:0<n∧n≤g.l.length then some ⟨g.l.take n,by rw[a6];omega⟩else none
theorem Sb.arr{n:Nat}{t:T}{P:Nat→Prop}{H:Az}{v:AV}{g:GS t.α}{y:Ar t.α n}(h:Sb t P H v g)(hy:dL n g=some y): ∃p,Xa n t.sz v=some p∧qM (ak n t) P H p y:=by
 simp only[dL]at hy
 split at hy
 ·rename_i hc
  cases hy
  cases g with
  |nil=>simp[l6]at hc;omega
  |mk l=>
   obtain⟨bp,els,e,h⟩:=h
   simp only[l6]at hc
   have hlen:=h.length
   have htk:=h.take (n:=n)
   have hszA:(ak n t).sz=n*t.sz:=rfl
   have hR: ∀G:List AV,G.take (n*t.sz)=(els.take n).flatten→(ak n t).R P H (sub G 0 (ak n t).sz) ⟨l.take n,by rw[a6];omega⟩:=fun G hG=>⟨els.take n,by rw[hszA,←hG];simp[sub],htk⟩
   have hfl:(els.take n).flatten.length=n*t.sz:=by rw[VE htk.lens,a6,f3 (by omega)]
   cases v<;>simp only[Mc]at bp<;>simp only[E4]at e
   ·split at e
    ·rename_i hs
     cases e
     subst hs
     refine⟨.ip (els.take n).flatten 0,by simp only[Xa];rw[qn ⟨trivial,by omega⟩],trivial,_,0,rfl,by rw[hszA,hfl];omega,hR _ (by rw[av (by omega)]),fun m hm=> ?_⟩
     simp only[Cc]
     have:=(ak n t).men (x:=⟨l.take n,by rw[a6];omega⟩) ⟨els.take n,rfl,htk⟩ hm
     exact this
    ·cases e
   ·rename_i id k lo len
    obtain⟨r,hr,e⟩:=ab.1 e
    split at e
    ·rename_i hcd
     cases e
     have hll:len=l.length:=by rw[←hlen,a6,bh];omega
     have hsplit:(r.2.2.drop lo).flatten=(((r.2.2.drop lo).take len).take n).flatten++((r.2.2.drop lo).drop n).flatten:=by
      rw[ji,f3 (by omega),←f6,fq]
     refine⟨.pe id k lo 0,by simp only[Xa];rw[qn ⟨by omega,hc.1⟩],bp,_,0,by simp only[place,hr,aa,qn hcd.1];rfl,?_,hR _ ?_,fun m hm=>by simp only[Cc];exact hm _ bp⟩
     ·rw[hszA,hsplit,aw,hfl];omega
     ·rw[hsplit,il hfl]
    ·cases e
   ·rename_i sz' id off len
    obtain⟨r,hr,e⟩:=ab.1 e
    split at e
    ·rename_i hcd
     have he:some (BR t.sz len (r.drop off))=some els:=e
     cases he
     obtain⟨hs,hcd⟩:=hcd
     subst hs
     have hcl: ∀(n:Nat) (l:List AV),(BR t.sz n l).length=n:=by
      intro n
      induction n with
      |zero=>intro l;rfl
      |succ n ih=>intro l;simp[BR,ih]
     have hll:len=l.length:=by rw[←hlen,hcl]
     have hnl:n≤len:=by omega
     have hmul:n*t.sz≤len*t.sz:=cr _ hnl
     have hsub:=MS (sz:=t.sz) (len:=len) (c:=0) (d:=n) (l:=r.drop off) (by omega) hnl
     simp only[db,jb,m7]at hsub
     have hcf: ∀(n:Nat) (l:List AV),n*t.sz≤l.length→(BR t.sz n l).flatten=l.take (n*t.sz):=by
      intro n
      induction n with
      |zero=>intro l _;simp[BR]
      |succ n ih=>
       intro l hl
       simp only[BR,bm]
       rw[ih _ (by simp;rw[ci]at hl;omega),ci,pc (n*t.sz),List.take_add]
     refine⟨.ptr id off,by simp only[Xa];rw[qn ⟨trivial,hnl⟩],bp,r,off,by simp[place,hr],by rw[hszA];omega,?_,fun m hm=>by simp only[Cc];exact hm _ bp⟩
     have:sub r off (ak n t).sz=sub (r.drop off) 0 (ak n t).sz:=by simp[sub]
     rw[this]
     exact hR _ (by rw[hsub,hcf n _ (by simp;omega)])
    ·cases e
 ·cases hy
theorem h_s2aV{n sz:Nat}{t:T}{g:GS t.α}(hsz:sz=t.sz)(ha:Cd tb Γ a (.val (bq t) g)):Fa tb Γ (.s2a n sz a) (dL n g) fun y=> .rp (ak n t) y:=by
 intro E rv fp f H R y hy
 subst hsz
 obtain⟨p,h1,h2⟩:=(Iy.1 (ha E rv fp f H R)).arr hy
 exact⟨p,none,by simp only[BC,h1,val,an],rfl,h2⟩
variable{ks:List Kf}{ρ:Type}{Q:Oj ρ}
def aS{q:Bool}{L l rest:List Br}{g t d:Nat}{b:Bool}(n:Nat)(og:BM Γ.ts g=some (.val di b))(h:K3 g true n L=some (l,⟨some d,none, .pick (.t g) (.t t) (.k (.b false))⟩::rest))(hc:U7 g l Γ.ts=true)
  (main:Aa tb (Γ.push g (.val di true)) (rg q (l++⟨some d,none, .pick (.t g) (.t t) (.k (.b false))⟩::rest)) ks Q) (els:Aa tb (Γ.push d (.val di false)) (rg q rest) ks Q):Aa tb Γ (rg q L) ks Q:=
 ⟨if b=true then main.m else els.m,fun E f H ⟨rv,fp,I⟩ r hr=>by
  have hL:=G7 h
  simp only[U7,af,cg]at hc
  obtain⟨hc1,hc2,hc3⟩:=hc
  have hg:=F1.1 (I.temps g _ og)
  have hng:=Js hc2
  cases b with
  |true=>
   obtain⟨e,f',H',h4,h5⟩:=main.ok E f H ⟨rv,fp,I.le,I.base,I.wf,I.fplt,I.rvlt,I.scal,I.inj,I.slots,fun u φ e=>by
    simp only[n9,BM]at e
    split at e
    ·rename_i hu;cases e;subst hu;exact F1.2 hg
    ·exact I.temps u φ e,I.gh⟩ r (by simpa using hr)
   exact⟨e,f',H',by rw[hL,OR hg hng];exact h4,h5⟩
  |false=>
   obtain⟨f',h1,h2⟩:=Nv (tb:=tb) (q:=q) (w:=true) (H:=H) hg hng hc1 (by simp)
   have hp:BC tb (CC tb) (eval tb f') H (.pick (.t g) (.t t) (.k (.b false)))=some (.b false,none):=by
    simp only[BC,eval,h2 g hng,hg];rfl
   have I':B8 E Γ rv fp f' H:=I.fr fun u φ e=>h2 u (HX hc3 e)
   obtain⟨e,f2,H2,h4,h5⟩:=els.ok E _ H ⟨rv,fp,YZ I'⟩ r (by simpa using hr)
   exact⟨e,f2,H2,by rw[hL,EJ h1,Ej hp rfl];exact h4,h5⟩⟩
def Aa.orX{q:Bool}{L l rest:List Br}{g t d:Nat}{b:Bool}(n:Nat)(og:BM Γ.ts g=some (.val di b))(h:K3 g false n L=some (l,⟨some d,none, .pick (.t g) (.k (.b true)) (.t t)⟩::rest))(hc:U7 g l Γ.ts=true)
  (main:Aa tb (Γ.push g (.val di false)) (rg q (l++⟨some d,none, .pick (.t g) (.k (.b true)) (.t t)⟩::rest)) ks Q) (els:Aa tb (Γ.push d (.val di true)) (rg q rest) ks Q):Aa tb Γ (rg q L) ks Q:=
 ⟨if b=true then els.m else main.m,fun E f H ⟨rv,fp,I⟩ r hr=>by
  have hL:=G7 h
  simp only[U7,af,cg]at hc
  obtain⟨hc1,hc2,hc3⟩:=hc
  have hg:=F1.1 (I.temps g _ og)
  have hng:=Js hc2
  cases b with
  |false=>
   obtain⟨e,f',H',h4,h5⟩:=main.ok E f H ⟨rv,fp,I.le,I.base,I.wf,I.fplt,I.rvlt,I.scal,I.inj,I.slots,fun u φ e=>by
    simp only[n9,BM]at e
    split at e
    ·rename_i hu;cases e;subst hu;exact F1.2 hg
    ·exact I.temps u φ e,I.gh⟩ r (by simpa using hr)
   exact⟨e,f',H',by rw[hL,OR hg hng];exact h4,h5⟩
  |true=>
   obtain⟨f',h1,h2⟩:=Nv (tb:=tb) (q:=q) (w:=false) (H:=H) hg hng hc1 (by simp)
   have hp:BC tb (CC tb) (eval tb f') H (.pick (.t g) (.k (.b true)) (.t t))=some (.b true,none):=by
    simp only[BC,eval,h2 g hng,hg];rfl
   have I':B8 E Γ rv fp f' H:=I.fr fun u φ e=>h2 u (HX hc3 e)
   obtain⟨e,f2,H2,h4,h5⟩:=els.ok E _ H ⟨rv,fp,YZ I'⟩ r (by simpa using hr)
   exact⟨e,f2,H2,by rw[hL,EJ h1,Ej hp rfl];exact h4,h5⟩⟩
theorem lB{d:Nat}{zero:List AV}{φs:List AW}(j:Nat)(hx: ∀rv ss P H,qH rv ss P H φs zero)(hc:zero.all scal=true)(hn:φs.all Pe=true)(hf:VD Γ.ss j φs){js:List Nat}(hjs:js=fh j φs.length):
  OpN tb Γ (some d) (.bld zero []) ⟨(d, .aggk js)::Γ.ts,pZ j φs Γ.ss⟩:=by
 intro E rv fp f H R
 subst hjs
 have hv:=hx rv Γ.ss (Pf E Γ.ss fp H) H
 obtain⟨rv',fp',h1,h2,_,h4⟩:=R.keepL (j:=j) hf hv (qH.men R.ltP R.rvlt hn hv)
 refine⟨.agg zero,none,by simp only[BC,MP,val,an],rfl,rv',fp',h4.push (d:=d) (φ:= .aggk _) ⟨h2,?_⟩⟩
 have e:((fh j φs.length).flatMap fun j=>cellsOf (rv' j))=((fh j φs.length).map rv').flatMap cellsOf:=by rw[List.flatMap_map]
 have hz: ∀l:List AV,l.all scal=true→l.flatMap cellsOf=l:=by
  intro l
  induction l with
  |nil=>intro _;rfl
  |cons x l ih=>
   intro h
   simp only[fc,af]at h
   rw[eh,Kj h.1,ih h.2];rfl
 rw[e,h1,hz _ hc]
theorem B8.keepCell{E:R7}{rv:Nat→AV}{fp:Fp}{f:Fr}{H:Az}(I:B8 E Γ rv fp f H){j' j n:Nat}{js:List Nat}(hj':AM Γ.ss j'=none)(h:BM Γ.ts n=some (.cp j 0))(ho:Ul Γ.ss js=true)(hj:AM Γ.ss j=some (.cells (kvs js))):
  ∃rv' fp',B8 E ⟨Γ.ts,(j', .keep (.aggk js))::Γ.ss⟩ rv' fp' f H:=by
 obtain⟨g1,g2,g3⟩:=Pc I ho
 have hfr:FR rv Γ.ss (Pf E Γ.ss fp H) H (.aggk js) (.agg (js.flatMap fun j=>cellsOf (rv j))):=⟨g2,rfl⟩
 obtain⟨rv',fp',_,_,h3,_⟩:=I.keepNew hj' hfr (pj I.ltP I.rvlt (by rintro⟨⟩) hfr)
 exact⟨rv',fp',h3⟩
theorem Ew{js:List Nat}{j j' n m:Nat}(h:BM Γ.ts n=some (.cp j 0))(ho:Ul Γ.ss js=true)(hj:AM Γ.ss j=some (.cells (kvs js)))(hk:AM Γ.ss j'=some (.keep (.aggk js)))(hm:m=js.length):ResG Γ (.cell true m n) (.kv j'):=by
 intro E rv fp f H R r vs hr
 obtain⟨v,h1,h2⟩:=DJ h ho hj hm E rv fp f H R r vs hr
 obtain⟨h3,_⟩:=R.slots j' _ hk
 exact⟨v,h1,fun k hk'=>by rw[gf.1 hk',hk];rfl,h2.2.trans h3.2.symm⟩
def Ab{q:Bool}{d n:Nat}{l:List Br}{φ:AW}(h:BM Γ.ts n=some φ)(k:Aa tb (Γ.push d φ) (rg q l) ks Q):Aa tb Γ (rg q (⟨some d,none, .mv (.t n)⟩::l)) ks Q:=Ad (Ap (BT h)) k
def Ag{q:Bool}{x y:AC}(s:Aa tb Γ x (.seq y::ks) Q):Aa tb Γ (rg q []) (.seq (.seq x y)::ks) Q:=Ac (Af s)
theorem At{op:BinOp}{a b:AO}{x y:Int}(h:vR op=true)(ha:Cd tb Γ a (.val qj x))(hb:Cd tb Γ b (.val qj y)):Fa tb Γ (.bin op a b) (some (cmpI op x y)) fun z=> .val di z:=Eg (I:=ba .i64) h ha hb
abbrev oz(d:Nat)(x:HB):Br:=⟨some d,none,x⟩
abbrev mt(d n:Nat):Br:=⟨some d,none, .mv (.t n)⟩
abbrev sf(l:List Br)(y:AC):AC:= .seq (rg false l) y
abbrev sr(l:List Br)(y:AC):AC:= .seq (rg true l) y
abbrev ki(n:Int):AO:= .k (.i .i64 n)
abbrev on(x:HB):Br:=⟨none,none,x⟩
def Cg{c:AC}(j' n:Nat){j:Nat}{js:List Nat}(hj':AM Γ.ss j'=none)(h:BM Γ.ts n=some (.cp j 0))(ho:Ul Γ.ss js=true)(hj:AM Γ.ss j=some (.cells (kvs js)))(s:Aa tb ⟨Γ.ts,(j', .keep (.aggk js))::Γ.ss⟩ c ks Q):Aa tb Γ c ks Q:=
 s.turn fun _ _ _ ⟨_,_,I⟩=>I.keepCell hj' h ho hj
def zN(n:Int):AG:=(mg n).data.toList
theorem h_cvcE{I:IT}{x:I.t.α}(ha:Cd tb Γ a (.val I.t x)):Fa tb Γ (.cvc a) (some (zN (I.toI x))) fun z=> .val Ak z:=h_cvcI ha
theorem jF(ha:Cd tb Γ a (.con .nils)):Fa tb Γ (.len a) (some ()) fun _=> .val qj (0:Int):=by
 rintro E rv fp f H R _ ⟨⟩
 obtain⟨hv,_⟩:=ha E rv fp f H R
 exact⟨.i .i64 0,none,by simp only[BC,hv,Pn,an];rfl,rfl,BX.2 rfl⟩
theorem jE{g:Nat}{z:Bool}{x:AO}(og:Cd tb Γ (.t g) (.val di true))(ho:Cd tb Γ a (.val di z)):Fa tb Γ (.pick (.t g) a x) (some ()) fun _=> .val di z:=by
 rintro E rv fp f H R _ ⟨⟩
 exact⟨_,none,by simp only[BC,F1.1 (og E rv fp f H R)];rfl,rfl,ho E rv fp f H R⟩
theorem h_pickF{g:Nat}{z:Bool}{x:AO}(og:Cd tb Γ (.t g) (.val di false))(ho:Cd tb Γ a (.val di z)):Fa tb Γ (.pick (.t g) x a) (some ()) fun _=> .val di z:=by
 rintro E rv fp f H R _ ⟨⟩
 exact⟨_,none,by simp only[BC,F1.1 (og E rv fp f H R)];rfl,rfl,ho E rv fp f H R⟩
end
theorem sB{p:Prop}(h:p:=by repeat' constructor):p:=h
abbrev BD(tb:Di)(c:CI)(As Rs:List T)(a:Cl As):=Aa tb ⟨Xb As 0 a,[]⟩ c.body [] (QRes Rs c.res)
end
section
def Gu(l:List UInt8):Nat×Bool:=match Lib.parseUintB 64 l with
 | .ok u=>(u,false)
 | .range=>(18446744073709551615,true)
 |_=>(0,true)
theorem yB(l:List UInt8):(Gu l).1<18446744073709551616:=by
 unfold Gu
 split
 ·rename_i u h
  unfold Lib.parseUintB at h
  split at h
  ·cases h
  ·have:=Lib.parseUintM_le _ l 0 u (ib _) h
   show u<18446744073709551616
   omega
 ·show(18446744073709551615:Nat)<_;omega
 ·show(0:Nat)<_;omega
def Zd:List AV→Az→Option (AV×Option Az)
 |[.s l, .i .i64 b, .i .i64 z],_=>if b=10∧z=64∧l.length≤Bs then some (.tup [.i .u64 ((Gu l).1:Nat),if(Gu l).2 then .ifc 0 .junk else .nili],none)else none
 |_,_=>none
def fY(P:Program)(g gS gR:Nat):Prop:= ∀(l:List UInt8) (w:World) (eS eR:Value),l.length≤281474976710656→w.cell? ⟨gS,0,none⟩=some eS→(∃t a,eS= .iface t a)→w.cell? ⟨gR,0,none⟩=some eR→(∃t a,eR= .iface t a)→
 Calls P g #[.string ⟨l.toArray⟩, .int .i64 10, .int .i64 64] w fun e w'=> ∃v,e= .returned (.tuple #[.int .u64 ((Gu l).1:Nat),v])∧(if(Gu l).2 then∃t a,v= .iface t a else v= .nilIface)∧RowKit.Below w.heap.size w w'
theorem rE{P:Program}{tb:Di}{g gS gR:Nat}(hen:pB P g=true)(hS:tb.gl gS=some [.ifc 0 .junk])(hR:tb.gl gR=some [.ifc 0 .junk])(hg:fY P g gS gR):
  Fh P tb fun g' args h=>if g'=g then Zd args h else none:=by
 intro g' C args vs r I hr h
 dsimp only at h
 split at h
 ·rename_i hgg
  subst hgg
  unfold Zd at h
  split at h
  ·rename_i hp l b z
   split at h
   ·rename_i hc
    obtain⟨rfl,rfl,hl⟩:=hc
    cases h
    obtain⟨v,vs',e1,r1,v2,vs2,e2,r2,v3,vs3,e3,r3,e4⟩:=hr
    have e4':vs3=[]:=e4
    have r1':v= .string ⟨l.toArray⟩:=r1
    have r2':v2= .int .i64 10:=r2
    have r3':v3= .int .i64 64:=r3
    subst e4';subst e3;subst e2;subst e1;subst r1';subst r2';subst r3'
    have gl: ∀q,tb.gl q=some [.ifc 0 .junk]→ ∃ev,C.w.cell? ⟨q,0,none⟩=some ev∧ ∃t a,ev= .iface t a:=by
     intro q hq
     obtain⟨_,_,_,us,hh,v,q',e,⟨t,a,rfl,_⟩,e'⟩:=I.gl q _ hq
     have e'':q'=[]:=e'
     subst e'';subst e
     exact⟨_,hh 0 _ rfl,t,a,rfl⟩
    obtain⟨eS,c1,t1⟩:=gl gS hS
    obtain⟨eR,c2,t2⟩:=gl gR hR
    refine .inr ⟨g',_,MR hen _ _,(hg l C.w eS eR (by unfold Bs at hl;omega) c1 t1 c2 t2).mono ?_⟩
    rintro ee w' ⟨v,rfl,hv,hb⟩
    obtain⟨X,hI⟩:=grown I (w:=w') ⟨hb.os,hb.tape,hb.output⟩ hb.size hb.block
    refine⟨_,_,rfl,X,hI,rfl,rfl,[.int .u64 ((Gu l).1:Nat),v],rfl,_,_,rfl,rfl,_,_,rfl,?_,rfl⟩
    split at hv
    ·rename_i hq
     obtain⟨t,a,rfl⟩:=hv
     rw[qn hq]
     exact⟨t,a,rfl,trivial⟩
    ·rename_i hq
     rw[qo hq]
     exact hv
   ·cases h
  ·cases h
 ·cases h
def Uk:List AV→Az→Option (AV×Option Az)
 |[.s a, .s b],_=>if a.length<4294967281 then some (.i .i64 (Lib.index a b),none)else none
 |_,_=>none
def fZ(P:Program)(g gM:Nat):Prop:= ∀(a b:List UInt8) (w:World) (m:Int),a.length<4294967281→w.cell? ⟨gM,0,none⟩=some (.int .i64 m)→
 Calls P g #[.string ⟨a.toArray⟩, .string ⟨b.toArray⟩] w fun e w'=>e= .returned (.int .i64 (Lib.index a b))∧w'=w
theorem mM{P:Program}{tb:Di}{g gM:Nat}(hen:pB P g=true)(hM:gM∈tb.it)(hg:fZ P g gM):
  Fh P tb fun g' args h=>if g'=g then Uk args h else none:=by
 intro g' C args vs r I hr h
 dsimp only at h
 split at h
 ·rename_i hgg
  subst hgg
  unfold Uk at h
  split at h
  ·rename_i hp a b
   split at h
   ·rename_i hl
    cases h
    obtain⟨v,vs',e1,r1,v2,vs2,e2,r2,e3⟩:=hr
    have e3':vs2=[]:=e3
    have r1':v= .string ⟨a.toArray⟩:=r1
    have r2':v2= .string ⟨b.toArray⟩:=r2
    subst e3';subst e2;subst e1;subst r1';subst r2'
    obtain⟨_,m,hm⟩:=I.it gM hM
    refine .inr ⟨g',_,MR hen _ _,(hg a b C.w m hl hm).mono ?_⟩
    rintro ee w' ⟨rfl,rfl⟩
    exact⟨_,C,rfl,lf C,I,rfl,rfl,rfl⟩
   ·cases h
  ·cases h
 ·cases h
end
section
def iS(s:AG)(b z:Int):Option (UInt64×Bool):=if b=10∧z=64∧s.length≤Bs then some (ei (Gu s).1,(Gu s).2)else none
theorem uH{tb:Di}{g:Nat}(hp:tb.prim g=some Zd):Spec tb g [Ak,ah .i64,ah .i64] [fm,qA] fun a=>iS a.1 a.2.1 a.2.2:=by
 rintro P h args ⟨x,y,z⟩ _ _ ⟨v,q,rfl,h1,w,q2,rfl,h2,u,rfl,h3⟩ r hr
 dsimp only at hr
 unfold iS at hr
 split at hr
 ·rename_i hc
  cases hr
  obtain⟨hb,hz,hl⟩:=hc
  refine⟨.tup [.i .u64 ((Gu x).1:Nat),if(Gu x).2 then .ifc 0 .junk else .nili],none,?_,rfl,[.i .u64 ((Gu x).1:Nat),if(Gu x).2 then .ifc 0 .junk else .nili],rfl,_,_,rfl,?_,_,rfl,kZ.2 rfl⟩
  ·rw[Ep.1 h1,BX.1 h2,BX.1 h3,hb,hz]
   simp only[BK,hp,Zd]
   simp only[hl,and_self,qt]
  ·refine kW.2 ?_
   have:=yB x
   have e:(ei (Gu x).1).toNat=(Gu x).1:=by rw[io];omega
   rw[e]
 ·cases hr
def indexS(s b:AG):Option Int:=if s.length<4294967281 then some (Lib.index s b)else none
theorem Spec.indexS{tb:Di}{g:Nat}(hp:tb.prim g=some Uk):Spec tb g [Ak,Ak] [ah .i64] fun a=>Am.indexS a.1 a.2:=by
 rintro P h args ⟨x,y⟩ _ _ ⟨v,q,rfl,h1,w,rfl,h2⟩ r hr
 dsimp only at hr
 unfold Am.indexS at hr
 split at hr
 ·rename_i hl
  cases hr
  refine⟨.i .i64 (Lib.index x y),none,?_,rfl,[.i .i64 (Lib.index x y)],rfl,_,rfl,BX.2 rfl⟩
  rw[Ep.1 h1,Ep.1 h2]
  simp only[BK,hp,Uk]
  rw[qn hl]
 ·cases hr
end
section
def ZQ(P:Program):Nat→List Field→Option Nat
 |pos,[]=>some pos
 |pos,f::fs=>if fv f.offset pos then ZQ P (pos+P.cellsOf f.type) fs else none
def JC(P:Program):Nat→TypeId→Bool
 |0,_=>false
 |n+1,t=>
  match P.underlying t with
  |some .bool=>fv (P.cellsOf t) 1
  |some (.int _)=>fv (P.cellsOf t) 1
  |some .string=>fv (P.cellsOf t) 1
  |some (.pointer e)=>fv (P.cellsOf t) 1&&je 0 (P.cellsOf e)&&JC P n e
  |some (.slice e)=>fv (P.cellsOf t) 1&&je 0 (P.cellsOf e)&&JC P n e
  |some (.struct fs)=>decide (ZQ P 0 fs.toList=some (P.cellsOf t))&&fs.toList.all fun f=>JC P n f.type
  |some (.array m e)=>fv (P.cellsOf t) (m*P.cellsOf e)&&JC P n e
  |_=>false
def kV(T:TypeId→List AV→Prop):List Field→List AV→Prop
 |[],cs=>cs=[]
 |f::fs,cs=> ∃a b,cs=a++b∧T f.type a∧kV T fs b
def Gn(P:Program):Nat→TypeId→List AV→Prop
 |0,_,_=>False
 |n+1,t,cs=>
  match P.underlying t with
  |some .bool=> ∃b,cs=[.b b]
  |some (.int k)=> ∃x,cs=[.i k x]∧k.has x
  |some .string=> ∃l,cs=[.s l]
  |some (.pointer e)=>cs=[.nilp]∨ ∃ds,cs=[.ip ds 0]∧Gn P n e ds
  |some (.slice e)=>cs=[.nils]∨ ∃els:List (List AV),cs=[.sl (P.cellsOf e) els]∧ ∀x∈els,Gn P n e x
  |some (.struct fs)=>kV (Gn P n) fs.toList cs
  |some (.array m e)=> ∃els:List (List AV),els.length=m∧cs=els.flatten∧ ∀x∈els,Gn P n e x
  |_=>False
section
variable{P:Program}{H:Type}{enc:TypeId×Value→H}{w:World}{spare:Nat→Bool}{held:Bool}
theorem WW{base:Nat}{a:Addr}{n:Nat}{cs:List Value}(h:w.cells? base a n=some cs):cs.length=n∧ ∀(j:Nat) (v:Value),cs[j]? =some v→w.cell? (a.add j)=some v:=by
 unfold World.cells? at h
 split at h
 ·refine⟨by rw[mapM_some_length h];simp,fun j v hj=> ?_⟩
  have hl:j<n:=by have:=Bl hj;rw[mapM_some_length h]at this;simpa using this
  have:=mapM_some_get h j j (by simp[hl])
  rw[this,hj]
 ·cases h
theorem cell?_lt{a:Addr}{v:Value}(h:w.cell? a=some v):a.spot=none∧a.block<w.heap.size:=by
 unfold f7 at h
 split at h
 ·rename_i c e fr hb
  refine⟨?_,(ma.1 hb).1⟩
  split at h
  ·cases h
  ·rename_i hs;simpa using hs
 ·cases h
theorem U9{base:Nat}{a:Addr}{n:Nat}{cs:List Value}(h:w.cells? base a n=some cs)(hn:0<n): ∃b off,a=⟨b,off,none⟩∧b<w.heap.size∧Ev w b off cs∧cs.length=n:=by
 obtain⟨h1,h2⟩:=WW h
 obtain⟨b,off,sp⟩:=a
 have h0:=h2 0 cs[0] (by simp)
 have:=cell?_lt h0
 simp only[Addr.add,qt]at this
 obtain⟨rfl,hlt⟩:=this
 exact⟨b,off,rfl,hlt,fun j v hj=>by have:=h2 j v hj;rwa [G4]at this,h1⟩
theorem tV{p:Nat→List AV→List Value→Prop}: ∀(len:Nat),(∀i,i<len→ ∃x y,p i x y)→ ∃(xs:List (List AV)) (ys:List (List Value)),xs.length=len∧ys.length=len∧ ∀(i:Nat) x y,xs[i]? =some x→ys[i]? =some y→p i x y
 |0,_=>⟨[],[],rfl,rfl,fun i x y h=>by simp at h⟩
 |n+1,h=>by
  obtain⟨xs,ys,h1,h2,h3⟩:=tV n fun i hi=>h i (by omega)
  obtain⟨x,y,hp⟩:=h n (by omega)
  refine⟨xs++[x],ys++[y],by simp[h1],by simp[h2],fun i u v hu hv=> ?_⟩
  by_cases hi:i<n
  ·rw[br (by omega)]at hu hv
   exact h3 i u v hu hv
  ·have hlt:=Bl hu
   simp only[aw,bb,bz]at hlt
   obtain rfl:i=n:=by omega
   rw[bo (by omega),h1]at hu
   rw[bo (by omega),h2]at hv
   simp only[jq,bx,ae]at hu hv
   subst hu;subst hv
   exact hp
theorem YO{C:DR}: ∀{xs:List (List AV)} {ys:List (List Value)},xs.length=ys.length→(∀(i:Nat) x y,xs[i]? =some x→ys[i]? =some y→B6 C x y)→Bk C xs ys
 |[],[],_,_=>rfl
 |[],_::_,h,_=>by simp at h
 |_::_,[],h,_=>by simp at h
 |x::xs,y::ys,h,k=>⟨y,ys,rfl,k 0 x y rfl rfl,YO (by simpa using h) fun i u v hu hv=>k (i+1) u v (by simpa using hu) (by simpa using hv)⟩
theorem Z4{sz:Nat}: ∀(l:List (List Value)),(∀y∈l,y.length=sz)→ ∀(j:Nat) (v:Value),l.flatten[j]? =some v→ ∃(i r:Nat) (y:List Value),j=i*sz+r∧l[i]? =some y∧y[r]? =some v
 |[],_,j,v,h=>by simp at h
 |y::l,hy,j,v,h=>by
  rw[bm]at h
  have hyl:=hy y bj
  rcases dq j y.length with hlt|hge
  ·rw[br hlt]at h
   exact⟨0,j,y,by simp,rfl,h⟩
  ·rw[bo hge]at h
   obtain⟨i,r,u,h1,h2,h3⟩:=Z4 l (fun z hz=>hy z (bg _ hz)) _ _ h
   exact⟨i+1,r,u,by rw[ci];omega,by simpa using h2,h3⟩
theorem mU(φ:Nat→Place)(w:World)(b:Nat): ¬(⟨φ,[],w⟩:DR).own b:=by
 rintro⟨id,h,_⟩
 exact absurd h (lm _)
def Reads(P:Program)(φ:Nat→Place)(w:World)(n:Nat)(t:TypeId)(cs:List Value):Prop:=
 ∃cs1:List AV,Gn P n t cs1∧B6 ⟨φ,[],w⟩ cs1 cs∧cs1.all scal=true∧cs.length=P.cellsOf t
theorem Ue(φ:Nat→Place)(n:Nat)(T: ∀f:Field,JC P n f.type=true→ ∀cs:List Value,(∃fuel x,DataW.trod enc P w 0 spare held fuel f.type cs=some x)→Reads P φ w n f.type cs):
  ∀(fs:List Field) (pos tot:Nat) (cs:List Value),fs.all (fun f=>JC P n f.type)=true→ZQ P pos fs=some tot→cs.length=tot→
   (∀f∈fs,∃fuel x,DataW.trod enc P w 0 spare held fuel f.type ((cs.drop f.offset).take (P.cellsOf f.type))=some x)→
   ∃cs1:List AV,kV (Gn P n) fs cs1∧B6 ⟨φ,[],w⟩ cs1 (cs.drop pos)∧cs1.all scal=true
 |[],pos,tot,cs,_,hc,hl,_=>by
  simp only[ZQ,ae]at hc
  subst hc
  exact⟨[],rfl,by rw[ce (by omega)];rfl,rfl⟩
 |f::fs,pos,tot,cs,hp,hc,hl,hr=>by
  simp only[fc,af]at hp
  simp only[ZQ]at hc
  split at hc
  ·rename_i ho
   rw[j8]at ho
   obtain⟨cs1,t1,r1,s1,l1⟩:=T f hp.1 _ (hr f bj)
   obtain⟨bs,t2,r2,s2⟩:=Ue φ n T fs _ tot cs hp.2 hc hl fun g hg=>hr g (bg _ hg)
   refine⟨cs1++bs,⟨cs1,bs,rfl,t1,t2⟩,?_,by simp only[jt,s1,s2,Bool.and_self]⟩
   rw[ho]at r1 l1
   have hsplit:cs.drop pos=(cs.drop pos).take (P.cellsOf f.type)++cs.drop (pos+P.cellsOf f.type):=by
    rw[←ck,fq]
   rw[hsplit]
   exact ou r1 r2
  ·cases hc
theorem Qu(φ:Nat→Place): ∀(n:Nat) (t:TypeId),JC P n t=true→ ∀(fuel:Nat) (cs:List Value) (x:DataW H×List MemPlace),DataW.trod enc P w 0 spare held fuel t cs=some x→Reads P φ w n t cs
 |0,_,h=>by simp[JC]at h
 |n+1,t,h=>by
  intro fuel cs x hx
  simp only[JC]at h
  cases hu:P.underlying t with
  |none=>rw[hu]at h;simp at h
  |some d=>
   rw[hu]at h
   cases fuel with
   |zero=>simp[DataW.trod]at hx
   |succ fuel=>
    cases d<;>simp only[au]at h
    case bool=>
     rw[j8]at h
     rcases cs with _|⟨v,_|⟨u,r⟩⟩
     ·simp[DataW.trod,hu]at hx
     ·cases v<;>simp[DataW.trod,hu]at hx
      rename_i b
      exact⟨[.b b],by simp only[Gn,hu];exact⟨b,rfl⟩,⟨_,_,rfl,rfl,rfl⟩,rfl,h.symm⟩
     ·cases v<;>simp[DataW.trod,hu]at hx
    case int k=>
     rw[j8]at h
     rcases cs with _|⟨v,_|⟨u,r⟩⟩
     ·simp[DataW.trod,hu]at hx
     ·cases v<;>simp[DataW.trod,hu]at hx
      rename_i k' z
      obtain⟨⟨rfl,hwf⟩,_⟩:=hx
      refine⟨[.i k' z],?_,⟨_,_,rfl,rfl,rfl⟩,rfl,h.symm⟩
      simp only[Gn,hu]
      simp only[Lit.wf,af,qp]at hwf
      exact⟨z,rfl,hwf⟩
     ·cases v<;>simp[DataW.trod,hu]at hx
    case string=>
     rw[j8]at h
     rcases cs with _|⟨v,_|⟨u,r⟩⟩
     ·simp[DataW.trod,hu]at hx
     ·cases v<;>simp[DataW.trod,hu]at hx
      rename_i b
      exact⟨[.s b.data.toList],by simp only[Gn,hu];exact⟨_,rfl⟩,⟨_,_,rfl,by simp[HG],rfl⟩,rfl,h.symm⟩
     ·cases v<;>simp[DataW.trod,hu]at hx
    case pointer e=>
     simp only[af,j8,Nat.blt_eq]at h
     obtain⟨⟨h1,h2⟩,h3⟩:=h
     rcases cs with _|⟨v,_|⟨u,r⟩⟩
     ·simp[DataW.trod,hu]at hx
     ·cases v<;>try (simp[DataW.trod,hu]at hx;done)
      rename_i p
      cases p with
      |none=>exact⟨[.nilp],by simp only[Gn,hu];left;trivial,⟨_,_,rfl,rfl,rfl⟩,rfl,h1.symm⟩
      |some p=>
       simp only[DataW.trod,hu]at hx
       obtain⟨y,hy,_⟩:=aj.1 hx
       obtain⟨cs',hc,ht⟩:=ab.1 hy
       obtain⟨b,off,rfl,hlt,hh,hl⟩:=U9 hc h2
       obtain⟨cs1,t1,r1,s1,l1⟩:=Qu φ n e h3 fuel cs' y ht
       refine⟨[.ip cs1 0],by simp only[Gn,hu];exact .inr ⟨cs1,rfl,t1⟩,⟨_,_,rfl,⟨b,off,cs',rfl,hlt,mU φ w b,hh,s1,r1⟩,rfl⟩,rfl,h1.symm⟩
     ·cases v<;>simp[DataW.trod,hu]at hx
    case slice e=>
     simp only[af,j8,Nat.blt_eq]at h
     obtain⟨⟨h1,h2⟩,h3⟩:=h
     rcases Go.Deep.open_slice hu hx with ⟨rfl,_⟩|⟨a,len,cap,m,n',D,Pl,rfl,hb,hl,hm,hmm,rfl,hel⟩
     ·exact⟨[.nils],by simp only[Gn,hu];left;trivial,⟨_,_,rfl,rfl,rfl⟩,rfl,h1.symm⟩
     ·have hlm:len≤m:=by rw[hmm];split<;>omega
      obtain⟨xs,ys,x1,y1,hp⟩:=tV (p:=fun i x y=>Gn P n e x∧B6 ⟨φ,[],w⟩ x y∧x.all scal=true∧y.length=P.cellsOf e∧w.cells? 0 (a.add (i*P.cellsOf e)) (P.cellsOf e)=some y) len fun i hi=>by
       obtain⟨cs',c1,c2⟩:=hel i (by omega)
       obtain⟨cs1,t1,r1,s1,l1⟩:=Qu φ n e h3 n' cs' _ c2
       exact⟨cs1,cs',t1,r1,s1,l1,c1⟩
      have getx: ∀x∈xs,∃(i:Nat) (y:List Value),xs[i]? =some x∧ys[i]? =some y:=by
       intro x hx
       obtain⟨i,hi⟩:=gu.1 hx
       have:=Bl hi
       exact⟨i,ys[i]'(by omega),hi,ad (by omega)⟩
      have gety: ∀y∈ys,y.length=P.cellsOf e:=by
       intro y hy
       obtain⟨i,hi⟩:=gu.1 hy
       have:=Bl hi
       exact(hp i (xs[i]'(by omega)) y (ad (by omega)) hi).2.2.2.1
      refine⟨[.sl (P.cellsOf e) xs],?_,⟨_,_,rfl,?_,rfl⟩,rfl,h1.symm⟩
      ·simp only[Gn,hu]
       refine .inr ⟨xs,rfl,fun x hx=> ?_⟩
       obtain⟨i,y,hi,hy⟩:=getx x hx
       exact(hp i x y hi hy).1
      ·by_cases h0:len=0
       ·subst h0
        exact .inr ⟨cj x1,a,cap,rfl⟩
       ·have hpos:0<len:=by omega
        obtain⟨y0,hy0⟩: ∃y,ys[0]? =some y:=⟨_,ad (by omega)⟩
        obtain⟨x0,hx0⟩: ∃y,xs[0]? =some y:=⟨_,ad (by omega)⟩
        have hc0:=(hp 0 x0 y0 hx0 hy0).2.2.2.2
        simp only[jb,Addr.add,qt]at hc0
        obtain⟨b,off,rfl,hlt,_,_⟩:=U9 hc0 h2
        refine .inl ⟨b,off,cap,ys,by rw[x1],by rw[x1];exact hl,hlt,mU φ w b,?_,fun x hx=> ?_,YO (by rw[x1,y1]) fun i x y hi hy=>(hp i x y hi hy).2.1⟩
        ·intro j v hj
         obtain⟨i,r,y,rfl,hy,hr⟩:=Z4 ys gety j v hj
         have hi:=Bl hy
         have hc:=(hp i (xs[i]'(by omega)) y (ad (by omega)) hy).2.2.2.2
         have:=(WW hc).2 r v hr
         rwa [G4,G4,gz]at this
        ·obtain⟨i,y,hi,hy⟩:=getx x hx
         have:=hp i x y hi hy
         exact⟨by rw[←this.2.1.length];exact this.2.2.2.1,this.2.2.1⟩
    case struct fs=>
     simp only[af,qp]at h
     obtain⟨h1,h2⟩:=h
     simp only[DataW.trod,hu]at hx
     split at hx
     ·rename_i hl
      obtain⟨xs,hxs,_⟩:=aj.1 hx
      obtain⟨cs1,t1,r1,s1⟩:=Ue (enc:=enc) (spare:=spare) (held:=held) φ n (fun f hf cs hh=>by obtain⟨fl,x,hh⟩:=hh;exact Qu φ n f.type hf fl cs x hh) fs.toList 0 _ cs h2 h1 hl fun f hf=>by
       obtain⟨i,hi⟩:=gu.1 hf
       have:=mapM_some_get hxs i f hi
       have hlen:=mapM_some_length hxs
       have hi':=Bl hi
       rw[ad (by omega)]at this
       exact⟨fuel,_,this⟩
      exact⟨cs1,by simp only[Gn,hu];exact t1,by simpa using r1,s1,hl⟩
     ·cases hx
    case array m e=>
     simp only[af,j8]at h
     obtain⟨h1,h2⟩:=h
     simp only[DataW.trod,hu]at hx
     split at hx
     ·rename_i hl
      obtain⟨xs,hxs,_⟩:=aj.1 hx
      have hxl:=mapM_some_length hxs
      simp only[List.length_range]at hxl
      obtain⟨els,ys,x1,y1,hp⟩:=tV (p:=fun i x y=>Gn P n e x∧B6 ⟨φ,[],w⟩ x y∧x.all scal=true∧y=(cs.drop (i*P.cellsOf e)).take (P.cellsOf e)∧y.length=P.cellsOf e) m fun i hi=>by
       have:=mapM_some_get hxs i i (by simp[hi])
       rw[ad (by omega)]at this
       obtain⟨cs1,t1,r1,s1,l1⟩:=Qu φ n e h2 fuel _ _ this
       exact⟨cs1,_,t1,r1,s1,rfl,l1⟩
      have hys: ∀k,k≤m→(ys.take k).flatten=cs.take (k*P.cellsOf e):=by
       intro k
       induction k with
       |zero=>intro _;simp
       |succ k ih=>
        intro hk
        obtain⟨y,hy⟩: ∃y,ys[k]? =some y:=⟨_,ad (by omega)⟩
        have:=hp k (els[k]'(by omega)) y (ad (by omega)) hy
        rw[List.take_add_one,hy,f6,ih (by omega)]
        simp only[Option.toList_some,bm,mq,dv]
        rw[this.2.2.2.1,ci,List.take_add]
      have hfl:ys.flatten=cs:=by
       have:=hys m (be _)
       rwa [av (by omega),av (by omega)]at this
      refine⟨els.flatten,?_,?_,?_,hl⟩
      ·simp only[Gn,hu]
       refine⟨els,x1,rfl,fun x hx=> ?_⟩
       obtain⟨i,hi⟩:=gu.1 hx
       have:=Bl hi
       exact(hp i x (ys[i]'(by omega)) hi (ad (by omega))).1
      ·have:=n7 (YO (C:=⟨φ,[],w⟩) (by rw[x1,y1]) fun i x y hi hy=>(hp i x y hi hy).2.1)
       rwa [hfl]at this
      ·refine O8 fun x hx=> ?_
       obtain⟨i,hi⟩:=gu.1 hx
       have:=Bl hi
       exact(hp i x (ys[i]'(by omega)) hi (ad (by omega))).2.2.1
     ·cases hx
end
end
section
section
variable{T:HB→Oper→Bool}{P:Program}{tb:Di}
def Wi(P:Program)(n:Nat)(t:TypeId)(x:AV):Prop:=if G6 P t=true then∃cs,x= .agg cs∧Gn P n t cs else Gn P n t [x]
theorem kS{φ:Nat→Place}{w:World}{D:DR}(X:LH ⟨φ,[],w⟩ D):Go.RowKit.Below w.heap.size w D.w:=
 ⟨X.rest.1,X.rest.2.1,X.rest.2.2,X.size,fun k hk=>(X.same k hk (mU φ w k)).1⟩
theorem yS(φ:Nat→Place)(w:World)(hg: ∀g cs,tb.gl g=some cs→g<w.heap.size∧cs.all scal=true∧ ∃vs,Ev w g 0 vs∧B6 ⟨φ,[],w⟩ cs vs)(hi: ∀g∈tb.it,∃m:Int,w.cell? ⟨g,0,none⟩=some (.int .i64 m)):Inv tb ⟨φ,[],w⟩:=
 ⟨fun id o h=>by simp at h,fun i j h=>absurd h (lm _),fun i h=>absurd h (lm _),fun g cs h=>by
  obtain⟨h1,h2,h3⟩:=hg g cs h
  exact⟨h1,mU φ w g,h2,h3⟩,fun g h=>⟨mU φ w g,hi g h⟩⟩
theorem wT{H:Type}{enc:TypeId×Value→H}{W:World}{base:Nat}{spare:Nat→Bool}{held:Bool}{n:Nat}{t:TypeId}(hp:JC P n t=true){v:Value}{d:DataW H}{ps:List MemPlace}(hv:Value.okWide P W .any base t v)
  (h:DataW.Trod enc P W 0 spare held t v d ps) (φ:Nat→Place): ∃x:AV,Wi P n t x∧HG ⟨φ,[],W⟩ x v:=by
 obtain⟨fuel,h⟩:=h
 obtain⟨cs1,t1,r1,s1,l1⟩:=Qu φ n t hp fuel _ _ h
 cases ha:G6 P t with
 |true=>
  have hc: ∃cs,v= .agg cs:=by
   unfold Value.okWide at hv
   simp only[G6]at ha
   split at hv
   ·obtain⟨cs,e,_⟩:=hv;exact⟨cs,e⟩
   ·obtain⟨cs,e,_⟩:=hv;exact⟨cs,e⟩
   ·rename_i h1 h2
    split at ha
    ·rename_i fs hu;exact absurd hu (h1 fs)
    ·rename_i m e hu;exact absurd hu (h2 m e)
    ·cases ha
  obtain⟨cs,rfl⟩:=hc
  exact⟨.agg cs1,by simp only[Wi,ha,qt];exact⟨cs1,rfl,t1⟩,cs.toList,by simp,s1,by simpa [pp]using r1⟩
 |false=>
  have hna: ∀cs,v≠ .agg cs:=by
   rintro cs rfl
   simp only[G6]at ha
   unfold Value.okWide at hv
   cases n with
   |zero=>simp[JC]at hp
   |succ n=>
    simp only[JC]at hp
    split at hp<;>rename_i hu<;>simp only[hu]at hv ha<;>first
     |(simp only[Cell.okWide,Cell.ok,hu]at hv;done)
     |(cases ha;done)
     |(cases hp;done)
  have hc:v.cells.toList=[v]:=by
   cases v<;>first
    |rfl
    |exact absurd rfl (hna _)
  rw[hc]at r1
  have hl:=r1.length
  obtain⟨x,rfl⟩: ∃x,cs1=[x]:=by
   match cs1,hl with
   |[x],_=>exact⟨x,rfl⟩
  obtain⟨u,q,e,h1,h2⟩:=r1
  simp only[lj]at e
  obtain⟨rfl,_⟩:=e
  exact⟨x,by simp only[Wi,ha,au,qu];exact t1,h1⟩
def RZ(P:Program)(n:Nat):List TypeId→List AV→Prop
 |[],xs=>xs=[]
 |t::ts,xs=> ∃x r,xs=x::r∧Wi P n t x∧RZ P n ts r
theorem Yh{H:Type}{enc:TypeId×Value→H}{W:World}{base:Nat}{spare:Nat→Bool}{held:Bool}{n:Nat}(φ:Nat→Place): ∀{ts:List TypeId} {vs:List Value} {ds:List (DataW H)} {ps:List MemPlace},ts.all (JC P n)=true→
  (∀(j:Nat) t v,ts[j]? =some t→vs[j]? =some v→Value.okWide P W .any base t v)→DataW.TrodAll enc P W 0 spare held ts vs ds ps→ ∃xs:List AV,RZ P n ts xs∧B6 ⟨φ,[],W⟩ xs vs∧ds.length=ts.length
 |[],[],[],_,_,_,_=>⟨[],rfl,rfl,rfl⟩
 |[],[],_::_,_,_,_,h=>h.elim
 |[],_::_,_,_,_,_,h=>by cases ‹List (DataW H)› <;>exact h.elim
 |_::_,[],_,_,_,_,h=>by cases ‹List (DataW H)› <;>exact h.elim
 |_::_,_::_,[],_,_,_,h=>h.elim
 |t::ts,v::vs,d::ds,ps,hp,hv,⟨p,q,h1,h2,_⟩=>by
  simp only[fc,af]at hp
  obtain⟨x,t1,r1⟩:=wT hp.1 (hv 0 t v rfl rfl) h1 φ
  obtain⟨xs,t2,r2,l2⟩:=Yh φ hp.2 (fun j t v ht hv'=>hv (j+1) t v (by simpa using ht) (by simpa using hv')) h2
  exact⟨x::xs,⟨x,xs,rfl,t1,t2⟩,⟨v,vs,rfl,r1,r2⟩,by simp[l2]⟩
theorem Sv{H:Type}{enc:TypeId×Value→H}(hl:laidOutB P=true){W W':World}(hb:Go.RowKit.Below W.heap.size W W'): ∀{ts:List TypeId} {vs:List Value} {ds:List (DataW H)} {ps:List MemPlace},
  ts.all (fun t=>P.readableRec t&&decide (t<P.types.size))=true→DataW.TrodAll enc P W 0 (fun _=>true) true ts vs ds ps→(∀x∈ps,x.block<W.heap.size)→DataW.TrodAll enc P W' 0 (fun b=>decide (b<W.heap.size)) true ts vs ds ps
 |[],[],[],_,_,h,_=>h
 |[],[],_::_,_,_,h,_=>h.elim
 |[],_::_,_,_,_,h,_=>by cases ‹List (DataW H)› <;>exact h.elim
 |_::_,[],_,_,_,h,_=>by cases ‹List (DataW H)› <;>exact h.elim
 |_::_,_::_,[],_,_,h,_=>h.elim
 |t::ts,v::vs,d::ds,ps,hp,⟨p,q,h1,h2,e⟩,hlt=>by
  simp only[fc,af,qp]at hp
  subst e
  exact⟨p,q,Go.RowKit.Below.trod hl hp.1.1 hp.1.2 h1 hb fun x hx=>hlt x (ny _ hx),Sv hl hb hp.2 h2 fun x hx=>hlt x (nl _ hx),rfl⟩
theorem contract(ft:Fits T P tb){k:FuncId}{f:Func}{bt:TypeId}{n:Nat}(hl:laidOutB P=true)(hr:f.resultTypes= #[bt])(hb:P.underlying bt=some .bool)(hp:f.params.toList.all (JC P n)=true)
  (hrd:f.params.toList.all (fun t=>P.readableRec t&&decide (t<P.types.size))=true) {H:Type} {enc:TypeId×Value→H} {s:ChangeSpec} (hs0:s.vars=[]) (hs: ∀ds:List (DataW H),ds.length=f.params.size→s.fn H ds={results:=[.lit (.bool true)],args:=ds})
  {W:World} {base:Nat} {args:Array Value} {ds gs:List (DataW H)} {before:List MemPlace} (hval: ∀(j:Nat) t v,f.params[j]? =some t→args[j]? =some v→Value.okWide P W .any base t v)
  (hW:DataW.Whole enc P f.params.toList s.vars false W args.toList ds gs before)
  (hgl: ∀g cs,tb.gl g=some cs→g<W.heap.size∧cs.all scal=true∧ ∃vs,Ev W g 0 vs∧B6 ⟨fun _=>⟨0,0,0⟩,[],W⟩ cs vs)
  (hit: ∀g∈tb.it,∃m:Int,W.cell? ⟨g,0,none⟩=some (.int .i64 m))
  (law: ∀xs:List AV,RZ P n f.params.toList xs→B6 ⟨fun _=>⟨0,0,0⟩,[],W⟩ xs args.toList→ ∃h,CC tb k xs []=some (.b true,h)):
  Calls P k args W fun e W'=> ∃v,e= .returned v∧s.post enc P f false true false false W args v W':=by
 have hW':=hW
 obtain⟨p,q,hA,hV,rfl,hfz,hnd⟩:=hW
 rw[hs0]at hV
 obtain⟨rfl,rfl⟩:=Go.ChangeShapes.trodVars_none hV
 obtain⟨xs,t1,r1,l1⟩:=Yh (fun _=>⟨0,0,0⟩) hp (fun j t v ht hv=>hval j t v (by simpa using ht) (by simpa using hv)) hA
 obtain⟨h,hd⟩:=law xs t1 r1
 have I:Inv tb ⟨fun _=>⟨0,0,0⟩,[],W⟩:=yS _ W hgl hit
 have hc:=zP ft (C:=⟨fun _=>⟨0,0,0⟩,[],W⟩) I r1 hd
 refine hc.mono fun e W' ⟨v,D,he,X,ID,hw,hH,hv⟩=> ?_
 subst he
 subst hw
 obtain rfl:v= .bool true:=hv
 have hbl:=kS X
 have hlt: ∀x∈p,x.block<W.heap.size:=fun x hx=>hW'.lt x (by simpa using hx)
 have hfn:=hs (ds++[]) (by simpa using l1)
 refine⟨_,rfl,ds,[],p++[],[],p,[],hW',?_,?_,?_,hbl.frame _,fun e=>by cases e⟩
 ·rw[hfn,hr]
  refine⟨[],[],⟨1,?_⟩,rfl,rfl⟩
  simp[DataW.trod,hb,pp]
 ·rw[hfn]
  simpa using Sv hl hbl hrd hA hlt
 ·rw[hs0,hfn]
  rfl
def nF{H:Type}:DataW H→Option AV
 | .lit (.int k n)=>some (.i k n)
 | .lit (.string l)=>some (.s l)
 | .lit (.bool b)=>some (.b b)
 | .iface _ _=>some (.ifc 0 .junk)
 |_=>none
def yJ{α β:Type}(F:α→Option β):List α→Option (List β)
 |[]=>some []
 |x::r=>(F x).bind fun x=>(yJ F r).map (x:: ·)
theorem mY{α β:Type}{F:α→Option β}: ∀{l:List α} {r:List β},yJ F l=some r→l.length=r.length∧ ∀(i:Nat) x,l[i]? =some x→ ∃y,r[i]? =some y∧F x=some y
 |[],_,h=>by simp only[yJ,ae]at h;subst h;simp
 |x::l,_,h=>by
  simp only[yJ]at h
  obtain⟨y,hy,h⟩:=ab.1 h
  obtain⟨r,hr,rfl⟩:=aj.1 h
  obtain⟨h1,h2⟩:=mY hr
  refine⟨by simp[h1],fun i z hz=> ?_⟩
  cases i with
  |zero=>simp only[bx,ae]at hz ⊢;subst hz;exact⟨y,rfl,hy⟩
  |succ i=>simp only[c0]at hz ⊢;exact h2 i z hz
theorem vF{C:DR}: ∀{xs:List AV} {ys:List Value},xs.length=ys.length→(∀(i:Nat) x y,xs[i]? =some x→ys[i]? =some y→HG C x y)→B6 C xs ys
 |[],[],_,_=>rfl
 |[],_::_,h,_=>by simp at h
 |_::_,[],h,_=>by simp at h
 |x::xs,y::ys,h,g=>⟨y,ys,rfl,g 0 x y rfl rfl,vF (by simpa using h) fun i x y hx hy=>g (i+1) x y (by simpa using hx) (by simpa using hy)⟩
theorem lO{H:Type}{enc:TypeId×Value→H}{W:World}{spare:Nat→Bool}{held:Bool}{C:DR}{fuel:Nat}{t:TypeId}{v:Value}{x:DataW H}{p:List MemPlace}{a:AV}(h:DataW.trod enc P W 0 spare held fuel t [v]=some (x,p))(ha:nF x=some a):HG C a v∧scal a=true:=by
 cases fuel with
 |zero=>simp[DataW.trod]at h
 |succ fuel=>
  cases hu:P.underlying t with
  |none=>simp[DataW.trod,hu]at h
  |some d=>
   have hx:(∃k n,x= .lit (.int k n)∧a= .i k n)∨(∃l,x= .lit (.string l)∧a= .s l)∨(∃b,x= .lit (.bool b)∧a= .b b)∨ ∃n d,x= .iface n d∧a= .ifc 0 .junk:=by
    unfold nF at ha
    split at ha<;>simp only[ae,reduceCtorEq]at ha<;>subst ha<;>simp
   unfold DataW.trod at h
   rw[hu]at h
   rcases hx with ⟨k,n,rfl,rfl⟩|⟨l,rfl,rfl⟩|⟨b,rfl,rfl⟩|⟨n,y,rfl,rfl⟩
   all_goals (split at h<;>(try split at h)<;>(try split at h)<;>simp_all [HG,scal,aj,ab])
   obtain⟨rfl,_⟩:=h
   simp
theorem tab_rep{H:Type}{enc:TypeId×Value→H}{W:World}{spare:Nat→Bool}{held:Bool}{C:DR}{fuel:Nat}{t e:TypeId}{m:Nat}{cs:List Value}{ds:List (DataW H)}{p:List MemPlace}{cs1:List AV}
  (hu:P.underlying t=some (.array m e)) (hc:P.cellsOf e=1) (hct:P.cellsOf t=m) (h:DataW.trod enc P W 0 spare held fuel t cs=some (.agg ds,p)) (ha:yJ nF ds=some cs1):B6 C cs1 cs∧cs1.all scal=true:=by
 cases fuel with
 |zero=>simp[DataW.trod]at h
 |succ fuel=>
  simp only[DataW.trod,hu,hc,hct]at h
  split at h
  ·rename_i hl
   obtain⟨xs,hxs,h⟩:=aj.1 h
   simp only[ch,DataW.agg.injEq]at h
   obtain⟨rfl,_⟩:=h
   have hxl:=mapM_some_length hxs
   simp only[List.length_range]at hxl
   obtain⟨g1,g2⟩:=mY ha
   simp only[e9]at g1
   have key: ∀(i:Nat) a,cs1[i]? =some a→ ∃v,cs[i]? =some v∧HG C a v∧scal a=true:=fun i a hi=>by
    have hi':=Bl hi
    have:=mapM_some_get hxs i i (by rw[List.getElem?_range (by omega)])
    have hd:(cs.drop (i*1)).take 1=[cs[i]'(by omega)]:=by
     rw[nx,bk (by omega)];rfl
    rw[hd,ad (by omega)]at this
    obtain⟨y,hy,hf⟩:=g2 i (xs[i]'(by omega)).1 (by rw[ff,ad (by omega)];rfl)
    rw[hi]at hy
    cases hy
    exact⟨_,ad (by omega),lO this hf⟩
   refine⟨vF (by omega) fun i x y hx hy=> ?_,?_⟩
   ·obtain⟨v,h1,h2,_⟩:=key i x hx
    rw[hy]at h1;cases h1;exact h2
   ·rw[cd]
    intro x hx
    obtain⟨i,hi⟩:=gu.1 hx
    obtain⟨v,_,_,h⟩:=key i x hi
    exact h
  ·cases h
theorem Zp{W:World}{n:String}{d:DataW Unit}: ∀{l:List (String×DataW Unit)} {ps:List MemPlace},DataW.LaidVars P W l ps→(n,d)∈l→ ∃g t cs fuel p,P.globalNamed n=some g∧(P.globals[g]?).map (·.type)=some t∧W.var? P n=some cs∧
  DataW.trod (fun _=>()) P W 0 (fun _=>true) false fuel t cs.toList=some (d,p)
 |[],_,_,hm=>by cases hm
 |(n',d')::r,ps,⟨g,t,cs,fuel,p,q,h1,h2,h3,h4,h5,_⟩,hm=>by
  rcases bu.1 hm with e|hm
  ·simp only[ch]at e
   obtain⟨rfl,rfl⟩:=e
   exact⟨g,t,cs,fuel,p,h1,h2,h3,h4⟩
  ·exact Zp h5 hm
theorem WA{W:World}{l:List (String×DataW Unit)}(hL:laidMet P l W){n:String}{d:DataW Unit}{a:AV}{g:Nat}{t:TypeId}(hm:(n,d)∈l)(hg:P.globalNamed n=some g)(ht:(P.globals[g]?).map (·.type)=some t)
  (hu: ∃m,P.underlying t=some (.interface m)) (ha:nF d=some a):
  g<W.heap.size∧[a].all scal=true∧ ∃vs,Ev W g 0 vs∧B6 ⟨fun _=>⟨0,0,0⟩,[],W⟩ [a] vs:=by
 obtain⟨ps,hv,_,_⟩:=hL
 obtain⟨g',t',cs,fuel,p,h1,h2,h3,h4⟩:=Zp hv hm
 rw[hg]at h1;cases h1
 rw[ht]at h2;cases h2
 obtain⟨m,hu⟩:=hu
 have hc: ∃v,cs.toList=[v]:=by
  cases fuel with
  |zero=>simp[DataW.trod]at h4
  |succ fuel=>
   unfold DataW.trod at h4
   rw[hu]at h4
   split at h4<;>first
    |(rename_i e;exact⟨_,e⟩)
    |(rename_i e _;exact⟨_,e⟩)
    |(cases h4;done)
    |simp_all
 obtain⟨v,hc⟩:=hc
 rw[hc]at h4
 obtain⟨r1,r2⟩:=lO (C:=⟨fun _=>⟨0,0,0⟩,[],W⟩) h4 ha
 simp only[World.var?,hg,aa]at h3
 have hlt:g<W.heap.size:=by
  rcases dq g W.heap.size with h|h
  ·exact h
  ·rw[kx h]at h3;cases h3
 refine⟨hlt,by simp[r2],cs.toList,fun j v hj=> ?_,by rw[hc];exact⟨v,[],rfl,r1,rfl⟩⟩
 split at h3
 ·rename_i cs' ty fr hh
  cases h3
  simp only[f7,hh,da]
  simpa using hj
 ·cases h3
theorem sL{W:World}{l:List (String×DataW Unit)}(hL:laidMet P l W){n:String}{d:DataW Unit}{ds:List (DataW Unit)}{cs1:List AV}{g:Nat}{t e:TypeId}{m:Nat}(hm:(n,d)∈l)(hg:P.globalNamed n=some g)(ht:(P.globals[g]?).map (·.type)=some t)
  (hu:P.underlying t=some (.array m e)) (hc:P.cellsOf e=1) (hct:P.cellsOf t=m) (hd:d= .agg ds) (ha:yJ nF ds=some cs1):
  g<W.heap.size∧cs1.all scal=true∧ ∃vs,Ev W g 0 vs∧B6 ⟨fun _=>⟨0,0,0⟩,[],W⟩ cs1 vs:=by
 obtain⟨ps,hv,_,_⟩:=hL
 obtain⟨g',t',cs,fuel,p,h1,h2,h3,h4⟩:=Zp hv hm
 rw[hg]at h1;cases h1
 rw[ht]at h2;cases h2
 subst hd
 obtain⟨r1,r2⟩:=tab_rep (C:=⟨fun _=>⟨0,0,0⟩,[],W⟩) hu hc hct h4 ha
 simp only[World.var?,hg,aa]at h3
 have hlt:g<W.heap.size:=by
  rcases dq g W.heap.size with h|h
  ·exact h
  ·rw[kx h]at h3;cases h3
 refine⟨hlt,r2,cs.toList,fun j v hj=> ?_,r1⟩
 split at h3
 ·rename_i cs' ty fr hh
  cases h3
  simp only[f7,hh,da]
  simpa using hj
 ·cases h3
end
end
section
def EO(P:Program)(t:TypeId)(u:T)(I:u.α→Prop):Prop:= ∀n cs,Gn P n t cs→ ∃x,u.R (fun _=>False) [] cs x∧I x
def uG(P:Program)(fs:List Field)(u:T)(I:u.α→Prop):Prop:= ∀n cs,kV (Gn P n) fs cs→ ∃x,u.R (fun _=>False) [] cs x∧I x
section
variable{P:Program}{t e:TypeId}
theorem EO.weak{u:T}{I J:u.α→Prop}(h:EO P t u I)(w: ∀x,I x→J x):EO P t u J:=fun n cs k=>by
 obtain⟨x,r,i⟩:=h n cs k
 exact⟨x,r,w x i⟩
theorem EO.str(hu:P.underlying t=some .string):EO P t Ak fun _=>True:=by
 intro n cs h
 cases n with
 |zero=>exact h.elim
 |succ n=>
  simp only[Gn,hu]at h
  obtain⟨x,rfl⟩:=h
  exact⟨x,rfl,trivial⟩
theorem EO.int{k:IntKind}(hu:P.underlying t=some (.int k)):EO P t (ah k) fun x=>k.has x:=by
 intro n cs h
 cases n with
 |zero=>exact h.elim
 |succ n=>
  simp only[Gn,hu]at h
  obtain⟨x,rfl,hx⟩:=h
  exact⟨x,rfl,hx⟩
theorem EO.nat{k:IntKind}{m:Nat}{α:Type}{c:α→Nat}{z:α}{hs hm}(ofN: ∀i,i<m→ ∃x,c x=i)(hk: ∀x,k.has x→0≤x∧x<m)(hu:P.underlying t=some (.int k)):EO P t (TL α (fun x=> .i k (c x)) z hs hm) fun _=>True:=by
 intro n cs h
 cases n with
 |zero=>exact h.elim
 |succ n=>
  simp only[Gn,hu]at h
  obtain⟨x,rfl,hx⟩:=h
  have:=hk x hx
  obtain⟨y,hy⟩:=ofN x.toNat (by omega)
  refine⟨y,?_,trivial⟩
  show [AV.i k x]=[AV.i k (c y)]
  rw[hy];congr 2;omega
theorem has_u{x:Int}:(IntKind.u8.has x→0≤x∧x<(256:Nat))∧(IntKind.u16.has x→0≤x∧x<(65536:Nat))∧(IntKind.u32.has x→0≤x∧x<(4294967296:Nat))∧(IntKind.u64.has x→0≤x∧x<(18446744073709551616:Nat)):=by
 simp only[IntKind.has,IntKind.min,IntKind.max,j4,f4]
 refine⟨fun h=> ?_,fun h=> ?_,fun h=> ?_,fun h=> ?_⟩<;>simp at h<;>omega
theorem EO.u8(hu:P.underlying t=some (.int .u8)):EO P t a7 fun _=>True:=EO.nat (c:=UInt8.toNat) (m:=256) (fun i hi=>⟨bc i,by rw[fk];exact kh hi⟩) (fun _=>has_u.1) hu
theorem UX{u:T}{I:u.α→Prop}(h:EO P e u I){n:Nat}: ∀{els:List (List AV)},(∀x∈els,Gn P n e x)→ ∃xs:List u.α,CL u (fun _=>False) [] els xs∧ ∀x∈xs,I x
 |[],_=>⟨[],trivial,fun _ h=>by cases h⟩
 |c::els,hx=>by
  obtain⟨xs,h1,h2⟩:=UX h fun y hy=>hx y (bg _ hy)
  obtain⟨x,h3,h4⟩:=h n c (hx c bj)
  exact⟨x::xs,⟨h3,h1⟩,fun y hy=>by
   rcases bu.1 hy with rfl|hy
   ·exact h4
   ·exact h2 y hy⟩
theorem EO.sl{u:T}{I:u.α→Prop}(h:EO P e u I)(hu:P.underlying t=some (.slice e))(hsz:P.cellsOf e=u.sz):EO P t (bq u) fun g=> ∀x∈g.l,I x:=by
 intro n cs k
 cases n with
 |zero=>exact k.elim
 |succ n=>
  simp only[Gn,hu]at k
  rcases k with rfl|⟨els,rfl,hels⟩
  ·exact⟨GS.nil,⟨_,rfl,rfl⟩,fun x hx=>by cases hx⟩
  ·obtain⟨xs,h1,h2⟩:=UX h hels
   exact⟨GS.mk xs,⟨_,rfl,trivial,els,by simp[E4,hsz],h1⟩,h2⟩
theorem EO.arr{m:Nat}{u:T}{I:u.α→Prop}(h:EO P e u I)(hu:P.underlying t=some (.array m e)):EO P t (ak m u) fun g=> ∀x∈g.l,I x:=by
 intro n cs k
 cases n with
 |zero=>exact k.elim
 |succ n=>
  simp only[Gn,hu]at k
  obtain⟨els,hl,rfl,hels⟩:=k
  obtain⟨xs,h1,h2⟩:=UX h hels
  exact⟨⟨xs,by rw[←h1.length,hl]⟩,⟨els,rfl,h1⟩,h2⟩
theorem uG.one{f:Field}{u:T}{I:u.α→Prop}(h:EO P f.type u I):uG P [f] u I:=by
 rintro n cs ⟨a,b,rfl,h1,h2⟩
 obtain rfl:b=[]:=h2
 rw[dv]
 exact h n a h1
theorem uG.cons{f:Field}{fs:List Field}{u w:T}{I:u.α→Prop}{J:w.α→Prop}(h:EO P f.type u I)(g:uG P fs w J):uG P (f::fs) (G5 u w) fun p=>I p.1∧J p.2:=by
 rintro n cs ⟨a,b,rfl,h1,h2⟩
 obtain⟨x,r1,i1⟩:=h n a h1
 obtain⟨y,r2,i2⟩:=g n b h2
 exact⟨(x,y),⟨a,b,rfl,r1,r2⟩,i1,i2⟩
theorem EO.st{fs:Array Field}{u:T}{I:u.α→Prop}{β:Type}{f:β→u.α}{g:u.α→β}{hfg: ∀y,f (g y)=y}(h:uG P fs.toList u I)(hu:P.underlying t=some (.struct fs)):EO P t (UQ u β f g hfg) fun(y:β)=>I (f y):=by
 intro n cs k
 cases n with
 |zero=>exact k.elim
 |succ n=>
  simp only[Gn,hu]at k
  obtain⟨x,r,i⟩:=h n cs k
  refine⟨g x,?_,?_⟩
  ·show u.R _ _ _ (f (g x))
   rw[hfg];exact r
  ·show I (f (g x))
   rw[hfg];exact i
end
theorem uT{P:Program}{n:Nat}{t:TypeId}{u:T}{I:u.α→Prop}{v:AV}(ha:G6 P t=u.agg)(h:EO P t u I)(k:Wi P n t v): ∃x,u.V (fun _=>False) [] v x∧I x:=by
 unfold Wi at k
 cases hu:u.agg with
 |true=>
  rw[ha,hu,qn rfl]at k
  obtain⟨cs,rfl,k⟩:=k
  obtain⟨x,r,i⟩:=h n cs k
  exact⟨x, .inl ⟨hu,cs,rfl,r⟩,i⟩
 |false=>
  rw[ha,hu,qo (by simp)]at k
  obtain⟨x,r,i⟩:=h n [v] k
  exact⟨x, .inr ⟨hu,r⟩,i⟩
def Tys(P:Program):List TypeId→(us:List T)→(Cl us→Prop)→Prop
 |[],[],_=>True
 |[t],[u],I=>G6 P t=u.agg∧EO P t u I
 |t::t'::ts,u::u'::us,I=> ∃(J:u.α→Prop) (K:Cl (u'::us)→Prop),(G6 P t=u.agg∧EO P t u J)∧Tys P (t'::ts) (u'::us) K∧ ∀x y,J x→K y→I (x,y)
 |_,_,_=>False
theorem Tys.one{P:Program}{t:TypeId}{u:T}{I:u.α→Prop}(ha:G6 P t=u.agg)(h:EO P t u I):Tys P [t] [u] I:=⟨ha,h⟩
theorem Tys.cons{P:Program}{t t':TypeId}{ts:List TypeId}{u u':T}{us:List T}{J:u.α→Prop}{K:Cl (u'::us)→Prop}(ha:G6 P t=u.agg)(h:EO P t u J)(r:Tys P (t'::ts) (u'::us) K):
  Tys P (t::t'::ts) (u::u'::us) fun(p:u.α×Cl (u'::us))=>J p.1∧K p.2:=⟨J,K,⟨ha,h⟩,r,fun _ _ h k=>⟨h,k⟩⟩
theorem lM{P:Program}{n:Nat}: ∀{ts:List TypeId} {us:List T} {I:Cl us→Prop} {xs:List AV},(us=[]→ ∀x,I x)→Tys P ts us I→RZ P n ts xs→ ∃a:Cl us,TK (fun _=>False) [] us xs a∧I a
 |[],[],_,xs,h0,_,h=>⟨(),h,h0 rfl ()⟩
 |[t],[u],I,xs,_,hT,⟨x,r,e,h,k⟩=>by
  obtain rfl:r=[]:=k
  obtain⟨a,h1,h2⟩:=uT hT.1 hT.2 h
  exact⟨a,⟨x,e,h1⟩,h2⟩
 |t::t'::ts,u::u'::us,I,xs,_,⟨J,K,hT,hR,hI⟩,⟨x,r,e,h,k⟩=>by
  obtain⟨a,h1,h2⟩:=uT hT.1 hT.2 h
  obtain⟨b,h3,h4⟩:=lM (fun e=>by cases e) hR k
  exact⟨(a,b),⟨x,r,e,h1,h3⟩,hI a b h2 h4⟩
 |[],_::_,_,_,_,h,_=>h.elim
 |_::_,[],_,_,_,h,_=>by cases ‹List TypeId› <;>exact h.elim
 |[_],_::_::_,_,_,_,h,_=>h.elim
 |_::_::_,[_],_,_,_,h,_=>h.elim
theorem Spec.law{P:Program}{tb:Di}{g n:Nat}{ts:List TypeId}{As:List T}{F:Cl As→Option Bool}{I:Cl As→Prop}(S:Spec tb g As [di] F)(hp:tb.prim g=none)(h0:As=[]→ ∀x,I x)(hT:Tys P ts As I)(hF: ∀a,I a→F a=some true)
  {xs:List AV} (h:RZ P n ts xs): ∃h,CC tb g xs []=some (.b true,h):=by
 obtain⟨a,ha,hi⟩:=lM h0 hT h
 obtain⟨v,u,hc,_,vs,hv,w,hw,hb⟩:=(S (fun _=>False) [] xs a (fun _ h=>h.elim) (by simp[D1]) ha true (hF a hi)).call
 simp only[BK,hp]at hc
 obtain rfl:w= .b true:=F1.1 hb
 subst hw
 exact⟨u,by rw[hc,hv];rfl⟩
end
section
abbrev X1:Nat→Prop:=fun _=>False
def Io(t:T):T where
 α:=t.α
 sz:=t.sz
 agg:=t.agg
 dep:=t.dep
 R:=fun _ H cs x=>t.R X1 H cs x
 zc:=t.zc
 z:=t.z
 hz:=fun _ H=>t.hz _ H
 one:=t.one
 len:=t.len
 sca:=t.sca
 men:=fun h _=>t.men h fun _ hi=>hi.elim
 mono:=fun _ h=>t.mono (fun _ hi=>hi.elim) h
 cut:=fun h a b _=>t.cut h a b fun _ hi=>hi.elim
 frz:=fun h a b c _=>t.frz (Q:=X1) h a b c fun _ hi=>hi.elim
def T.Un0(t:T):Prop:= ∀{H G:Az} {cs ds:List AV} {x:t.α},t.R X1 H cs x→t.R X1 G ds x→cs=ds
theorem Sa{t:T}(h:t.Uni):t.Un0:=fun r r'=>h r r'
theorem qC{t:T}(h:t.Un0):(Io t).Uni:=fun r r'=>h r r'
theorem qK{t:T}(h:t.Un0){H G:Az}: ∀{c d:List (List AV)} {x:List t.α},CL t X1 H c x→CL t X1 G d x→c=d
 |[],[],[],_,_=>rfl
 |_::_,_::_,_::_,h1,h2=>by rw[h h1.1 h2.1,qK h h1.2 h2.2]
 |[],_::_,[],_,h2=>h2.elim
 |_::_,_,[],h1,_=>h1.elim
 |[],_,_::_,h1,_=>h1.elim
 |_::_,[],_::_,_,h2=>h2.elim
theorem Sb.un0{t:T}(h:t.Un0){H G:Az}{v w:AV}: ∀{g:GS t.α},Sb t X1 H v g→Sb t X1 G w g→v=w
 | .nil,e,e'=>e.trans e'.symm
 | .mk l,⟨b,els,e,r⟩,⟨b',els',e',r'⟩=>by
  cases v<;>first|exact(show False from b).elim|skip
  case sl sz l1=>
   cases w<;>first|exact(show False from b').elim|skip
   case sl sz' l2=>
    simp only[E4]at e e'
    split at e
    ·split at e'
     ·rename_i h1 h2
      cases e;cases e'
      rw[qK h r r']
      subst h1 h2
      rfl
     ·cases e'
    ·cases e
theorem T.Un0.sl{t:T}(h:t.Un0):(bq t).Un0:=by
 rintro H G cs ds x ⟨v,e,r⟩ ⟨w,e',r'⟩
 rw[e,e',Sb.un0 h r r']
def T.NP(t:T):Prop:= ∀{P:Nat→Prop} {H:Az} {cs:List AV} {x:t.α},t.R P H cs x→t.R X1 H cs x
theorem C4{α:Type}{c:α→AV}{z:α}{hs hm}:(TL α c z hs hm).NP:=fun h=>h
theorem CL.np{t:T}(h:t.NP){P:Nat→Prop}{H:Az}: ∀{c:List (List AV)} {x:List t.α},CL t P H c x→CL t X1 H c x
 |[],[],_=>trivial
 |_::_,_::_,r=>⟨h r.1,CL.np h r.2⟩
 |[],_::_,r=>r.elim
 |_::_,[],r=>r.elim
theorem T.NP.arr{n:Nat}{t:T}(h:t.NP):(ak n t).NP:=fun⟨c,e,r⟩=>⟨c,e,r.np h⟩
theorem T.NP.V{t:T}(h:t.NP){P:Nat→Prop}{H:Az}{v:AV}{x:t.α}(r:t.V P H v x):t.V X1 H v x:=by
 rcases r with ⟨a,cs,e,r⟩|⟨a,r⟩
 ·exact .inl ⟨a,cs,e,h r⟩
 ·exact .inr ⟨a,h r⟩
theorem qB{t:T}{P:Nat→Prop}{H:Az}{v:AV}{x:t.α}(r:(Io t).V P H v x):t.V P H v x:=by
 rcases r with ⟨a,cs,e,r⟩|⟨a,r⟩
 ·exact .inl ⟨a,cs,e,t.mono (fun _ hi=>hi.elim) (show t.R X1 H cs x from r)⟩
 ·exact .inr ⟨a,t.mono (fun _ hi=>hi.elim) (show t.R X1 H [v] x from r)⟩
theorem aP{t:T}{P:Nat→Prop}{H:Az}{v:AV}{x:t.α}(r:t.V X1 H v x):(Io t).V P H v x:=by
 rcases r with ⟨a,cs,e,r⟩|⟨a,r⟩
 ·exact .inl ⟨a,cs,e,r⟩
 ·exact .inr ⟨a,r⟩
section
variable{tb:Di}{Γ:Cx}
theorem BZ{a:AO}{t:T}{x:t.α}(h:Cd tb Γ a (.val (Io t) x)):Cd tb Γ a (.val t x):=fun E rv fp f H I=>qB (h E rv fp f H I)
end
theorem iH{Γ:Cx}{n:Nat}{t:T}{x:t.α}(h:BM Γ.ts n=some (.val (Io t) x)):Aa1 Γ (.tmp n) t x:=by
 intro E rv fp f H I r vs hr
 exact⟨_,by simp[results,hr],qB (I.temps n _ h)⟩
theorem h_slaG{tb:Di}{Γ:Cx}{g n sz:Nat}{cs:List AV}{t:T}{x:Ar t.α n}(hg:tb.gl g=some cs)(hr: ∀P H,(ak n t).R P H cs x)(hs:sz=t.sz):Fa tb Γ (.sla n sz (.g g) none none) (some ()) fun _=> .val (bq t) (.mk x.l):=by
 rintro E rv fp f H R z ⟨⟩
 have hl:=(ak n t).len (hr (Pf E Γ.ss fp H) H)
 have hl:cs.length=n*t.sz:=hl
 obtain⟨css,e,hA⟩:=hr (Pf E Γ.ss fp H) H
 have hlen:css.length=n:=by rw[hA.length,x.len]
 subst hs
 have hc:BR t.sz n cs=css:=VP n css cs hlen hA.lens (by rw[←hl,kj,e])
 refine⟨.sl t.sz css,none,?_,rfl,Iy.2 ⟨trivial,css,by simp[E4],hA⟩⟩
 simp only[BC,Hz,aa,eval,hg,pV,db,da,hl,be,qt,val,an,hc]
 rw[←hlen,kj]
theorem EO.pu{P:Program}{i:TypeId}{u:T}{I:u.α→Prop}(h:EO P i u I):EO P i (Io u) I:=h
theorem OJ{tb:Di}{Γ:Cx}{a:AO}{t:T}(h:Cd tb Γ a (.val (bq t) .nil)):Cd tb Γ a (.val (Io (bq t)) .nil):=fun E rv fp f H I=>by
 have:=Iy.1 (h E rv fp f H I)
 exact aP (Iy.2 this)
noncomputable def adr(t:T)(x:t.α):AV:=open Classical in if h: ∃cs,t.R X1 [] cs x then .ip h.choose 0 else .agg []
theorem uD{t:T}(hu:t.Un0){H:Az}{cs:List AV}{x:t.α}(h:t.R X1 H cs x):adr t x= .ip cs 0:=by
 have h0:t.R X1 [] cs x:=t.mono (fun _ hi=>hi.elim) h
 have he: ∃cs,t.R X1 [] cs x:=⟨cs,h0⟩
 simp only[adr,dif_pos he]
 rw[hu he.choose_spec h0]
theorem adr_inv{t:T}{x:t.α}(h:scal (adr t x)=true): ∃cs,adr t x= .ip cs 0∧t.R X1 [] cs x:=by
 by_cases he: ∃cs,t.R X1 [] cs x
 ·exact⟨he.choose,by simp only[adr,dif_pos he],he.choose_spec⟩
 ·simp only[adr,dif_neg he]at h
  cases h
section
variable{tb:Di}{Γ:Cx}{a b:AO}
theorem h_iasP{t:T}{g:GS t.α}{k:IntKind}{i:Int}{sz:Nat}(hu:t.Un0)(hs:sz=t.sz)(ha:Cd tb Γ a (.val (Io (bq t)) g))(hb:Cd tb Γ b (.val (ah k) i)):Fa tb Γ (.ias sz a b) (Dj g.l i) fun x=> .con (adr t x):=by
 intro E rv fp f H R x hx
 simp only[Dj]at hx
 split at hx
 ·rename_i h0
  have hv:Sb t X1 H (eval tb f a) g:=by
   rcases ha E rv fp f H R with ⟨h,_⟩|⟨_,h⟩
   ·cases h
   ·obtain⟨v,e,h⟩: ∃v,[eval tb f a]=[v]∧Sb t X1 H v g:=h
    cases e;exact h
  cases g with
  |nil=>simp[l6]at hx
  |mk l=>
   obtain⟨bp,els,he,r⟩:=hv
   generalize hv0:eval tb f a=v at bp he
   cases v<;>simp only[Mc]at bp
   ·rename_i sz' els'
    simp only[E4]at he
    split at he
    ·rename_i hsz
     simp only[ae]at he
     subst he
     subst hsz hs
     obtain⟨cs,hc,hr⟩:=r.get hx
     have hlt:i.toNat<els'.length:=by
      rcases dq i.toNat els'.length with h|h
      ·exact h
      ·rw[f9 h]at hc;cases hc
     refine⟨.ip cs 0,none,?_,rfl,?_⟩
     ·simp only[BC,BX.1 (hb E rv fp f H R),HE,aa,qn h0,SD,hv0,E4,qt,hlt,hc,an,val]
     ·refine⟨(uD hu hr).symm,?_,?_⟩
      ·rw[uD hu hr]
       have:=t.men (m:=0) hr (fun _ hi=>hi.elim)
       simp only[Cc];omega
      ·rw[uD hu hr];rfl
    ·cases he
   all_goals exact bp.elim
 ·cases hx
theorem h_ldP{t:T}{x:t.α}{ag:Bool}{n:Nat}(hag:ag=t.agg)(hn:n=t.sz)(ha:Cd tb Γ a (.con (adr t x))):Fa tb Γ (.ld ag n a) (some ()) fun _=> .val t x:=by
 rintro E rv fp f H R z ⟨⟩
 obtain⟨e,_,hs⟩:=ha E rv fp f H R
 obtain⟨cs,h1,h2⟩:=adr_inv hs
 subst hag hn
 obtain⟨v,g1,g2⟩:=ov h2
 have hl:=t.len h2
 have hsub:sub cs 0 t.sz=cs:=by simp only[sub,db];exact av (by omega)
 refine⟨v,none,?_,rfl,g2.mono fun _ hi=>hi.elim⟩
 simp only[BC,e,h1,load,place,aa,da,hl,be,qt,hsub,g1,val,an]
end
def NPs:List T→Prop
 |[]=>True
 |t::l=>t.NP∧NPs l
theorem TK.np{P:Nat→Prop}{H:Az}: ∀{l:List T} {vs:List AV} {x:Cl l},NPs l→TK P H l vs x→TK X1 H l vs x
 |[],_,_,_,h=>h
 |[_],_,_,n,⟨v,e,h⟩=>⟨v,e,T.NP.V n.1 h⟩
 |_::_::_,_,_,n,⟨v,w,e,h,r⟩=>⟨v,w,e,T.NP.V n.1 h,TK.np n.2 r⟩
theorem LE{tb:Di}{g:Nat}{As:List T}{t:T}{F:Cl As→Option (Cl [t])}(n:NPs As)(sp:Spec tb g As [t] F):Spec tb g As [Io t] F:=by
 intro P h args xs _ hwf hargs r hr
 obtain⟨v,u,h1,h2,vs,e,w,e2,h3⟩:=(sp X1 h args xs (fun _ hi=>hi.elim) hwf (hargs.np n) r hr).call
 exact⟨v,u,h1,h2,vs,e,w,e2,aP h3⟩
theorem IP{tb:Di}{g:Nat}{As:List T}{t u:T}{F:Cl As→Option (Cl [t,u])}(n:NPs As)(m:u.NP)(sp:Spec tb g As [t,u] F):Spec tb g As [Io t,u] F:=by
 intro P h args xs _ hwf hargs r hr
 obtain⟨v,u',h1,h2,vs,e,w,w',e2,h3,h4⟩:=(sp X1 h args xs (fun _ hi=>hi.elim) hwf (hargs.np n) r hr).call
 exact⟨v,u',h1,h2,vs,e,w,w',e2,aP h3,TK.mono (fun _ hi=>hi.elim) h4⟩
end
end Go.Proofs.YtobejhpigbllpaaGreatDoor.Am
