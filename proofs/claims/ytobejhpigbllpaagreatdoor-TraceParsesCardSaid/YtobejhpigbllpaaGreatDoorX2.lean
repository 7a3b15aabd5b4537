/-
  A call of the machine's is the model's.
  Functions that the machine takes as they are said: those that the model knows as entries of its own.
  Entries of the model's that the machine takes as they are said: a byte's place in bytes, how often it is there.
  What operations come to, on typed values: calls, equality, arrays.
  What operations come to, on typed values: pointers that are only read through.
  A text's runes, one behind another one.
  Regions whose order is drawn, where each operation that reads memory has one place.
  strings.Builder: what its methods come to, on a builder in memory of its own.
  strings.Builder: a builder in memory of its own as one thing, its bytes.
  Values that are kept: functions, structures with functions; calls whose code is walked in place.
  Calls whose code is walked in place.
  What operations come to, on kept values: rows of them, variables with parts, loops that are unrolled.
  Tests that wait for others, by cases; slices of arrays; literals of arrays; tables.
  Tests that wait inside regions whose order is drawn; tables; maps.
  Ways that meet again, each walked once: what comes behind them is told apart from them.
  strings.Builder's grow as a function that the machine takes as it is said.
  strings.Builder: room from the start.
  Variables in parts; what is cleared of a row.
  Slices of one's own cells that are handed on as they are; a slice as an array; tests that write.
  strconv.ParseUint(s, 10, 64) as a function that the machine takes as it is said.
  Functions that the machine takes as they are said, as typed ones.
  What a law is given, as the machine's values: a reading is a value of the type, all of it memory that nobody writes.
  A law's row, out of what the machine comes to.
  From the model's values to typed ones; a law that answers true.
  Values that lead to no memory: which value it is, is told by what it says.
  Structures, as Lean's and as types of the machine's. Printed by mkwalk.py.
-/
import Derived.Laws.Sem
import GoSem.Extern.Table
import Derived.Lib.Bytealg
import Derived.Lib.MakeNoZero
import Derived.Below
import Derived.Lib.ParseIntBCases
import Derived.Lib.Index
import Derived.ProofKit
import Derived.Deep.Slices
import Derived.DataReads
import Derived.Carry
import Derived.Test.YtobejhpigbllpaaGreatDoorX1
namespace Go.Proofs.YtobejhpigbllpaaGreatDoor.Am
section
variable{T:H6→Oper→Bool}{P:Program}{tb:Dh}{cl:Nat→List AV→Ay→Lk}{nt:Nat}
theorem TW{D:DP}(I:Inv tb D){n id:Nat}(hid:id<D.H.length)(h: ¬id<n): ¬(D.cut n).own (D.φ id).blk:=by
 rintro⟨j,hj,e⟩
 simp only[DP.cut,List.length_take]at hj
 have:=I.inj j id (by omega) hid e
 omega
theorem gC{D:DP}{n:Nat}{v:AV}{x:Value}(h:BR v≤n)(r:HA D v x):HA (D.cut n) v x∧(scal v=true→scal v=true):=⟨r.cut h,fun h=>h⟩
def yD(D:DP)(n:Nat)(F:AV→Option AV):Prop:= ∀(v v':AV) (x:Value),F v=some v'→HA D v x→HA (D.cut n) v' x∧(scal v=true→scal v'=true)
theorem LC{D:DP}{n:Nat}{F:AV→Option AV}(hF:yD D n F): ∀{l l':List AV} {xs:List Value},DS F l=some l'→B0 D l xs→B0 (D.cut n) l' xs∧(l.all scal=true→l'.all scal=true)∧l'.length=l.length
 |[],_,_,h,r=>by
  simp only[DS,Option.some.injEq]at h
  subst h
  exact⟨r,fun h=>h,rfl⟩
 |v::l,_,_,h,⟨x,q,e,r,rr⟩=>by
  simp only[DS]at h
  obtain⟨v',hv,h⟩:=Option.bind_eq_some_iff.1 h
  obtain⟨l',hl,rfl⟩:=Option.map_eq_some_iff.1 h
  obtain⟨h1,h2⟩:=hF _ _ _ hv r
  obtain⟨h3,h4,h5⟩:=LC hF hl rr
  refine⟨⟨x,q,e,h1,h3⟩,fun hs=> ?_,by simp[h5]⟩
  simp only[List.all_cons,Bool.and_eq_true]at hs ⊢
  exact⟨h2 hs.1,h4 hs.2⟩
theorem Of{D:DP}{n sz:Nat}{F:AV→Option AV}(hF:yD D n F): ∀{l l':List (List AV)} {xs:List (List Value)},DS (DS F) l=some l'→Bi D l xs→(∀e∈l,e.length=sz∧e.all scal=true)→
  Bi (D.cut n) l' xs∧(∀e∈l',e.length=sz∧e.all scal=true)∧l'.length=l.length
 |[],_,_,h,r,_=>by
  simp only[DS,Option.some.injEq]at h
  subst h
  exact⟨r,fun e h=>(by cases h),rfl⟩
 |v::l,_,_,h,⟨x,q,e,r,rr⟩,hs=>by
  simp only[DS]at h
  obtain⟨v',hv,h⟩:=Option.bind_eq_some_iff.1 h
  obtain⟨l',hl,rfl⟩:=Option.map_eq_some_iff.1 h
  obtain⟨h1,h2,h6⟩:=LC hF hv r
  obtain⟨h3,h4,h5⟩:=Of hF hl rr fun e he=>hs e (List.mem_cons_of_mem _ he)
  refine⟨⟨x,q,e,h1,h3⟩,fun e he=> ?_,by simp[h5]⟩
  have h0:=hs v List.mem_cons_self
  rcases List.mem_cons.1 he with rfl|he
  ·exact⟨h6.trans h0.1,h2 h0.2⟩
  ·exact h4 e he
theorem bD{D:DP}(I:Inv tb D){n:Nat}: ∀d,yD D n (frz D.H n d)
 |0=>fun v v' x h r=>by
  simp only[frz]at h
  split at h
  ·rename_i hm
   obtain rfl:=Option.some.inj h
   exact gC hm r
  ·cases h
 |d+1=>fun v v' x h r=>by
  simp only[frz]at h
  split at h
  ·rename_i hm
   obtain rfl:=Option.some.inj h
   exact gC hm r
  ·rename_i hm
   have ih:=bD I (n:=n) d
   split at h
   ·rename_i id k lo len
    have hid: ¬id<n:=by simp only[BR]at hm;omega
    obtain⟨_,fz,sz,els,hg,hle,q⟩:=r
    simp only[hg,Option.bind_some]at h
    split at h
    ·rename_i hc
     obtain⟨hk,hlo⟩:=hc
     obtain⟨els',he,rfl⟩:=Option.map_eq_some_iff.1 h
     refine⟨?_,fun _=>rfl⟩
     obtain⟨_,off,cap,rfl,hlc,hoff,_,_⟩:=q hk
     obtain⟨tl,hg',hlab⟩:=Kp hg
     obtain⟨vss,arr,et,fr,⟨h1,_⟩,h2,h3,h4,h5,h6,h7,h8,h9⟩:=I.obj id _ hg'
     have hlens:=Bi.lens (fun x hx=>(h4 x hx).1) h5
     have hlen:((els.drop lo).take len).length=len:=by simp only[List.length_take,List.length_drop];omega
     obtain⟨q1,q2,q3⟩:=Of (sz:=sz) ih he (h5.drop.take) fun e he=>h4 e (List.mem_of_mem_drop (List.mem_of_mem_take he))
     refine .inl ⟨(D.φ id).blk,off,cap,(vss.drop lo).take len,by rw[q3,hlen],by rw[q3,hlen];exact hlc,I.lt id (Bj hg'),TW I (Bj hg') hid,?_,q2,q1⟩
     intro j v hj
     have hpos:0<len:=by
      rcases Nat.eq_zero_or_pos len with h|h
      ·subst h;simp at hj
      ·exact h
     rw[hoff hpos]
     have hh:=h7.sub (lo*sz) (len*sz)
     refine hh j v ?_
     rw[EW (sz:=sz) _ _ (fun x hx=>hlens x (List.mem_of_mem_drop hx)),FM (sz:=sz) _ _ hlens]at hj
     exact hj
    ·cases h
   ·rename_i sz id off len
    have hid: ¬id<n:=by simp only[BR]at hm;omega
    obtain⟨_,o,cap,rfl,hlc,hoff,hsz⟩:=r
    obtain⟨cs,hc,h⟩:=Option.bind_eq_some_iff.1 h
    split at h
    ·rename_i hcond
     obtain⟨els',he,rfl⟩:=Option.map_eq_some_iff.1 h
     refine⟨?_,fun _=>rfl⟩
     obtain⟨tl,hg,hlab⟩:=N9 hc
     obtain⟨vs,arr,et,fr,⟨h1,_⟩,h2,h3,h4,h5,h6⟩:=I.obj id _ hg
     obtain⟨c1,c2,vss,c3,c4⟩:=Ux (C:=D) sz len (cs.drop off) (vs.drop off) D.w (D.φ id).blk off (by
      simp only[List.all_eq_true]at h3 ⊢
      exact fun x hx=>h3 x (List.mem_of_mem_drop hx)) h4.drop (by
      have:=h5.sub off (vs.drop off).length
      rw[Nat.zero_add]at this
      rwa [List.take_of_length_le (Nat.le_refl _)]at this) (by simp only[List.length_drop];omega)
     obtain⟨q1,q2,q3⟩:=Of (sz:=sz) ih he c4 c2
     refine .inl ⟨(D.φ id).blk,o,cap,vss,by rw[q3,c1],by rw[q3,c1];exact hlc,I.lt id (Bj hg),TW I (Bj hg) hid,?_,q2,q1⟩
     intro j v hj
     have hpos:0<len:=by
      rcases Nat.eq_zero_or_pos len with h|h
      ·subst h
       simp only[BO]at c4
       rw[show vss=[]from c4]at hj
       simp at hj
      ·exact h
     rw[hoff hpos]
     exact c3 j v hj
    ·cases h
   ·rename_i sz els
    obtain⟨els',he,rfl⟩:=Option.map_eq_some_iff.1 h
    refine⟨?_,fun _=>rfl⟩
    rcases r with ⟨b,base,cap,vss,rfl,hlc,hlt,hown,hh,hs,hr⟩|⟨rfl,p,cap,rfl⟩
    ·obtain⟨q1,q2,q3⟩:=Of (sz:=sz) ih he hr hs
     exact .inl ⟨b,base,cap,vss,by rw[q3],by rw[q3];exact hlc,hlt,Qi hown,hh,q2,q1⟩
    ·simp only[DS,Option.some.injEq]at he
     subst he
     exact .inr ⟨rfl,p,cap,rfl⟩
   ·rename_i cs
    obtain⟨vs,e,s,q⟩:=r
    obtain⟨cs',hc,rfl⟩:=Option.map_eq_some_iff.1 h
    obtain⟨h1,h2,_⟩:=LC ih hc q
    exact⟨⟨vs,e,h2 s,h1⟩,fun h=>by simp[scal]at h⟩
   ·rename_i cs
    obtain⟨vs,e,q⟩:=r
    obtain⟨cs',hc,rfl⟩:=Option.map_eq_some_iff.1 h
    exact⟨⟨vs,e,(LC ih hc q).1⟩,fun h=>by simp[scal]at h⟩
   ·cases h
theorem wK{D:DP}(I:Inv tb D){n:Nat}{l l':List AV}{xs:List Value}(h:bE D.H n l=some l')(r:B0 D l xs):B0 (D.cut n) l' xs∧(l.all scal=true→l'.all scal=true):=
 ⟨(LC (bD I 12) h r).1,(LC (bD I 12) h r).2.1⟩
theorem eV{C D:DP}(X:KU C D)(I:Inv tb D)(hg: ∀g cs,tb.gl g=some cs→Bx cs=0){vs:List AV}{xs:List Value}(h:B0 D vs xs):
  ∃D':DP,KU C D'∧Inv tb D'∧D'.w=D.w∧D'.H=(Ws C.H.length D.H vs).2.getD C.H∧HA D' (Ws C.H.length D.H vs).1 (dZ xs):=by
 unfold Ws
 split
 ·rename_i vs' hf
  split
  ·rename_i hm
   exact⟨D.cut C.H.length,X.cut (Nat.le_refl _),I.cut hm hg,rfl,rfl,NV (wK I hf h).1⟩
  ·exact⟨D,X,I,rfl,rfl,NV h⟩
 ·exact⟨D,X,I,rfl,rfl,NV h⟩
theorem kC{C D:DP}(X:KU C D)(I:Inv tb D)(hg: ∀g cs,tb.gl g=some cs→Bx cs=0){warm:Bool}{vs:List AV}{xs:List Value}(h:B0 D vs xs):
  ∃D':DP,KU C D'∧Inv tb D'∧D'.w=D.w∧D'.H=(Wb warm C.H.length D.H vs).2.getD C.H∧HA D' (Wb warm C.H.length D.H vs).1 (dZ xs):=by
 cases warm
 ·exact eV X I hg h
 ·exact⟨D,X,I,rfl,rfl,NV h⟩
theorem fZ: ∀(l:List AV) (k t:Nat),get ((l.zipIdx k).map fun p=>(p.2,p.1)) t=if k≤t then l[t-k]?.getD .junk else .junk
 |[],k,t=>by simp[get]
 |v::l,k,t=>by
  simp only[List.zipIdx_cons,List.map_cons,get]
  rw[fZ l (k+1) t]
  by_cases h:k=t
  ·subst h;simp
  ·rw[if_neg h]
   by_cases h1:k≤t
   ·rw[if_pos (show k+1≤t by omega),if_pos h1,show t-k=(t-(k+1))+1 by omega]
    simp
   ·rw[if_neg (by omega),if_neg h1]
theorem AaI{C:DP}{args:List AV}{vs:List Value}(h:B0 C args vs){m:Nat}(hm:args.length≤m):
  BK C (args.zipIdx.map fun p=>(p.2,p.1)) {tmps:=vs.toArray++Array.replicate (m-vs.toArray.size) undef,defers:=[]} m:=by
 have hl:=h.length
 refine⟨fun t=> ?_,by simp;omega,rfl⟩
 rw[fZ,if_pos (Nat.zero_le _),Nat.sub_zero]
 cases ht:args[t]? with
 |none=>trivial
 |some v=>
  obtain⟨x,hx,r⟩:=h.get ht
  have:t<vs.length:=Bj hx
  simp only[Option.getD_some,Array.getD_eq_getD_getElem?]
  rw[Array.getElem?_append_left (by simpa using this)]
  simpa [hx]using r
theorem YY{fn:D9}{g:Nat}(h:B9 T P fn g=true): ∃(F:Func) (c:Code),P.funcs[g]? =some F∧F.body=some c∧Rg T fn.nt fn.body c=true∧(F.name== "runtime.NumGoroutine")=false∧fn.nt=F.ntmps∧fn.np≤fn.nt∧
  Pp P fn.res F.results.toList=true:=by
 unfold B9 at h
 split at h
 ·rename_i F hF
  simp only[Bool.and_eq_true,Bool.not_eq_true',beq_iff_eq,decide_eq_true_eq]at h
  obtain⟨⟨⟨⟨h1,h2⟩,h3⟩,h4⟩,h5⟩:=h
  split at h1
  ·rename_i c hc
   exact⟨F,c,hF,hc,h1,h2,h3,h4,h5⟩
  ·cases h1
 ·cases h
theorem Xv(hm:P.follows .mixedOrders=true)(hT: ∀ao o,T ao o=true→EC P tb ao o)(hcl:Fw P tb fun g args h=>B8 tb cl h g args)(hg: ∀g cs,tb.gl g=some cs→Bx cs=0)
  {fn:D9} {g:Nat} (hok:B9 T P fn g=true) {C:DP} {args:List AV} {vs:List Value} {r:AV×Option Ay} (I:Inv tb C) (hr:B0 C args vs) (h:body tb cl fn args C.H=some r):
  Calls P g vs.toArray C.w (pF tb C r):=by
 obtain⟨F,c,hF,hc,h1,h2,h3,h4,h5⟩:=YY hok
 simp only[body]at h
 split at h
 ·rename_i hnp
  obtain⟨⟨e,f,h'⟩,he,h⟩:=Option.bind_eq_some_iff.1 h
  refine calls_of_wp hF hc ?_
  rw[←h3]
  refine mA hm hT hcl hg fn.body c h1 he I (AaI hr (by omega)) fun D a' N=> ?_
  obtain⟨X,ID,hH,FD⟩:=N
  have fin: ∀us,results f h' fn.res=some us→Wb fn.warm C.H.length h' us=r→ ∃v,(Go.results F a'.tmps).run P D.w= .ok v D.w∧pF tb C r (.returned v) D.w:=by
   intro us hus hl
   rw[←hH]at hus hl
   obtain⟨xs,hx,rx⟩:=dP ID FD h5 hus
   obtain⟨D',X',I',hw,hH',r'⟩:=kC (warm:=fn.warm) X ID hg rx
   rw[hl]at hH' r'
   exact⟨_,hx,_,D',rfl,X',I',hw,hH',r'⟩
  cases e with
  |exit id=>simp at h
  |normal=>
   obtain⟨us,hus,hl⟩:=Option.map_eq_some_iff.1 h
   exact⟨FD.defers,fin us hus hl⟩
  |ret=>
   obtain⟨us,hus,hl⟩:=Option.map_eq_some_iff.1 h
   exact⟨FD.defers,fin us hus hl⟩
 ·cases h
structure AaZ(T:H6→Oper→Bool)(P:Program)(tb:Dh):Prop where
 mixed:P.follows .mixedOrders=true
 ops: ∀ao o,T ao o=true→EC P tb ao o
 prims:pE P tb
 gl: ∀g cs,tb.gl g=some cs→Bx cs=0
 fns: ∀g fn,tb.fns g=some fn→B9 T P fn g=true
theorem hX{fn:D9}{g:Nat}(hok:B9 T P fn g=true)(vs:Array Value)(w:World):(callFunc g vs).run P w= .ok (.enter g vs) w:=by
 obtain⟨F,c,hF,hc,_,h2,_⟩:=YY hok
 have h2': ¬F.name= "runtime.NumGoroutine" :=by simpa using h2
 simp[callFunc,hF,hc,h2']
theorem YK(ft:AaZ T P tb): ∀n,Fw P tb (run tb n)
 |0=>fun g C args vs r I hr h=>by simp[run]at h
 |n+1=>fun g C args vs r I hr h=>by
  simp only[run]at h
  obtain⟨fn,hfn,h⟩:=Option.bind_eq_some_iff.1 h
  have hok:=ft.fns g fn hfn
  exact .inr ⟨g,vs.toArray,hX hok _ _,Xv ft.mixed ft.ops (OM ft.prims (YK ft n)) ft.gl hok I hr h⟩
theorem sA(ft:AaZ T P tb){g:Nat}{C:DP}{args:List AV}{vs:List Value}{r:AV×Option Ay}(I:Inv tb C)(hr:B0 C args vs)(h:C5 tb g args C.H=some r):Calls P g vs.toArray C.w (pF tb C r):=by
 unfold C5 at h
 split at h
 ·generalize Classical.choose _=n at h
  cases n with
  |zero=>simp[run]at h
  |succ n=>
   simp only[run]at h
   obtain⟨fn,hfn,h⟩:=Option.bind_eq_some_iff.1 h
   exact Xv ft.mixed ft.ops (OM ft.prims (YK ft n)) ft.gl (ft.fns g fn hfn) I hr h
 ·cases h
end
end Go.Proofs.YtobejhpigbllpaaGreatDoor.Am
namespace Go.Proofs.YtobejhpigbllpaaGreatDoor.Am
def lZ(P:Program)(g:Nat):Option (Array Value→Sem Value):=
 match P.funcs[g]? with
 |some fn=>if !(fn.name== "runtime.NumGoroutine")&&fn.body.isNone&&(Extern.findNext fn).isNone then Extern.find fn else none
 |none=>none
def cE(h:Ay):AV→Option (List UInt8)
 | .s l=>some l
 |v=>(ER h 1 v).bind EX
section
variable{P:Program}{tb:Dh}{C:DP}
theorem nS{g:Nat}{e:Array Value→Sem Value}(he:lZ P g=some e){vs:Array Value}{v:Value}{w:World}(h:(e vs).run P w= .ok v w):(callFunc g vs).run P w= .ok (.value v) w:=by
 unfold lZ at he
 split at he
 ·rename_i fn hf
  split at he
  ·rename_i hc
   simp only[Bool.and_eq_true,Bool.not_eq_true',Option.isNone_iff_eq_none]at hc
   obtain⟨⟨h1,h2⟩,h3⟩:=hc
   have h2':fn.body.isNone=true:=by rw[h2];rfl
   simp only[callFunc,Sem.run_bind,run_program,Result.andThen_ok,hf,h1,Bool.false_eq_true,if_false,h2',if_true,run_mark,h3,he,h,Sem.run_pure]
  ·cases he
 ·cases he
theorem sE{e:List AV}{r:List (List AV)}{l:List UInt8}(h:EX (e::r)=some l): ∃n q,e=[.i .u8 n]∧EX r=some q∧l=UInt8.ofNat n.toNat::q:=by
 unfold EX at h
 split at h
 ·rename_i he;cases he
 ·rename_i n r' he
  cases he
  obtain⟨q,hq,rfl⟩:=Option.map_eq_some_iff.1 h
  exact⟨n,q,rfl,hq,rfl⟩
 ·cases h
theorem tN(w:World)(b:Nat): ∀(els:List (List AV)) (vss:List (List Value)) (l:List UInt8) (o:Nat) (acc:ByteArray),Bi C els vss→EX els=some l→En w b o vss.flatten→
  (Extern.Bytes.loadBytes ⟨b,o,none⟩ els.length acc).run P w= .ok ⟨acc.data++l.toArray⟩ w
 |[],_,l,o,acc,_,h,_=>by
  simp only[EX,Option.some.injEq]at h
  subst h
  simp[Extern.Bytes.loadBytes]
 |e::els,vss,l,o,acc,⟨v,q,e1,r1,r2⟩,h,hh=>by
  subst e1
  obtain⟨n,l',rfl,hl,rfl⟩:=sE h
  obtain⟨u,us,e2,ru,e3⟩:=r1
  have e3':us=[]:=e3
  have ru':u= .int .u8 n:=ru
  subst e3';subst e2;subst ru'
  have h0:w.cell? ⟨b,o,none⟩=some (.int .u8 n):=by
   have:=hh 0 (.int .u8 n) (by simp)
   simpa using this
  have hn:(⟨b,o,none⟩:Addr).add 1=⟨b,o+1,none⟩:=rfl
  have ih:=tN w b els q l' (o+1) (acc.push n.toNat.toUInt8) r2 hl (fun j v hj=>by
   have:=hh (j+1) v (by simpa using hj)
   rw[show o+1+j=o+(j+1) by omega]
   exact this)
  simp only[List.length_cons,Extern.Bytes.loadBytes,Sem.run_bind,run_load,h0,Result.andThen_ok,hn,ih]
  congr 1
  apply ByteArray.ext
  simp[ByteArray.push,Nat.toUInt8]
theorem pR(I:Inv tb C){x:AV}{v:Value}{l:List UInt8}(r:HA C x v)(h:cE C.H x=some l):(Extern.Bytes.bytesOf v).run P C.w= .ok ⟨l.toArray⟩ C.w:=by
 have slc:(ER C.H 1 x).bind EX=some l→(Extern.Bytes.bytesOf v).run P C.w= .ok ⟨l.toArray⟩ C.w:=by
  intro h
  obtain⟨els,he,hl⟩:=Option.bind_eq_some_iff.1 h
  rcases bT I (by omega) r he with ⟨rfl,e⟩|⟨q,cap,vss,e,hlc,hh,hs,hr⟩
  ·subst e
   simp only[EX,Option.some.injEq]at hl
   subst hl
   rfl
  ·subst e
   by_cases hne:els=[]
   ·subst hne
    simp only[EX,Option.some.injEq]at hl
    subst hl
    rfl
   ·obtain⟨b,base,rfl,hh2⟩:=hh hne
    have:=tN (P:=P) (C:=C) C.w b els vss l base .empty hr hl hh2
    simp only[Extern.Bytes.bytesOf,this]
    congr 1
    apply ByteArray.ext
    show(#[]:Array UInt8)++l.toArray=l.toArray
    simp
 cases x<;>simp only[cE]at h<;>try exact slc h
 obtain rfl:=Option.some.inj h
 have e:v= .string ⟨_⟩:=r
 subst e
 rfl
end
end Go.Proofs.YtobejhpigbllpaaGreatDoor.Am
namespace Go.Proofs.YtobejhpigbllpaaGreatDoor.Am
def N2(l:List UInt8)(c:UInt8):Int:=match l.findIdx? (fun x=>x==c)with
 |some i=>(i:Int)
 |none=> -1
def xJ:AV→Option UInt8
 | .i .u8 n=>some (UInt8.ofNat n.toNat)
 |_=>none
def eA(f:List UInt8→UInt8→Int):List AV→Ay→Option (AV×Option Ay)
 |[x,y],h=>(xJ y).bind fun c=>(cE h x).map fun a=>(.i .i64 (f a c),none)
 |_,_=>none
def Wj:List AV→Ay→Option (AV×Option Ay):=eA N2
theorem find_range{l:List UInt8}{c:UInt8}:((List.range l.length).find? fun i=>l.toArray[i]! ==c)=l.findIdx? (fun x=>x==c):=by
 have key: ∀(m:List UInt8) (k:Nat),k+m.length=l.length→(∀i,m[i]? =l[k+i]?)→((List.range' k m.length).find? fun i=>l.toArray[i]! ==c)=(m.findIdx? (fun x=>x==c)).map (k+ ·):=by
  intro m
  induction m with
  |nil=>intro k _ _;rfl
  |cons x m ih=>
   intro k hk he
   have h0:l.toArray[k]! =x:=by
    have:=he 0
    simp only[List.getElem?_cons_zero,Nat.add_zero]at this
    simp[←this]
   rw[List.length_cons,List.range'_succ,List.find?_cons,h0,List.findIdx?_cons]
   cases hx:x==c with
   |true=>simp
   |false=>
    simp only[Bool.false_eq_true,if_false]
    rw[ih (k+1) (by simp at hk;omega) (fun i=>by have:=he (i+1);simp only[List.getElem?_cons_succ]at this;rw[this];congr 1;omega)]
    cases m.findIdx? (fun x=>x==c)with
    |none=>rfl
    |some i=>simp;omega
 have:=key l 0 (by simp) (fun i=>by simp)
 rw[List.range_eq_range',this]
 cases l.findIdx? (fun x=>x==c)<;>simp
theorem tO{l:List UInt8}{c:UInt8}:(match(List.range (⟨l.toArray⟩:ByteArray).size).find? fun i=>(⟨l.toArray⟩:ByteArray)[i]! ==c with
  |some i=>goInt i
  |none=>goInt (-1))= .int .i64 (N2 l c):=by
 have h:(List.range (⟨l.toArray⟩:ByteArray).size).find? (fun i=>(⟨l.toArray⟩:ByteArray)[i]! ==c)=l.findIdx? (fun x=>x==c):=by
  rw[←find_range]
  congr 1
  funext i
  congr 1
  by_cases hi:i<l.length
  ·rw[getElem!_pos _ _ (by simpa [ByteArray.size]using hi),getElem!_pos _ _ (by simpa using hi)];rfl
  ·rw[getElem!_neg _ _ (by simpa [ByteArray.size]using hi),getElem!_neg _ _ (by simpa using hi)]
 rw[h]
 unfold N2
 cases l.findIdx? (fun x=>x==c)<;>rfl
section
variable{P:Program}{tb:Dh}
theorem qI{g:Nat}{f:List UInt8→UInt8→Int}{e:Array Value→Sem Value}(he:lZ P g=some e)
  (hf: ∀(v:Value) (n:Int) (l:List UInt8) (w:World),(Extern.Bytes.bytesOf v).run P w= .ok ⟨l.toArray⟩ w→(e #[v, .int .u8 n]).run P w= .ok (.int .i64 (f l (UInt8.ofNat n.toNat))) w):Fw P tb fun g' args h=>if g'=g then eA f args h else none:=by
 intro g' D args vs r I hr h
 dsimp only at h
 split at h
 ·rename_i hg
  subst hg
  unfold eA at h
  split at h
  ·rename_i hh x y
   obtain⟨v,vs',e1,r1,v2,vs2,e2,r2,e3⟩:=hr
   have e3':vs2=[]:=e3
   subst e3';subst e2;subst e1
   obtain⟨c,hc,h⟩:=Option.bind_eq_some_iff.1 h
   obtain⟨a,ha,rfl⟩:=Option.map_eq_some_iff.1 h
   unfold xJ at hc
   cases y with
   |i k n=>
    have r2':v2= .int k n:=r2
    subst r2'
    cases k<;>simp only[reduceCtorEq,Option.some.injEq]at hc
    subst hc
    exact .inl (A6 I (v:= .int .i64 (f a (UInt8.ofNat n.toNat))) (nS he (hf v n a D.w (pR (P:=P) I r1 ha))) rfl)
   |_=>cases hc
  ·cases h
 ·cases h
theorem We{g:Nat}(he:lZ P g=some Extern.BytealgIndexByte.indexByte):Fw P tb fun g' args h=>if g'=g then Wj args h else none:=
 qI he fun v n l w h=>by
  change Sem.run P (do
   let b←Extern.Bytes.bytesOf v
   let c←Extern.Bytes.asByte (.int .u8 n)
   match(List.range b.size).find? fun i=>b[i]! ==c with
   |some i=>pure (goInt i)
   |none=>pure (goInt (-1))) w=_
  simp only[Sem.run_bind,h,Result.andThen_ok,Extern.Bytes.asByte,Sem.run_pure]
  have:=tO (l:=l) (c:=UInt8.ofNat n.toNat)
  have hc:n.toNat.toUInt8=UInt8.ofNat n.toNat:=rfl
  rw[hc]
  split<;>rename_i hx<;>rw[hx]at this<;>simp only[]at this<;>rw[←this]<;>rfl
end
def OF:List AV→Ay→Option (AV×Option Ay)
 |[x],_=>some (x,none)
 |_,_=>none
theorem qG{P:Program}{tb:Dh}{g:Nat}(he:lZ P g=some Extern.AbiNoEscape.same):Fw P tb fun g' args h=>if g'=g then OF args h else none:=by
 intro g' D args vs r I hr h
 dsimp only at h
 split at h
 ·rename_i hg
  subst hg
  unfold OF at h
  split at h
  ·cases h
   obtain⟨v,vs',e1,r1,e3⟩:=hr
   have e3':vs'=[]:=e3
   subst e3';subst e1
   exact .inl (A6 I (v:=v) (nS he rfl) r1)
  ·cases h
 ·cases h
end Go.Proofs.YtobejhpigbllpaaGreatDoor.Am
namespace Go.Proofs.YtobejhpigbllpaaGreatDoor.Am
section
variable{tb:Dh}{Γ:Cx}{a b:AO}
inductive cR(tb:Dh)(Γ:Cx):(As:List T)→List AO→CG As→Prop where
 |nil:cR tb Γ [] [] ()
 |one {a:AO} {t:T} {x:t.α} (h:Cq tb Γ a (.val t x)):cR tb Γ [t] [a] x
 |cons {a:AO} {t u:T} {x:t.α} {As:List T} {l:List AO} {y:CG (u::As)} (h:Cq tb Γ a (.val t x)) (k:cR tb Γ (u::As) l y):cR tb Γ (t::u::As) (a::l) (x,y)
theorem cR.spec{E:PN}{rv:Nat→AV}{fp:Fp}{f:Fr}{H:Ay}(R:B1 E Γ rv fp f H): ∀{As:List T} {l:List AO} {x:CG As},cR tb Γ As l x→R8 (Pf E Γ.ss fp H) H As (l.map (eval tb f)) x
 |_,_,_, .nil=>rfl
 |_,_,_, .one h=>⟨_,rfl,h E rv fp f H R⟩
 |_,_,_, .cons h k=>⟨_,_,rfl,h E rv fp f H R,k.spec R⟩
def sR:(Rs:List T)→CG Rs→List (Σ t:T,t.α)
 |[],_=>[]
 |[a],x=>[⟨a,x⟩]
 |a::b::r,x=>⟨a,x.1⟩::sR (b::r) x.2
theorem dC{P:Nat→Prop}{H:Ay}: ∀{Rs:List T} {vs:List AV} {x:CG Rs},R8 P H Rs vs x→SH P H vs (sR Rs x)
 |[],_,_,h=>by rw[show _=[]from h];trivial
 |[a],_,_,⟨v,e,h⟩=>by rw[e];exact⟨h,trivial⟩
 |a::b::r,_,_,⟨v,q,e,h,g⟩=>by rw[e];exact⟨h,dC g⟩
def tY:(Rs:List T)→CG Rs→AK
 |[a],x=> .val a x
 |Rs,x=> .tup (sR Rs x)
theorem Wk{rv:Nat→AV}{ss:Ss}{P:Nat→Prop}{H:Ay}{v:AV}: ∀{Rs:List T} {x:CG Rs},OutR P H Rs v x→FR rv ss P H (tY Rs x) v
 |[],_,⟨vs,e,h⟩=>by rw[e,show vs=[]from h];exact⟨[],rfl,trivial⟩
 |[a],_,⟨vs,e,v,e',h⟩=>by rw[e,e'];exact h
 |a::b::r,_,⟨vs,e,h⟩=>by
  have hh:=h
  obtain⟨v1,q,e1,h1,h2⟩:=h
  have: ∃v2 q2,q=v2::q2:=by
   cases r with
   |nil=>obtain⟨v2,e2,_⟩:=h2;exact⟨v2,[],e2⟩
   |cons c r=>obtain⟨v2,q2,e2,_⟩:=h2;exact⟨v2,q2,e2⟩
  obtain⟨v2,q2,e2⟩:=this
  refine⟨vs,?_,dC hh⟩
  rw[e,e1,e2];rfl
theorem wC{g:Nat}{As Rs:List T}{F:CG As→Option (CG Rs)}{l:List AO}{x:CG As}(sp:Spec tb g As Rs F)(hx:cR tb Γ As l x):EY tb Γ (.call g l) (F x) fun r=>tY Rs r:=by
 intro E rv fp f H R r hr
 obtain⟨v,u,h1,h2,h3⟩:=(sp (Pf E Γ.ss fp H) H _ x R.ltP R.wf (hx.spec R) r hr).call
 exact⟨v,u,by simp only[B6];exact h1,h2,Wk h3⟩
theorem AN{g:Nat}{As:List T}{t:T}{F:CG As→Option (CG [t])}{l:List AO}{x:CG As}(sp:Spec tb g As [t] F)(hx:cR tb Γ As l x):EY tb Γ (.call g l) (F x) fun r:t.α=> .val t r:=wC sp hx
theorem Bn{g:Nat}{As:List T}{t u:T}{Rs:List T}{F:CG As→Option (CG (t::u::Rs))}{l:List AO}{x:CG As}(sp:Spec tb g As (t::u::Rs) F)(hx:cR tb Γ As l x):EY tb Γ (.call g l) (F x) fun r=> .tup (sR (t::u::Rs) r):=wC sp hx
theorem AY{l:List (Σ t:T,t.α)}{i:Nat}{t:T}{x:t.α}(ha:Cq tb Γ a (.tup l))(h:l[i]? =some ⟨t,x⟩):EY tb Γ (.ext a i) (some ()) fun _=> .val t x:=by
 rintro E rv fp f H R _ ⟨⟩
 obtain⟨vs,e,hv⟩:=ha E rv fp f H R
 have: ∀{vs:List AV} {l:List (Σ t:T,t.α)} {i:Nat} {p: Σ t:T,t.α},SH (Pf E Γ.ss fp H) H vs l→l[i]? =some p→ ∃v,vs[i]? =some v∧p.1.V (Pf E Γ.ss fp H) H v p.2:=by
  intro vs
  induction vs with
  |nil=>intro l i p h e;cases l with|nil=>simp at e|cons=>exact h.elim
  |cons v vs ih=>
   intro l i p h e
   cases l with
   |nil=>exact h.elim
   |cons q l=>
    cases i with
    |zero=>simp only[List.getElem?_cons_zero,Option.some.injEq]at e;subst e;exact⟨v,rfl,h.1⟩
    |succ i=>simp only[List.getElem?_cons_succ]at e;obtain⟨w,h1,h2⟩:=ih h.2 e;exact⟨w,by simpa using h1,h2⟩
 obtain⟨v,h1,h2⟩:=this hv h
 exact⟨v,none,by simp only[B6,e,h1,val,Option.map_some],rfl,h2⟩
end
structure F5(t:T)(l:List CK) where
 d:(x y:t.α)→Decidable (x=y)
 h: ∀{P Q:Nat→Prop} {H G:Ay} {c c':List AV} {x y:t.α},t.R P H c x→t.R Q G c' y→PC l c c'=some (@decide (x=y) (d x y))
theorem oK{l m:List CK}: ∀{c d c' d':List AV} {p q:Bool},PC l c c'=some p→PC m d d'=some q→PC (l++m) (c++d) (c'++d')=some (p&&q):=by
 induction l with
 |nil=>
  intro c d c' d' p q h g
  match c,c',h with
  |[],[],h=>simp only[PC,Option.some.injEq]at h;subst h;simpa using g
 |cons k l ih=>
  intro c d c' d' p q h g
  match c,c',h with
  |[],[],h=>simp[PC]at h
  |[],_::_,h=>simp[PC]at h
  |_::_,[],h=>simp[PC]at h
  |x::c,y::c',h=>
   simp only[PC]at h
   obtain⟨e,he,h⟩:=Option.bind_eq_some_iff.1 h
   obtain⟨e',he',rfl⟩:=Option.map_eq_some_iff.1 h
   simp only[List.cons_append,PC,he,Option.bind_some,ih he' g,Option.map_some,Bool.and_assoc]
theorem oX{p q:Prop}{d:Decidable p}{e:Decidable q}(h:p↔q): @decide p d= @decide q e:=by
 rw[Bool.eq_iff_iff];simp only[decide_eq_true_eq];exact h
theorem dec_of{p:Prop}{d:Decidable p}{q:Bool}(h:q=true↔p):q= @decide p d:=by
 rw[Bool.eq_iff_iff];simp only[decide_eq_true_eq];exact h
def cP{α:Type}{c:α→AV}{z:α}{hs: ∀x,scal (c x)=true}{hm: ∀x,BR (c x)=0}(k:CK)(d:(x y:α)→Decidable (x=y))(h: ∀x y,wW k (c x) (c y)=some (@decide (x=y) (d x y))):F5 (SI α c z hs hm) [k]:=
 ⟨d,fun{P Q H G c' d' x y} h1 h2=>by
  rw[show c'=_ from h1,show d'=_ from h2]
  show(wW k (c x) (c y)).bind (fun a=>(some true).map fun b=>a&&b)=_
  rw[h x y]
  simp only[Option.bind_some,Option.map_some,Bool.and_true]
  rfl⟩
def F5.b:F5 T.b [.b]:=cP .b (fun x y=>inferInstance) fun x y=>by cases x<;>cases y<;>rfl
def F5.int(k:IntKind):F5 (T.int k) [.i k]:=cP (.i k) (fun x y=>inferInstance) fun x y=>by simp only[wW,and_self,if_true];rfl
theorem eq_nat{x y:Nat}:((x:Int)==(y:Int))=decide (x=y):=by
 rw[Bool.eq_iff_iff];simp only[beq_iff_eq,decide_eq_true_eq];omega
def F5.u8:F5 T.u8 [.i .u8]:=cP (.i .u8) (fun x y=>inferInstance) fun x y=>by
 simp only[wW,and_self,if_true,eq_nat];congr 1;exact oX UInt8.toNat_inj
def Z8{s t:T}{l m:List CK}(p:F5 s l)(q:F5 t m):F5 (Lj s t) (l++m):=
 ⟨fun x y=> @decidable_of_iff _ (x.1=y.1∧x.2=y.2) ⟨fun h=>Prod.ext h.1 h.2,fun h=>by rw[h];exact⟨rfl,rfl⟩⟩ (have:=p.d x.1 y.1;have:=q.d x.2 y.2;inferInstance),fun{P Q H G c c' x y} ⟨c1,d1,e1,h1,g1⟩ ⟨c2,d2,e2,h2,g2⟩=>by
  rw[e1,e2,oK (p.h h1 h2) (q.h g1 g2)]
  congr 1
  rw[Bool.eq_iff_iff]
  simp only[Bool.and_eq_true,decide_eq_true_eq]
  exact⟨fun h=>Prod.ext h.1 h.2,fun h=>by rw[h];exact⟨rfl,rfl⟩⟩⟩
def jF{t:T}{l:List CK}{β:Type}{f:β→t.α}{g:t.α→β}{hfg: ∀y,f (g y)=y}(p:F5 t l)(d:(x y:β)→Decidable (x=y))(hi: ∀x y,f x=f y→x=y):F5 (X0 t β f g hfg) l:=
 ⟨d,fun{P Q H G c c' x y} h1 h2=>by
  have:=p.h (x:=f x) (y:=f y) h1 h2
  rw[this]
  congr 1
  exact oX ⟨hi x y,fun h=>by rw[h]⟩⟩
def zP(l:List CK):Nat→List CK
 |0=>[]
 |n+1=>l++zP l n
theorem F5.all{t:T}{l:List CK}(p:F5 t l){P Q:Nat→Prop}{H G:Ay}: ∀{c c':List (List AV)} {x y:List t.α},x.length=y.length→CT t P H c x→CT t Q G c' y→ ∃q,PC (zP l x.length) c.flatten c'.flatten=some q∧(q=true↔x=y):=by
 intro c
 induction c with
 |nil=>
  intro c' x y hl h1 h2
  match x,h1 with
  |[],_=>
   match c',y,h2,hl with
   |[],[],_,_=>exact⟨true,rfl,by simp⟩
   |_::_,_::_,_,hl=>simp at hl
 |cons a c ih=>
  intro c' x y hl h1 h2
  match x,h1 with
  |u::x,h1=>
   match c',y,h2 with
   |[],[],_=>simp at hl
   |a'::c',v::y,h2=>
    obtain⟨q,e,hq⟩:=ih (by simpa using hl) h1.2 h2.2
    refine⟨_,by rw[List.length_cons,zP,List.flatten_cons,List.flatten_cons];exact oK (p.h h1.1 h2.1) e,?_⟩
    simp only[Bool.and_eq_true,decide_eq_true_eq,hq,List.cons.injEq]
def F5.arr{t:T}{l:List CK}(n:Nat)(p:F5 t l):F5 (T.arr n t) (zP l n):=
 ⟨fun(x y:Ar t.α n)=> @decidable_of_iff _ (x.l=y.l) ⟨fun h=>Ar.ext h,fun h=>by rw[h]⟩ (have:DecidableEq t.α:=p.d;inferInstance),fun{P Q H G c c' x y} ⟨cs,e,h⟩ ⟨ds,e',h'⟩=>by
  obtain⟨q,hq,hi⟩:=p.all (x.len.trans y.len.symm) h h'
  rw[x.len]at hq
  rw[e,e',hq]
  congr 1
  exact dec_of (hi.trans ⟨fun h=>Ar.ext h,fun h=>by rw[h]⟩)⟩
section
variable{tb:Dh}{Γ:Cx}{a b:AO}
theorem wA{t:T}{l l':List CK}{x y:t.α}{neg:Bool}(p:F5 t l)(ht:t.agg=true)(hl:l'=l)(ha:Cq tb Γ a (.val t x))(hb:Cq tb Γ b (.val t y)):EY tb Γ (.eq neg (.agg l') a b) (some (if neg then !(@decide (x=y) (p.d x y))else @decide (x=y) (p.d x y))) fun z=> .val T.b z:=by
 rintro E rv fp f H R z ⟨⟩
 subst hl
 rcases ha E rv fp f H R with ⟨_,c,e,r⟩|⟨e,_⟩
 ·rcases hb E rv fp f H R with ⟨_,c',e',r'⟩|⟨e',_⟩
  ·exact⟨_,none,by simp only[B6,e,e',jH,p.h r r',Option.map_some,val],rfl,F3.2 rfl⟩
  ·rw[ht]at e';cases e'
 ·rw[ht]at e;cases e
theorem h_eqb{x y:Bool}{neg:Bool}(ha:Cq tb Γ a (.val T.b x))(hb:Cq tb Γ b (.val T.b y)):EY tb Γ (.eq neg (.one .b) a b) (some (if neg then !decide (x=y)else decide (x=y))) fun z=> .val T.b z:=by
 rintro E rv fp f H R z ⟨⟩
 have h:wW .b (.b x) (.b y)=some (decide (x=y)):=by cases x<;>cases y<;>rfl
 exact⟨_,none,by simp only[B6,F3.1 (ha E rv fp f H R),F3.1 (hb E rv fp f H R),jH,h,Option.map_some,val],rfl,F3.2 rfl⟩
theorem Ff{s t:T}{x:s.α}{y:t.α}{n j o o' m k N:Nat}{ps:List (Nat×AK)}(F:AM s (T.arr n t) o')(hk:k=t.sz)(ha:Cq tb Γ a (.cp j (o+m*t.sz)))(hb:Cq tb Γ b (.val t y))(hj:AG Γ.ss j=some (.cells ps))(hp:KM ps o=some (N, .val s x,o')):
  X3 tb Γ none (.st k a b) (if m<n then some (F.put x ((F.get x).set m y))else none) fun x'=>Γ.setS j (.cells (UJ ps o (.val s x'))):=by
 intro E rv fp f H R x' hx'
 split at hx'
 ·rename_i hlt
  cases hx'
  obtain⟨l,id,e,hv⟩:=ha E rv fp f H R
  obtain⟨cs,h0,h2,h3⟩:=Hb R hj e
  obtain⟨b',c,e0,e1,e2,e3,e4,e5,e6⟩:=GL h3 hp
  let G:=KS F (AM.at n t m hlt)
  have hle:=G.le
  have hl:=s.len e4
  have hy:=T.V.cells (hb E rv fp f H R)
  have hyl:=t.len hy
  have hput:=G.putR e4 hy
  have hpr:=e6 (o'+m*t.sz) (cellsOf (eval tb f b)) (.val s (G.put x y)) (by omega) hput
  rw[show b'+(o'+m*t.sz)=o+m*t.sz by omega]at hpr
  have hmen:=PR.men R.ltP R.rvlt h3
  have hym:=t.men hy R.ltP
  subst hk
  have hlt':=(R.fplt j id l ((h0 id).2 rfl)).1
  obtain⟨rv',fp',_,_,R'⟩:=R.set (j:=j) (S:= .cells (UJ ps o (.val s (G.put x y)))) (v:=rv j) (o:= .cells (EP H id) (B3 cs (o+m*t.sz) (cellsOf (eval tb f b)))) (by rw[hj];rfl) l h0 (by simp only[ED];exact Oa hmen hym) rfl (R.rvlt j l) (.inl rfl) (R.scal j l) fun rv' fp' e1 e2 hP hs=>
   ⟨id,_,by rw[e1,e],e2,by simp[Cu,hlt'],PR.mono hP (by simp) (fun p _=>hs p.2 (.inl rfl)) hpr⟩
  refine⟨.junk,some (H.set id (C6.cells (EP H id) (B3 cs (o+m*t.sz) (cellsOf (eval tb f b))))),?_,rv',fp',R'⟩
  simp only[B6,hv,store,h2,Option.bind_some]
  rw[if_pos ⟨hyl,by omega⟩]
  rfl
 ·cases hx'
theorem Bw{s t:T}{x:s.α}{n j o o' N m:Nat}{ag:Bool}{ps:List (Nat×AK)}(h:BG Γ.ts n=some (.cp j o))(hj:AG Γ.ss j=some (.cells ps))(hp:KM ps o=some (N, .val s x,o'))(F:AM s t o')(hag:ag=t.agg)(hm:m=t.sz):sL Γ (.cell ag m n) t (F.get x):=by
 intro E rv fp f H R r vs hr
 obtain⟨v,u,h1,_,h3⟩:=AJ (tb:=⟨fun _=>none,fun _=>none,fun _=>none,[]⟩) (Cs h) hj hp F hag hm E rv fp f H R () rfl
 refine⟨v,?_,h3⟩
 simp only[B6,eval,val]at h1
 obtain⟨w,hw,e⟩:=Option.map_eq_some_iff.1 h1
 cases e
 simp only[results,hw,Option.bind_some,hr,Option.map_some]
theorem SK{t:T}{zero:List (List AV)}{d t0 sz n:Nat}{ps:List (Nat×AO)}{l:List t.α}(j:Nat)(hs:sz=t.sz)(hz:zero=List.replicate n t.zc)(h:nG tb Γ t ps (List.replicate n t.z) l)(hj:AG Γ.ss j=none):
  X3 tb Γ (some d) (.bls t0 sz zero ps) (some l) fun l=>⟨(d, .own j)::Γ.ts,(j, .row t (.mk l))::Γ.ss⟩:=by
 intro E rv fp f H R l' hl'
 cases hl'
 subst hz hs
 obtain⟨ds,h1,h2⟩:=h.spec R (CT.rep (t.hz _ _) n)
 have hm:=h2.men R.ltP
 obtain⟨rv',fp',g1,g2,g3⟩:=R.more (j:=j) (S:= .row t (.mk l)) (v:= .orow H.length ds.length 0 ds.length) (o:= .row (some t0) false t.sz ds) (HW hj) (by simp only[ED];omega) rfl (by simp[BR]) rfl fun rv' fp' e1 e2 hP hs=>
  ⟨_,ds,e1,e2,by simp[rowAt],h2.mono hP⟩
 exact⟨.orow H.length ds.length 0 ds.length,some (H++[C6.row (some t0) false t.sz ds]),by simp only[B6,h1,Option.map_some],rv',fp',g3.push (φ:= .own j) ⟨g2,g1.symm⟩⟩
end
def look{α:Type}(n:Nat):List (Nat×α)→Option α
 |[]=>none
 |(k,v)::r=>if Nat.beq n k then some v else look n r
theorem Pv{α:Type}{n:Nat}{v:α}: ∀{l:List (Nat×α)},look n l=some v→(n,v)∈l
 |[],h=>by simp[look]at h
 |(k,u)::r,h=>by
  simp only[look]at h
  split at h
  ·rename_i e
   obtain rfl:=Option.some.inj h
   obtain rfl:=Nat.eq_of_beq_eq_true e
   exact List.mem_cons_self
  ·exact List.mem_cons_of_mem _ (Pv h)
theorem nA{tb:Dh}{g:Nat}{f:List UInt8→UInt8→Int}(hp:tb.prim g=some (eA f)):Spec tb g [Ak,T.u8] [T.int .i64] fun a=>some (f a.1 a.2):=by
 rintro P h args ⟨x,y⟩ _ _ ⟨v,q,rfl,h1,w,rfl,h2⟩ r hr
 cases hr
 refine⟨_,none,?_,rfl,[.i .i64 (f x y)],rfl,_,rfl,BY.2 rfl⟩
 have hy: ∀z:UInt8,UInt8.ofNat ((z.toNat:Int)).toNat=z:=fun z=>by simp
 rw[EH.1 h1,TK.1 h2]
 simp only[B8,hp,eA,xJ,cE,Option.bind_some]
 show some (AV.i .i64 (f x (UInt8.ofNat ((UInt8.toNat y:Nat):Int).toNat)),none)=_
 exact congrArg (fun c:UInt8=>(some (AV.i .i64 (f (show AH from x) c),(none:Option Ay)))) (hy (show UInt8 from y))
end Go.Proofs.YtobejhpigbllpaaGreatDoor.Am
namespace Go.Proofs.YtobejhpigbllpaaGreatDoor.Am
section
variable{tb:Dh}{Γ:Cx}{a b:AO}
theorem By{j o:Nat}(ha:Cq tb Γ a (.cp j o)):EY tb Γ (.nilc a) (some ()) fun _=> .cp j o:=by
 rintro E rv fp f H R z ⟨⟩
 obtain⟨l,id,e,hv⟩:=ha E rv fp f H R
 exact⟨.ptr id o,none,by simp only[B6,hv],rfl,l,id,e,rfl⟩
def T.Flat(t:T):Prop:= ∀{P Q:Nat→Prop} {H G:Ay} {cs:List AV} {x:t.α},t.R P H cs x→t.R Q G cs x
theorem wN{k:IntKind}:(T.int k).Flat:=fun h=>h
theorem wM:T.u64.Flat:=fun h=>h
theorem P9:Ak.Flat:=fun h=>h
theorem T.Flat.V{t:T}(h:t.Flat){P Q:Nat→Prop}{H G:Ay}{v:AV}{x:t.α}(r:t.V P H v x):t.V Q G v x:=by
 rcases r with ⟨a,cs,e,r⟩|⟨a,r⟩
 ·exact .inl ⟨a,cs,e,h r⟩
 ·exact .inr ⟨a,h r⟩
inductive U2:List T→Prop where
 |nil:U2 []
 |cons {t:T} {l:List T}:t.Flat→U2 l→U2 (t::l)
theorem R8.flat{P Q:Nat→Prop}{H G:Ay}: ∀{l:List T} {vs:List AV} {x:CG l},U2 l→R8 P H l vs x→R8 Q G l vs x
 |[],_,_,_,h=>h
 |[a],_,_, .cons k _,⟨v,e,h⟩=>⟨v,e,k.V h⟩
 |_::_::_,_,_, .cons k l,⟨v,q,e,h,g⟩=>⟨v,q,e,k.V h,R8.flat l g⟩
def ArgP(tb:Dh)(Γ:Cx)(a:AO)(t:T)(x:t.α):Prop:= ∀E rv fp f H,B1 E Γ rv fp f H→t.V (fun i=>i<H.length) H (eval tb f a) x
theorem a_v{t:T}{x:t.α}(h:Cq tb Γ a (.val t x)):ArgP tb Γ a t x:=fun E rv fp f H R=>T.V.mono (fun i hi=>⟨Pf.lt R.le hi,rfl⟩) (h E rv fp f H R)
inductive cQ(tb:Dh)(Γ:Cx):(As:List T)→List AO→CG As→Prop where
 |one {a:AO} {t:T} {x:t.α} (h:ArgP tb Γ a t x):cQ tb Γ [t] [a] x
 |cons {a:AO} {t u:T} {x:t.α} {As:List T} {l:List AO} {y:CG (u::As)} (h:ArgP tb Γ a t x) (k:cQ tb Γ (u::As) l y):cQ tb Γ (t::u::As) (a::l) (x,y)
theorem cQ.spec{E:PN}{rv:Nat→AV}{fp:Fp}{f:Fr}{H:Ay}(R:B1 E Γ rv fp f H): ∀{As:List T} {l:List AO} {x:CG As},cQ tb Γ As l x→R8 (fun i=>i<H.length) H As (l.map (eval tb f)) x
 |_,_,_, .one h=>⟨_,rfl,h E rv fp f H R⟩
 |_,_,_, .cons h k=>⟨_,_,rfl,h E rv fp f H R,k.spec R⟩
theorem AaG{g:Nat}{As Rs:List T}{F:CG As→Option (CG Rs)}{l:List AO}{x:CG As}(sp:Spec tb g As Rs F)(fl:U2 Rs)(hx:cQ tb Γ As l x):EY tb Γ (.call g l) (F x) fun r=>tY Rs r:=by
 intro E rv fp f H R r hr
 obtain⟨v,u,h1,h2,vs,h3,h4⟩:=(sp (fun i=>i<H.length) H _ x (fun _ h=>h) R.wf (hx.spec R) r hr).call
 exact⟨v,u,by simp only[B6];exact h1,h2,Wk ⟨vs,h3,h4.flat fl⟩⟩
end
end Go.Proofs.YtobejhpigbllpaaGreatDoor.Am
namespace Go.Proofs.YtobejhpigbllpaaGreatDoor.Am
def Z7:Dom where
 α:=AH×Nat
 R:=fun F _ H v x=> ∃id,v= .ptr id 0∧(∀i,F i↔i=id)∧H[id]? =some (.iter x.1 x.2)
 lt:=fun⟨id,_,hF,h⟩ i hi=>by rw[(hF i).1 hi];exact(List.getElem?_eq_some_iff.1 h).1
 men:=fun⟨id,e,hF,_⟩ _ hm=>by rw[e];simp only[BR];exact hm id ((hF id).2 rfl)
 mono:=fun _ g ⟨id,e,hF,h⟩=>⟨id,e,hF,by rw[g id ((hF id).2 rfl)];exact h⟩
def Hq(s:AH)(pos:Nat):Int×Nat:=((Utf8.decode ⟨s.toArray⟩ pos).1,(Utf8.decode ⟨s.toArray⟩ pos).2)
section
variable{tb:Dh}{Γ:Cx}{a b:AO}
theorem o_n8{x:UInt8}(h:Cq tb Γ a (.val T.u8 x)):Cq tb Γ a (.val (T.int .u8) (x.toNat:Int)):=fun E rv fp f H R=>BY.2 (TK.1 (h E rv fp f H R))
theorem o_n16{x:UInt16}(h:Cq tb Γ a (.val T.u16 x)):Cq tb Γ a (.val (T.int .u16) (x.toNat:Int)):=fun E rv fp f H R=>BY.2 (cL.1 (h E rv fp f H R))
theorem Mt{x:UInt32}(h:Cq tb Γ a (.val T.u32 x)):Cq tb Γ a (.val (T.int .u32) (x.toNat:Int)):=fun E rv fp f H R=>BY.2 (cK.1 (h E rv fp f H R))
theorem M_rng{s:AH}{d:Nat}(j:Nat)(hj:AG Γ.ss j=none)(ha:Cq tb Γ a (.val Ak s)):X3 tb Γ (some d) (.rng a) (some ()) fun _=>⟨(d, .own j)::Γ.ts,(j, .dom Z7 (s,0))::Γ.ss⟩:=by
 rintro E rv fp f H R _ ⟨⟩
 obtain⟨rv',fp',h1,h2,h3⟩:=R.more (j:=j) (S:= .dom Z7 (s,0)) (v:= .ptr H.length 0) (o:= .iter s 0) (HW hj) (by simp[ED]) rfl (by simp[BR]) rfl fun rv' fp' e1 e2 hP hs=>
  ⟨_,e1,e2,by simp⟩
 refine⟨.ptr H.length 0,some (H++[C6.iter s 0]),by simp only[B6,EH.1 (ha E rv fp f H R)],rv',fp',h3.push (d:=d) (φ:= .own j) ⟨h2,h1.symm⟩⟩
variable{ks:List Kf}{ρ:Type}{Q:Nh ρ}
def Aa.nxt{s:AH}{pos j d:Nat}{rest:List Bm}(ha:Cq tb Γ a (.own j))(hj:AG Γ.ss j=some (.dom Z7 (s,pos)))
  (k1:(x:Int×Nat)→Aa tb ⟨(d, .tup [⟨T.b,true⟩,⟨T.int .i64,((pos:Nat):Int)⟩,⟨T.int .i32,x.1⟩])::Γ.ts,(j, .dom Z7 (s,pos+x.2))::Γ.ss⟩ (rg false rest) ks Q)
  (k2:Aa tb ⟨(d, .tup [⟨T.b,false⟩])::Γ.ts,Γ.ss⟩ (rg false rest) ks Q):Aa tb Γ (rg false (⟨some d,none, .nxt a⟩::rest)) ks Q:=
 ⟨if pos<s.length then(k1 (Hq s pos)).m else k2.m,fun E f H ⟨rv,fp,I⟩ r hr=>by
  have hl:Bk Γ.ss j:=Mv hj rfl
  obtain⟨_,hv⟩:=ha E rv fp f H I
  obtain⟨id,e,hF,hH⟩:=I.slots j _ hj
  rw[e]at hv
  have hi:WB H id=some (s,pos):=by simp only[WB,hH]
  split at hr
  ·rename_i hp
   obtain⟨rv',fp',h1,h2,h3⟩:=I.set (j:=j) (S:= .dom Z7 (s,pos+(Hq s pos).2)) (v:=rv j) (o:= .iter s (pos+(Hq s pos).2)) (by rw[hj];rfl) hl hF (by simp[ED]) rfl (I.rvlt j hl) (.inl rfl) (I.scal j hl)
    fun rv' fp' e1 e2 hP _=>⟨id,by rw[e1,e],e2,by rw[List.getElem?_set_self (I.fplt j id hl ((hF id).2 rfl)).1]⟩
   have hx:B6 tb (C5 tb) (eval tb f) H (.nxt a)=some (.tup [.b true, .i .i64 pos, .i .i32 (Hq s pos).1],some (H.set id (C6.iter s (pos+(Hq s pos).2)))):=by
    simp only[B6,hv,hi,Option.bind_some,if_true,if_pos hp];rfl
   obtain⟨e',f',H',h4,h5⟩:=(k1 (Hq s pos)).ok E _ _ ⟨rv',fp',h3.push (d:=d) (φ:= .tup [⟨T.b,true⟩,⟨T.int .i64,((pos:Nat):Int)⟩,⟨T.int .i32,(Hq s pos).1⟩])
    ⟨[.b true, .i .i64 pos, .i .i32 (Hq s pos).1],rfl,F3.2 rfl,BY.2 rfl,BY.2 rfl,trivial⟩⟩ r hr
   exact⟨e',f',H',by rw[Ks hx];exact h4,h5⟩
  ·rename_i hp
   have hx:B6 tb (C5 tb) (eval tb f) H (.nxt a)=some (.tup [.b false],none):=by
    simp only[B6,hv,hi,Option.bind_some,if_true,if_neg hp]
   obtain⟨e',f',H',h4,h5⟩:=k2.ok E _ H ⟨rv,fp,I.push (d:=d) (φ:= .tup [⟨T.b,false⟩]) ⟨[.b false],rfl,F3.2 rfl,trivial⟩⟩ r hr
   exact⟨e',f',H',by rw[Ks hx];exact h4,h5⟩⟩
def BC{x y:AC}(h:Cq tb Γ a (.val T.b true))(s:Aa tb Γ x ks Q):Aa tb Γ (.cond a x y) ks Q:=
 ⟨s.m,fun E f H ⟨rv,fp,I⟩ r hr=>by
  have hv:=F3.1 (h E rv fp f H I)
  obtain⟨e,f',H',h4,h5⟩:=s.ok E f H ⟨rv,fp,I⟩ r hr
  exact⟨e,f',H',by simp only[Bh,hv,if_true];exact h4,h5⟩⟩
def CF{x y:AC}(h:Cq tb Γ a (.val T.b false))(s:Aa tb Γ y ks Q):Aa tb Γ (.cond a x y) ks Q:=
 ⟨s.m,fun E f H ⟨rv,fp,I⟩ r hr=>by
  have hv:=F3.1 (h E rv fp f H I)
  obtain⟨e,f',H',h4,h5⟩:=s.ok E f H ⟨rv,fp,I⟩ r hr
  exact⟨e,f',H',by simp only[Bh,hv,Bool.false_eq_true,if_false];exact h4,h5⟩⟩
end
end Go.Proofs.YtobejhpigbllpaaGreatDoor.Am
namespace Go.Proofs.YtobejhpigbllpaaGreatDoor.Am
def Qo:H6→Bool
 | .mv _=>true
 | .pick _ _ _=>true
 | .bld _ _=>true
 | .bll _ _ _=>true
 | .fa _ _=>true
 | .nilc _=>true
 | .bin _ _ _=>true
 | .eq _ _ _ _=>true
 | .un _ _=>true
 | .cvi _ _=>true
 | .cvid _=>true
 | .cvc _=>true
 | .mkf _ _ _=>true
 | .sls _ _ _=>true
 | .fld _ _ _ _=>true
 | .iaa _ _ _ _=>true
 | .ixa _ _ _ _ _=>true
 | .ixs _ _=>true
 | .ext _ _=>true
 | .mkif _ _=>true
 | .len _=>true
 | .lens _=>true
 | .mnx _ _ _=>true
 | .isni _ _=>true
 | .capn _=>true
 |_=>false
structure X6 where
 o:H6
 v:AV
 c:Nat
def gD(d:Option Nat)(o:H6):Bool:=
 match d with
 |some d=>(opT o).all fun t=> !Nat.beq d t
 |none=>true
def P7(d:Option Nat):List X6→Bool
 |[]=>true
 |m::r=>gD d m.o&&P7 d r
def bU:List X6→List X6
 |[]=>[]
 |m::r=>match m.c with
  |0=>bU r
  |1=>bU r
  |c+2=>{m with c:=c+1}::bU r
def Po(N k lo hi:Nat)(o:H6):Bool:=(Nat.beq lo k&&Nat.beq hi k)||(Qo o&&Nat.ble hi N)
def iT(N k lo hi:Nat)(o:H6)(v:AV)(ms:List X6):List X6:=
 bif Po N k lo hi o then ms else⟨o,v,hi-k⟩::ms
def eX(N k lo hi:Nat)(d:Option Nat)(o:H6):Bool:=Nat.beq lo k&&(Nat.ble hi N&&gD d o)
structure Eob where
 ag:Bool
 n:Nat
 a:AV
 v:AV
 lo:Nat
def Mj(tb:Dh)(cl:Nat→List AV→Ay→Lk)(N:Nat):Nat→List X6→List Eob→List Bm→List (Option (Nat×Nat))→Fr→Ay→Fr×Ay→Prop
 |k,_,_,[],[],f,h,p=>k=N∧p=(f,h)
 |k,ms,es,⟨d,g,o⟩::l,none::w,f,h,p=>(wanted f g=some true∧ ∃q es',B6 tb cl (eval tb f) h o=some q∧P7 d ms=true∧
   (∀m∈ms,0<m.c→ ∃u,B6 tb cl (eval tb (put f d q.1)) (q.2.getD h) m.o=some (m.v,u)∧u.getD (q.2.getD h)=q.2.getD h)∧
   (∀e∈es',(e∈es∨e.lo=k)∧load h e.ag e.n e.a=some e.v)∧Mj tb cl N (k+1) (bU ms) es' l w (put f d q.1) (q.2.getD h) p)∨
   (wanted f g=some false∧ms=[]∧Mj tb cl N (k+1) [] [] l w (put f d (.tup [])) h p)
 |k,ms,es,⟨d,g,o⟩::l,some (lo,hi)::w,f,h,p=>(wanted f g=some true∧ ∃q,B6 tb cl (eval tb f) h o=some q∧q.2.getD h=h∧P7 d ms=true∧
   (((Po N k lo hi o||eX N k lo hi d o)=true∧Mj tb cl N k (iT N k lo hi o q.1 ms) es l w (put f d q.1) h p)∨
    (hi=k∧(∃e∈es,∃t,o= .ld e.ag e.n (.t t)∧get f t=e.a∧q.1=e.v∧e.lo≤lo)∧Mj tb cl N k ms es l w (put f d q.1) h p)))∨
   (wanted f g=some false∧P7 d ms=true∧Mj tb cl N k ms es l w (put f d (.tup [])) h p)
 |_,_,_,_,_,_,_,_=>False
section
variable{tb:Dh}{cl:Nat→List AV→Ay→Lk}
theorem sG{o:H6}(ho:Qo o=true){rho:AO→AV}{h h':Ay}:B6 tb cl rho h o=B6 tb cl rho h' o:=by
 cases o<;>first|(simp only[Qo,Bool.false_eq_true]at ho;done)|rfl
theorem Iq{x:Option AV}{p:AV×Option Ay}(e:val x=some p):p.2=none:=by
 obtain⟨v,_,rfl⟩:=Option.map_eq_some_iff.1 e;rfl
theorem map_none{α:Type}{x:Option α}{f:α→AV}{p:AV×Option Ay}(e:x.map (fun a=>(f a,(none:Option Ay)))=some p):p.2=none:=by
 obtain⟨v,_,rfl⟩:=Option.map_eq_some_iff.1 e;rfl
theorem bind_none{α:Type}{x:Option α}{f:α→Lk}{p:AV×Option Ay}(h: ∀a,f a=some p→p.2=none)(e:x.bind f=some p):p.2=none:=by
 obtain⟨v,_,e⟩:=Option.bind_eq_some_iff.1 e;exact h v e
theorem xQ{o:H6}(ho:Qo o=true){rho:AO→AV}{h:Ay}{p:AV×Option Ay}(e:B6 tb cl rho h o=some p):p.2=none:=by
 cases o<;>first|(simp only[Qo,Bool.false_eq_true]at ho;done)|skip
 case mv=>simp only[B6,Option.some.injEq]at e;subst e;rfl
 case pick=>simp only[B6]at e;split at e<;>first|(cases e;rfl)|cases e
 case bld=>exact Iq e
 case bll=>exact Iq e
 case nilc=>simp only[B6]at e;split at e<;>first|(cases e;rfl)|cases e
 case bin=>exact Iq e
 case eq=>exact Iq e
 case un=>exact Iq e
 case cvi=>simp only[B6]at e;split at e<;>first|(cases e;rfl)|cases e
 case cvid=>simp only[B6]at e;split at e<;>first|(cases e;rfl)|cases e
 case cvc=>simp only[B6]at e;split at e<;>first|(cases e;rfl)|cases e
 case mkf=>simp only[B6,Option.some.injEq]at e;subst e;rfl
 case sls=>simp only[B6]at e;split at e<;>first|exact map_none e|cases e
 case fa=>exact Iq e
 case fld=>simp only[B6]at e;split at e<;>first|cases e|(split at e<;>first|exact Iq e|cases e)
 case iaa=>exact bind_none (fun a e=>by split at e<;>first|exact Iq e|cases e) e
 case ixa=>exact bind_none (fun a e=>by split at e<;>first|cases e|(split at e<;>first|exact Iq e|cases e)) e
 case ixs=>exact bind_none (fun a e=>by split at e<;>first|cases e|(split at e<;>first|exact map_none e|cases e)) e
 case ext=>simp only[B6]at e;split at e<;>first|exact Iq e|cases e
 case mkif=>simp only[B6,Option.some.injEq]at e;subst e;rfl
 case len=>exact map_none e
 case lens=>simp only[B6]at e;split at e<;>first|(cases e;rfl)|cases e
 case isni=>simp only[B6]at e;split at e<;>first|(cases e;rfl)|cases e
 case capn=>simp only[B6]at e;split at e<;>first|(cases e;rfl)|cases e
 case mnx=>simp only[B6]at e;split at e<;>first|cases e|(split at e<;>first|(cases e;rfl)|cases e)
theorem mO{o:H6}(ho:Qo o=true){rho:AO→AV}{h h':Ay}{p:AV×Option Ay}(e:B6 tb cl rho h o=some p):B6 tb cl rho h' o=some (p.1,none):=by
 rw[sG ho (h':=h),e]
 have:=xQ ho e
 obtain⟨a,b⟩:=p
 simp only at this
 rw[this]
theorem Xy{d:Option Nat}{f:Fr}{v:AV}{o:H6}(h:gD d o=true):Alike tb (put f d v) f (opT o):=by
 intro t ht
 cases d with
 |none=>rfl
 |some d=>
  have:=List.all_eq_true.1 h t ht
  simp only[Bool.not_eq_true']at this
  simp only[put,get]
  rw[if_neg fun e=>by rw[e,Nat.beq_refl]at this;cases this]
theorem KL{d:Option Nat}{f:Fr}{v:AV}: ∀{ms:List X6},P7 d ms=true→ ∀m∈ms,Alike tb (put f d v) f (opT m.o)
 |[],_,m,hm=>by cases hm
 |q::r,h,m,hm=>by
  simp only[P7,Bool.and_eq_true]at h
  rcases List.mem_cons.1 hm with rfl|hm
  ·exact Xy h.1
  ·exact KL h.2 m hm
def yC(tb:Dh)(cl:Nat→List AV→Ay→Lk)(f:Fr)(tl:List Ay)(m:X6):Prop:= ∀i h',i<m.c→tl[i]? =some h'→ ∃u,B6 tb cl (eval tb f) h' m.o=some (m.v,u)∧u.getD h'=h'
theorem iB: ∀{ms:List X6} {m:X6},m∈ms→1<m.c→{m with c:=m.c-1}∈bU ms
 |q::r,m,hm,hc=>by
  rcases List.mem_cons.1 hm with rfl|hm
  ·obtain⟨o,v,c⟩:=m
   match c,hc with
   |c+2,_=>simp[bU]
  ·have:=iB hm hc
   simp only[bU]
   split
   ·exact this
   ·exact this
   ·exact List.mem_cons_of_mem _ this
theorem xR{N k lo hi:Nat}{o:H6}{v:AV}{ms:List X6}{m:X6}(h:m∈ms):m∈iT N k lo hi o v ms:=by
 simp only[iT]
 cases Po N k lo hi o with
 |true=>exact h
 |false=>simp only[cond_false];simp[h]
theorem kX{N k lo hi:Nat}{d:Option Nat}{o:H6}(h:eX N k lo hi d o=true):lo=k∧hi≤N∧gD d o=true:=by
 simp only[eX,Bool.and_eq_true]at h
 exact⟨Nat.eq_of_beq_eq_true h.1,Nat.le_of_ble_eq_true h.2.1,h.2.2⟩
open Classical in
theorem LB{N:Nat}: ∀{l:List Bm} {k:Nat} {ms:List X6} {es:List Eob} {w:List (Option (Nat×Nat))} {f:Fr} {h:Ay} {f':Fr} {h':Ay},Mj tb cl N k ms es l w f h (f',h')→
  ∃tl,Il tb cl l w f h=some (h::tl)∧(h::tl).getLast?=some h'∧k+tl.length=N∧(∀m∈ms,yC tb cl f tl m)∧ ∀(pre:List Ay),pre.length=k→(∀e∈es,∀j g,e.lo≤j→pre[j]? =some g→load g e.ag e.n e.a=some e.v)→JF tb cl (pre++h::tl) l w k f=some f'
 |[],k,ms,es,w,f,h,f',h',e=>by
  cases w with
  |nil=>
   simp only[Mj,Prod.mk.injEq]at e
   obtain⟨hk,rfl,rfl⟩:=e
   exact⟨[],by simp[Il],rfl,by simpa using hk,fun m _ i h' _ hi=>by simp at hi,fun pre hp _=>by simp[JF,hp]⟩
  |cons=>simp[Mj]at e
 |⟨d,g,o⟩::l,k,ms,es,[],f,h,f',h',e=>by simp[Mj]at e
 |⟨d,gd,o⟩::l,k,ms,es,none::w,f,h,f',h',e=>by
  simp only[Mj]at e
  rcases e with ⟨hwt,p,es',hp,hc1,hc2,hc3,e⟩|⟨hwt,rfl,e⟩
  rotate_left
  ·obtain⟨tl,h1,h2,h3,h4,h5⟩:=LB e
   refine⟨h::tl,?_,?_,by simp;omega,(fun m hm=>absurd hm (by simp)),fun pre hpre hes=> ?_⟩
   ·simp[Il,hwt,h1]
   ·simpa using h2
   ·have h6:=h5 (pre++[h]) (by simp[hpre]) (fun x hx=>absurd hx (by simp))
    simp only[List.append_assoc,List.singleton_append]at h6
    have g0:(pre++h::h::tl)[k]? =some h:=by rw[←hpre,List.getElem?_append_right (Nat.le_refl _),Nat.sub_self];rfl
    have g1:(pre++h::h::tl)[k+1]? =some h:=by rw[←hpre,List.getElem?_append_right (by omega),Nat.add_sub_cancel_left];rfl
    simp only[JF,hwt,Option.bind_some,Bool.false_eq_true,if_false,g0,g1,if_true]
    exact h6
  obtain⟨tl,h1,h2,h3,h4,h5⟩:=LB e
  refine⟨p.2.getD h::tl,?_,?_,by simp;omega,?_,fun pre hpre hes=> ?_⟩
  ·simp[Il,hwt,hp,h1]
  ·simpa using h2
  ·intro m hm i h' hi hg
   have he:=KL (tb:=tb) (f:=f) (v:=p.1) hc1 m hm
   rw[←Ki he]
   cases i with
   |zero=>
    simp only[List.getElem?_cons_zero,Option.some.injEq]at hg
    subst hg
    exact hc2 m hm (by omega)
   |succ i=>
    simp only[List.getElem?_cons_succ]at hg
    exact h4 _ (iB hm (by omega)) i h' (by simp only;omega) hg
  ·have h6:=h5 (pre++[h]) (by simp[hpre]) (fun x hx j g hj hg=>by
    rcases Nat.lt_or_ge j pre.length with hlt|hge
    ·rw[List.getElem?_append_left hlt]at hg
     rcases(hc3 x hx).1 with hx'|hx'
     ·exact hes x hx' j g hj hg
     ·omega
    ·rw[List.getElem?_append_right hge]at hg
     have:j-pre.length=0:=by
      rcases Nat.eq_zero_or_pos (j-pre.length)with h|h
      ·exact h
      ·rw[List.getElem?_eq_none (by simp;omega)]at hg;cases hg
     rw[this]at hg
     simp only[List.getElem?_cons_zero,Option.some.injEq]at hg
     subst hg
     exact(hc3 x hx).2)
   simp only[List.append_assoc,List.singleton_append]at h6
   have g0:(pre++h::p.2.getD h::tl)[k]? =some h:=by rw[←hpre,List.getElem?_append_right (Nat.le_refl _),Nat.sub_self];rfl
   have g1:(pre++h::p.2.getD h::tl)[k+1]? =some (p.2.getD h):=by rw[←hpre,List.getElem?_append_right (by omega),Nat.add_sub_cancel_left];rfl
   simp only[JF,hwt,Option.bind_some,if_true,g0,hp,g1]
   exact h6
 |⟨d,gd,o⟩::l,k,ms,es,some (lo,hi)::w,f,h,f',h',e=>by
  simp only[Mj]at e
  rcases e with ⟨hwt,p,hp,hu,hfr,e⟩|⟨hwt,hfr,e⟩
  rotate_left
  ·obtain⟨tl,h1,h2,h3,h4,h5⟩:=LB e
   refine⟨tl,?_,h2,h3,fun m hm i h' hi hg=> ?_,fun pre hpre hes=> ?_⟩
   ·simp[Il,hwt,h1]
   ·have he:=KL (tb:=tb) (f:=f) (v:= .tup []) hfr m hm
    rw[←Ki he]
    exact h4 m hm i h' hi hg
   ·have h6:=h5 pre hpre hes
    simp only[JF,hwt,Option.bind_some,Bool.false_eq_true,if_false]
    exact h6
  rcases e with ⟨hpl,e⟩|⟨hhi0,⟨x,hx,t0,hxo,hxa,hxv,hxl⟩,e⟩
  ·obtain⟨tl,h1,h2,h3,h4,h5⟩:=LB e
   have hms: ∀m∈ms,yC tb cl f tl m:=fun m hm i h' hi hg=>by
    have he:=KL (tb:=tb) (f:=f) (v:=p.1) hfr m hm
    rw[←Ki he]
    exact h4 m (xR hm) i h' hi hg
   refine⟨tl,?_,h2,h3,hms,fun pre hpre hes=> ?_⟩
   ·simp[Il,hwt,hp,hu,h1]
   ·have h6:=h5 pre hpre hes
    have g0:(pre++h::tl)[k]? =some h:=by rw[←hpre,List.getElem?_append_right (Nat.le_refl _),Nat.sub_self];rfl
    have hlen:(pre++h::tl).length=N+1:=by simp[hpre];omega
    have hk: ∀j,lo≤j→j<lo+(hi+1-lo)→ ∃u,((pre++h::tl)[j]?).bind (fun h=>B6 tb cl (eval tb f) h o)=some (p.1,u)∧some (u.getD ((pre++h::tl)[j]?.getD []))=(pre++h::tl)[j]? :=by
     intro j hj1 hj2
     simp only[Bool.or_eq_true]at hpl
     cases hP:Po N k lo hi o with
     |true=>
      have hP':=hP
      simp only[Po,Bool.or_eq_true,Bool.and_eq_true]at hP'
      rcases hP' with ⟨hlo,hhi⟩|⟨hb,hle⟩
      ·have hlo:=Nat.eq_of_beq_eq_true hlo
       have hhi:=Nat.eq_of_beq_eq_true hhi
       obtain rfl:j=k:=by omega
       exact⟨p.2,by rw[g0,Option.bind_some,hp],by rw[g0];simp[hu]⟩
      ·have hle:=Nat.le_of_ble_eq_true hle
       have hj:j<(pre++h::tl).length:=by omega
       rw[List.getElem?_eq_getElem hj]
       exact⟨none,by rw[Option.bind_some];exact mO hb hp,rfl⟩
     |false=>
      have hL:eX N k lo hi d o=true:=hpl.resolve_left (by rw[hP];simp)
      obtain⟨hlo,hhi,hd⟩:=kX hL
      rcases Nat.lt_or_ge k j with hkj|hkj
      ·have hm:(⟨o,p.1,hi-k⟩:X6)∈iT N k lo hi o p.1 ms:=by
        simp only[iT,hP,cond_false];simp
       have hj:j<(pre++h::tl).length:=by omega
       have hjt:(pre++h::tl)[j]? =tl[j-k-1]? :=by
        rw[List.getElem?_append_right (by omega),hpre,show j-k=(j-k-1)+1 by omega,List.getElem?_cons_succ];rfl
       have hjl:j-k-1<tl.length:=by simp[hpre]at hlen;omega
       rw[hjt,List.getElem?_eq_getElem hjl]
       have:=h4 _ hm (j-k-1) _ (by simp only;omega) (List.getElem?_eq_getElem hjl)
       obtain⟨u,e1,e2⟩:=this
       rw[Ki (Xy hd)]at e1
       exact⟨u,by rw[Option.bind_some];exact e1,congrArg some e2⟩
      ·obtain rfl:j=k:=by omega
       exact⟨p.2,by rw[g0,Option.bind_some,hp],by rw[g0];simp[hu]⟩
    simp only[JF,hwt,Option.bind_some,if_true,g0,hp]
    rw[if_pos (by
     rw[List.all_eq_true]
     intro j hj
     rw[List.mem_range'_1]at hj
     exact decide_eq_true (hk j hj.1 hj.2))]
    exact h6
  ·obtain⟨tl,h1,h2,h3,h4,h5⟩:=LB e
   have hms: ∀m∈ms,yC tb cl f tl m:=fun m hm i h' hi hg=>by
    have he:=KL (tb:=tb) (f:=f) (v:=p.1) hfr m hm
    rw[←Ki he]
    exact h4 m hm i h' hi hg
   refine⟨tl,?_,h2,h3,hms,fun pre hpre hes=> ?_⟩
   ·simp[Il,hwt,hp,hu,h1]
   ·have h6:=h5 pre hpre hes
    have g0:(pre++h::tl)[k]? =some h:=by rw[←hpre,List.getElem?_append_right (Nat.le_refl _),Nat.sub_self];rfl
    have hk: ∀j,lo≤j→j<lo+(hi+1-lo)→ ∃u,((pre++h::tl)[j]?).bind (fun h=>B6 tb cl (eval tb f) h o)=some (p.1,u)∧some (u.getD ((pre++h::tl)[j]?.getD []))=(pre++h::tl)[j]? :=by
     intro j hj1 hj2
     rcases Nat.lt_or_ge j k with hjk|hjk
     ·have hjp:j<pre.length:=by omega
      rw[List.getElem?_append_left hjp,List.getElem?_eq_getElem hjp]
      have:=hes x hx j pre[j] (by omega) (List.getElem?_eq_getElem hjp)
      refine⟨none,?_,rfl⟩
      rw[Option.bind_some,hxo,hxv]
      simp only[B6,eval,hxa,this,val,Option.map_some]
     ·obtain rfl:j=k:=by omega
      exact⟨p.2,by rw[g0,Option.bind_some,hp],by rw[g0];simp[hu]⟩
    simp only[JF,hwt,Option.bind_some,if_true,g0,hp]
    rw[if_pos (by
     rw[List.all_eq_true]
     intro j hj
     rw[List.mem_range'_1]at hj
     exact decide_eq_true (hk j hj.1 hj.2))]
    exact h6
theorem Zl{l:List Bm}{w:List (Option (Nat×Nat))}{f:Fr}{h:Ay}{n:Nat}{p:Fr×Ay}(e:Mj tb cl n 0 [] [] l w f h p):
  Bh tb cl (.regd l w) f h=some (.normal,p.1,p.2):=by
 obtain⟨tl,h1,h2,h3,h4,h5⟩:=LB (f':=p.1) (h':=p.2) e
 have h6:=h5 [] rfl (fun e he=>by cases he)
 simp only[List.nil_append]at h6
 simp only[Bh,h1,Option.bind_some,List.tail_cons,h6,h2,Option.map_some]
end
structure Ob where
 o:H6
 d:Nat
 φ:AK
 c:Nat
def mI:List Ob→List Ob
 |[]=>[]
 |m::r=>match m.c with
  |0=>mI r
  |1=>mI r
  |c+2=>{m with c:=c+1}::mI r
def Oj(d:Option Nat):List Ob→Bool
 |[]=>true
 |m::r=>(gD d m.o&&match d with|some d=> !Nat.beq d m.d|none=>true)&&Oj d r
def T.Uni(t:T):Prop:= ∀{P Q:Nat→Prop} {H G:Ay} {cs ds:List AV} {x:t.α},t.R P H cs x→t.R Q G ds x→cs=ds
theorem Xz{α:Type}{c:α→AV}{z:α}{hs hm}:(SI α c z hs hm).Uni:=fun h g=>h.trans g.symm
theorem Jg{k:IntKind}:(T.int k).Uni:=Xz
theorem SN:T.u8.Uni:=Xz
theorem Vh:Ak.Uni:=Xz
theorem EN{a b:T}(h:a.Uni)(g:b.Uni):(Lj a b).Uni:=by
 rintro P Q H G cs ds x ⟨c,d,e,h1,h2⟩ ⟨c',d',e',h1',h2'⟩
 rw[e,e',h h1 h1',g h2 h2']
theorem LJ{t:T}{β:Type}{f:β→t.α}{g:t.α→β}{hfg: ∀y,f (g y)=y}(h:t.Uni):(X0 t β f g hfg).Uni:=fun r r'=>h r r'
theorem CT.uni{t:T}(h:t.Uni){P Q:Nat→Prop}{H G:Ay}: ∀{c d:List (List AV)} {x:List t.α},CT t P H c x→CT t Q G d x→c=d
 |[],[],[],_,_=>rfl
 |_::_,_::_,_::_,h1,h2=>by rw[h h1.1 h2.1,CT.uni h h1.2 h2.2]
 |[],_::_,[],_,h2=>h2.elim
 |_::_,_,[],h1,_=>h1.elim
 |[],_,_::_,h1,_=>h1.elim
 |_::_,[],_::_,_,h2=>h2.elim
theorem T.Uni.arr{n:Nat}{t:T}(h:t.Uni):(T.arr n t).Uni:=by
 rintro P Q H G cs ds x ⟨c,e,h1⟩ ⟨c',e',h1'⟩
 rw[e,e',h1.uni h h1']
theorem T.Uni.V{t:T}(h:t.Uni){P Q:Nat→Prop}{H G:Ay}{v w:AV}{x:t.α}(r:t.V P H v x)(r':t.V Q G w x):v=w:=by
 rcases r with ⟨ha,cs,rfl,r⟩|⟨ha,r⟩
 ·rcases r' with ⟨_,ds,rfl,r'⟩|⟨hb,_⟩
  ·rw[h r r']
  ·rw[ha]at hb;cases hb
 ·rcases r' with ⟨hb,_⟩|⟨_,r'⟩
  ·rw[ha]at hb;cases hb
  ·have:=h r r'
   simpa using this
def sK:List (Σ t:T,t.α)→Prop
 |[]=>True
 |p::r=>p.1.Uni∧sK r
theorem sK.eq{P Q:Nat→Prop}{H G:Ay}: ∀{l:List (Σ t:T,t.α)} {v w:List AV},sK l→SH P H v l→SH Q G w l→v=w
 |[],[],[],_,_,_=>rfl
 |_::_,_::_,_::_,h,r,r'=>by rw[T.Uni.V h.1 r.1 r'.1,sK.eq h.2 r.2 r'.2]
 |[],_::_,_,_,r,_=>r.elim
 |[],[],_::_,_,_,r=>r.elim
 |_::_,[],_,_,r,_=>r.elim
 |_::_,_::_,[],_,_,r=>r.elim
def AK.Uni:AK→Prop
 | .val t _=>t.Uni
 | .tup l=>sK l
 | .own _=>True
 | .cp _ _=>True
 | .ep _ _ _=>True
 | .oc _ _ _ _=>True
 | .con _=>True
 | .kv _=>True
 | .fnv _ _ _=>True
 |_=>False
theorem AK.Uni.eq{φ:AK}(h:φ.Uni){rv:Nat→AV}{ss:Ss}{P Q:Nat→Prop}{H G:Ay}{v w:AV}(r:FR rv ss P H φ v)(r':FR rv ss Q G φ w):v=w:=by
 cases φ<;>simp only[AK.Uni]at h
 case val t x=>exact T.Uni.V h r r'
 case tup l=>
  obtain⟨vs,e,h1⟩:=r
  obtain⟨ws,e',h2⟩:=r'
  rw[e,e',sK.eq h h1 h2]
 case own j=>exact r.2.trans r'.2.symm
 case cp j o=>
  obtain⟨_,id,e,rfl⟩:=r
  obtain⟨_,id',e',rfl⟩:=r'
  rw[e]at e';cases e';rfl
 case ep j i o=>
  obtain⟨_,id,n,e,_,rfl⟩:=r
  obtain⟨_,id',n',e',_,rfl⟩:=r'
  rw[e]at e';cases e';rfl
 case oc j o s n=>
  obtain⟨_,id,e,rfl⟩:=r
  obtain⟨_,id',e',rfl⟩:=r'
  rw[e]at e';cases e';rfl
 case con c=>exact r.1.trans r'.1.symm
 case kv j=>exact r.2.trans r'.2.symm
 case fnv f js ks=>exact r.2.trans r'.2.symm
inductive Y9(tb:Dh)(Γ:Cx):List Ob→Prop where
 |nil:Y9 tb Γ []
 |cons {o:H6} {d c:Nat} {φ:AK} {l:List Ob} (h:EY tb Γ o (some ()) fun _=>φ) (hd:Cq tb Γ (.t d) φ) (hu:φ.Uni) (r:Y9 tb Γ l):Y9 tb Γ (⟨o,d,φ,c⟩::l)
inductive nC(f:Fr):List Ob→List X6→Prop where
 |nil:nC f [] []
 |cons {o:H6} {d c:Nat} {φ:AK} {v:AV} {l:List Ob} {ms:List X6} (h:get f d=v) (r:nC f l ms):nC f (⟨o,d,φ,c⟩::l) (⟨o,v,c⟩::ms)
theorem nC.dec{f:Fr}: ∀{l:List Ob} {ms:List X6},nC f l ms→nC f (mI l) (bU ms)
 |_,_, .nil=> .nil
 |_,_, .cons (c:=c) h r=>by
  match c with
  |0=>exact r.dec
  |1=>exact r.dec
  |c+2=>exact .cons h r.dec
theorem nC.fresh{d:Option Nat}{f:Fr}: ∀{l:List Ob} {ms:List X6},nC f l ms→Oj d l=true→P7 d ms=true
 |_,_, .nil,_=>rfl
 |_,_, .cons h r,e=>by
  simp only[Oj,Bool.and_eq_true]at e
  simp only[P7,Bool.and_eq_true]
  exact⟨e.1.1,r.fresh e.2⟩
theorem nC.put{d:Option Nat}{f:Fr}{w:AV}: ∀{l:List Ob} {ms:List X6},nC f l ms→Oj d l=true→nC (put f d w) l ms
 |_,_, .nil,_=> .nil
 |_,_, .cons h r,e=>by
  simp only[Oj,Bool.and_eq_true]at e
  refine .cons ?_ (r.put e.2)
  cases d with
  |none=>exact h
  |some d=>
   have:=e.1.2
   simp only[Bool.not_eq_true']at this
   simp only[Am.put,get]
   rw[if_neg fun e=>by rw[e,Nat.beq_refl]at this;cases this]
   exact h
theorem Y9.spec{tb:Dh}{Γ:Cx}{E:PN}{rv:Nat→AV}{fp:Fp}{f:Fr}{H:Ay}(I:B1 E Γ rv fp f H): ∀{l:List Ob} {ms:List X6},Y9 tb Γ l→nC f l ms→ ∀m∈ms,0<m.c→ ∃u,B6 tb (C5 tb) (eval tb f) H m.o=some (m.v,u)∧u.getD H=H
 |_,_, .nil, .nil,m,hm,_=>by cases hm
 |_,_, .cons h hd hu r, .cons h' r',m,hm,hc=>by
  rcases List.mem_cons.1 hm with rfl|hm
  ·obtain⟨v,u,h1,h2,h3⟩:=h E rv fp f H I () rfl
   have:=hu.eq h3 (hd E rv fp f H I)
   subst this
   exact⟨u,by rw[h1,←h'];rfl,h2⟩
  ·exact Y9.spec I r r' m hm hc
structure Cb where
 ag:Bool
 n:Nat
 t:Nat
 off:Nat
 lo:Nat
 u:T
 x:u.α
def Rt(d:Option Nat):List Cb→Bool
 |[]=>true
 |m::r=>(match d with|some d=> !Nat.beq d m.t|none=>true)&&Rt d r
inductive CR(f:Fr):List Cb→List Eob→Prop where
 |nil:CR f [] []
 |cons {ag:Bool} {n t off lo id o:Nat} {u:T} {x:u.α} {v a:AV} {l:List Cb} {es:List Eob} {P:Nat→Prop} {H:Ay} (h0:get f t= .ptr id o) (ha:a= .ptr id (o+off)) (h:u.V P H v x) (r:CR f l es):
   CR f (⟨ag,n,t,off,lo,u,x⟩::l) (⟨ag,n,a,v,lo⟩::es)
theorem CR.put{d:Option Nat}{f:Fr}{w:AV}: ∀{l:List Cb} {es:List Eob},CR f l es→Rt d l=true→CR (put f d w) l es
 |_,_, .nil,_=> .nil
 |_,_, .cons h0 ha h r,e=>by
  simp only[Rt,Bool.and_eq_true]at e
  refine .cons ?_ ha h (r.put e.2)
  cases d with
  |none=>exact h0
  |some d=>
   have:=e.1
   simp only[Bool.not_eq_true']at this
   simp only[Am.put,get]
   rw[if_neg fun e=>by rw[e,Nat.beq_refl]at this;cases this]
   exact h0
theorem CR.find{f:Fr}: ∀{l:List Cb} {es:List Eob} {i:Nat} {c:Cb},CR f l es→l[i]? =some c→ ∃e∈es,e.ag=c.ag∧e.n=c.n∧e.lo=c.lo∧(∃id o,get f c.t= .ptr id o∧e.a= .ptr id (o+c.off))∧ ∃P H,c.u.V P H e.v c.x
 |_,_,i,c, .nil,h=>by simp at h
 |_,_,0,c, .cons h0 ha h r,hc=>by
  simp only[List.getElem?_cons_zero,Option.some.injEq]at hc
  subst hc
  exact⟨_,List.mem_cons_self,rfl,rfl,rfl,⟨_,_,h0,ha⟩,_,_,h⟩
 |_,_,i+1,c, .cons h0 ha h r,hc=>by
  simp only[List.getElem?_cons_succ]at hc
  obtain⟨e,he,g⟩:=r.find hc
  exact⟨e,List.mem_cons_of_mem _ he,g⟩
def AaY(Γ:Cx)(c:Cb):Prop:= ∃j o ps N s y o',BG Γ.ts c.t=some (.cp j o)∧AG Γ.ss j=some (.cells ps)∧KM ps (o+c.off)=some (N, .val s y,o')∧ ∃F:AM s c.u o',F.get y=c.x∧c.ag=c.u.agg∧c.n=c.u.sz
theorem AaY.spec{Γ:Cx}{c:Cb}{E:PN}{rv:Nat→AV}{fp:Fp}{f:Fr}{H:Ay}(h:AaY Γ c)(R:B1 E Γ rv fp f H): ∃id o v,get f c.t= .ptr id o∧load H c.ag c.n (.ptr id (o+c.off))=some v∧c.u.V (Pf E Γ.ss fp H) H v c.x:=by
 obtain⟨j,o,ps,N,s,y,o',h1,hj,hp,F,hx,hag,hn⟩:=h
 obtain⟨l,id,e,hv⟩:=R.temps _ _ h1
 obtain⟨cs,h0,h2,h3⟩:=Hb R hj e
 obtain⟨b',c',e0,e1,e2,e3,e4,e5,_⟩:=GL h3 hp
 have hle:=F.le
 have hl:=s.len e4
 have hr:=F.getR e4
 rw[←e5 o' c.u.sz (by omega),←e1]at hr
 obtain⟨v,g1,g2⟩:=T.V.of hr
 refine⟨id,o,v,hv,?_,by rw[←hx];exact g2⟩
 rw[hag,hn]
 simp only[Am.load,place,h2,Option.map_some,Option.bind_some,if_pos (show o+c.off+c.u.sz≤cs.length by omega),g1]
inductive Mh(Γ:Cx)(k:Nat)(C:List Cb):List Cb→Prop where
 |nil:Mh Γ k C []
 |new {c:Cb} {l:List Cb} (hk:c.lo=k) (h:AaY Γ c) (r:Mh Γ k C l):Mh Γ k C (c::l)
 |old {c:Cb} {l:List Cb} (i:Nat) (hi:C[i]? =some c) (hu:c.u.Uni) (h:AaY Γ c) (r:Mh Γ k C l):Mh Γ k C (c::l)
theorem Mh.spec{Γ:Cx}{k:Nat}{C:List Cb}{es:List Eob}{E:PN}{rv:Nat→AV}{fp:Fp}{f:Fr}{H:Ay}(R:B1 E Γ rv fp f H)(hC:CR f C es): ∀{l:List Cb},Mh Γ k C l→ ∃es',CR f l es'∧ ∀e∈es',(e∈es∨e.lo=k)∧load H e.ag e.n e.a=some e.v
 |_, .nil=>⟨[], .nil,fun _ h=>by cases h⟩
 |_, .new (c:=c) hk h r=>by
  obtain⟨es',h1,h2⟩:=r.spec R hC
  obtain⟨id,o,v,g1,g2,g3⟩:=h.spec R
  refine⟨⟨c.ag,c.n, .ptr id (o+c.off),v,c.lo⟩::es', .cons g1 rfl g3 h1,fun e he=> ?_⟩
  rcases List.mem_cons.1 he with rfl|he
  ·exact⟨.inr hk,g2⟩
  ·exact h2 e he
 |_, .old (c:=c) i hi hu h r=>by
  obtain⟨es',h1,h2⟩:=r.spec R hC
  obtain⟨id,o,v,g1,g2,g3⟩:=h.spec R
  obtain⟨e,he,e1,e2,e3,⟨id',o',e4,e5⟩,P,H',e6⟩:=hC.find hi
  have hv:v=e.v:=hu.V g3 e6
  rw[g1]at e4
  cases e4
  refine⟨⟨c.ag,c.n, .ptr id (o+c.off),v,c.lo⟩::es', .cons g1 rfl g3 h1,fun x hx=> ?_⟩
  rcases List.mem_cons.1 hx with rfl|hx
  ·refine⟨.inl ?_,g2⟩
   obtain⟨ag,n,a,v',lo⟩:=e
   simp only at e1 e2 e3 e5 hv
   subst e1 e2 e3 e5 hv
   exact he
  ·exact h2 x hx
structure A4(tb:Dh)(Γ:Cx)(N k:Nat)(B:List Ob)(C:List Cb)(l:List Bm)(w:List (Option (Nat×Nat)))(ks:List Kf){ρ:Type}(Q:Nh ρ) where
 m:Option ρ
 ok: ∀E f H,Rel E Γ f H→ ∀ms,nC f B ms→ ∀es,CR f C es→ ∀r,m=some r→ ∃p e f' H',Mj tb (C5 tb) N k ms es l w f H p∧It tb ks (.normal,p.1,p.2)=some (e,f',H')∧Q E r e f' H'
section
variable{tb:Dh}{Γ:Cx}{ks:List Kf}{ρ:Type}{Q:Nh ρ}{w:List (Option (Nat×Nat))}{N k:Nat}{B:List Ob}{C C':List Cb}
def Aa.regd{l:List Bm}(n:Nat)(s:A4 tb Γ n 0 [] [] l w ks Q):Aa tb Γ (.regd l w) ks Q:=
 ⟨s.m,fun E f H R r hr=>by
  obtain⟨p,e,f',H',h1,h2,h3⟩:=s.ok E f H R [] .nil [] .nil r hr
  exact⟨e,f',H',by rw[Zl h1];exact h2,h3⟩⟩
def Ce(s:Aa tb Γ (rg false []) ks Q):A4 tb Γ N N B C [] [] ks Q:=
 ⟨s.m,fun E f H R ms _ es _ r hr=>by
  obtain⟨e,f',H',h1,h2⟩:=s.ok E f H R r hr
  rw[DL]at h1
  exact⟨(f,H),e,f',H',⟨rfl,rfl⟩,h1,h2⟩⟩
def A4.turn{l:List Bm}{Γ':Cx}(h: ∀E f H,Rel E Γ f H→Rel E Γ' f H)(s:A4 tb Γ' N k B C l w ks Q):A4 tb Γ N k B C l w ks Q:=
 ⟨s.m,fun E f H R ms hms es hes r hr=>s.ok E f H (h E f H R) ms hms es hes r hr⟩
def A4.frzRow{l:List Bm}(j:Nat){t:T}{g:GS t.α}(h:AG Γ.ss j=some (.row t g))(hn:Nat.blt j aE=true)(s:A4 tb (Γ.turn j (tQ t g)) N k B C l w ks Q):A4 tb Γ N k B C l w ks Q:=
 s.turn fun _ _ _ ⟨rv,fp,I⟩=>⟨rv,fp,I.frzRow h hn⟩
variable{o:H6}{l:List Bm}{y:Nat×Nat}
def iI(N k:Nat)(B:List Ob)(C:List Cb)(y:Nat×Nat)(d:Option Nat)(o:H6):Bool:=Po N k y.1 y.2 o&&(Oj d B&&Rt d C)
theorem stepD{cl:Nat→List AV→Ay→Lk}{d:Option Nat}{ms:List X6}{es:List Eob}{f:Fr}{H:Ay}{v:AV}{u:Option Ay}{p:Fr×Ay}(hq:iI N k B C y d o=true)(hms:nC f B ms)(h1:B6 tb cl (eval tb f) H o=some (v,u))(h2:u.getD H=H)
  (g:Mj tb cl N k ms es l w (put f d v) H p):Mj tb cl N k ms es (⟨d,none,o⟩::l) (some y::w) f H p:=by
 obtain⟨lo,hi⟩:=y
 simp only[iI,Bool.and_eq_true]at hq
 refine .inl ⟨rfl,(v,u),h1,h2,hms.fresh hq.2.1, .inl ⟨by rw[hq.1];rfl,?_⟩⟩
 simp only[iT,hq.1,cond_true]
 exact g
theorem Xk{d:Option Nat}(hq:iI N k B C y d o=true):Oj d B=true∧Rt d C=true:=by
 simp only[iI,Bool.and_eq_true]at hq;exact hq.2
def sC(B:List Ob)(C':List Cb)(d:Option Nat):Bool:=Oj d B&&Rt d C'
theorem stepW{Γ':Cx}{E:PN}{rv rv':Nat→AV}{fp fp':Fp}{d:Option Nat}{ms:List X6}{es:List Eob}{f:Fr}{H:Ay}{v:AV}{u:Option Ay}(hq:sC B C' d=true)(hb:Y9 tb Γ' B)(hc:Mh Γ k C C')(hms:nC f B ms)(hes:CR f C es)(I0:B1 E Γ rv fp f H)(h1:B6 tb (C5 tb) (eval tb f) H o=some (v,u))(I:B1 E Γ' rv' fp' (put f d v) (u.getD H)):
  ∃es',CR (put f d v) C' es'∧ ∀p,Mj tb (C5 tb) N (k+1) (bU ms) es' l w (put f d v) (u.getD H) p→Mj tb (C5 tb) N k ms es (⟨d,none,o⟩::l) (none::w) f H p:=by
 simp only[sC,Bool.and_eq_true]at hq
 obtain⟨es',g1,g2⟩:=hc.spec I0 hes
 exact⟨es',g1.put hq.2,fun p g=> .inl ⟨rfl,(v,u),es',h1,hms.fresh hq.1,hb.spec I (hms.put hq.1),g2,g⟩⟩
def A4.op{d:Nat}{β:Type}{a:Option β}{φ:β→AK}(hq:iI N k B C y (some d) o=true)(h:EY tb Γ o a φ)(s:(b:β)→A4 tb (Γ.push d (φ b)) N k B C l w ks Q):A4 tb Γ N k B C (⟨some d,none,o⟩::l) (some y::w) ks Q:=
 ⟨a.bind fun b=>(s b).m,fun E f H ⟨rv,fp,I⟩ ms hms es hes r hr=>by
  obtain⟨b,hb,hr⟩:=Option.bind_eq_some_iff.1 hr
  obtain⟨v,u,h1,h2,h3⟩:=h E rv fp f H I b hb
  obtain⟨p,e,f',H',g,g'⟩:=(s b).ok E (put f (some d) v) H ⟨rv,fp,I.push h3⟩ ms (hms.put (Xk hq).1) es (hes.put (Xk hq).2) r hr
  exact⟨p,e,f',H',stepD hq hms h1 h2 g,g'⟩⟩
def Aq{d:Nat}{φ:AK}(hq:iI N k B C y (some d) o=true)(h:EY tb Γ o (some ()) fun _=>φ)(s:A4 tb (Γ.push d φ) N k B C l w ks Q):A4 tb Γ N k B C (⟨some d,none,o⟩::l) (some y::w) ks Q:=
 ⟨s.m,(A4.op hq h fun _=>s).ok⟩
def Do{d:Nat}{t:T}{x:t.α}(hq:iI N k B C y (some d) o=true)(h:EY tb Γ o (some ()) fun _=> .val t x)(s:(y:t.α)→A4 tb (Γ.push d (.val t y)) N k B C l w ks Q):A4 tb Γ N k B C (⟨some d,none,o⟩::l) (some y::w) ks Q:=
 Aq hq h (s x)
def chkL(N k:Nat)(B:List Ob)(C:List Cb)(lo hi d:Nat)(o:H6):Bool:= !Po N k lo hi o&&(eX N k lo hi (some d) o&&(Oj (some d) B&&Rt (some d) C))
def Pr{α γ:Type}(a:Option α)(F:(b:α)→a=some b→Option γ):Option γ:=
 match a,F with
 |some b,F=>F b rfl
 |none,_=>none
theorem kW{α γ:Type}{a:Option α}{F:(b:α)→a=some b→Option γ}{r:γ}(h:Pr a F=some r): ∃b e,F b e=some r:=by
 cases a with
 |none=>cases h
 |some b=>exact⟨b,rfl,h⟩
theorem EY.at{Γ:Cx}{o:H6}{β:Type}{a:Option β}{φ:β→AK}{b:β}(h:EY tb Γ o a φ)(e:a=some b):EY tb Γ o (some ()) fun _=>φ b:=fun E rv fp f H I _ _=>h E rv fp f H I b e
def Mg{d lo hi:Nat}{β:Type}{a:Option β}{φ:β→AK}(hq:chkL N k B C lo hi d o=true)(h:EY tb Γ o a φ)
  (s:(b:β)→a=some b→A4 tb (Γ.push d (φ b)) N k (⟨o,d,φ b,hi-k⟩::B) C l w ks Q):A4 tb Γ N k B C (⟨some d,none,o⟩::l) (some (lo,hi)::w) ks Q:=
 ⟨Pr a fun b e=>(s b e).m,fun E f H ⟨rv,fp,I⟩ ms hms es hes r hr=>by
  obtain⟨b,hb,hr⟩:=kW hr
  obtain⟨v,u',h1,h2,h3⟩:=h E rv fp f H I b hb
  simp only[chkL,Bool.and_eq_true,Bool.not_eq_true']at hq
  obtain⟨p,e,f',H',h4,h5⟩:=(s b hb).ok E (put f (some d) v) H ⟨rv,fp,I.push h3⟩ (⟨o,v,hi-k⟩::ms) (.cons (by simp[put,get]) (hms.put hq.2.2.1)) es (hes.put hq.2.2.2) r hr
  refine⟨p,e,f',H', .inl ⟨rfl,(v,u'),h1,h2,hms.fresh hq.2.2.1, .inl ⟨by rw[hq.2.1];simp,?_⟩⟩,h5⟩
  simp only[iT,hq.1,cond_false]
  exact h4⟩
def Qt{d lo hi:Nat}{φ:AK}(hq:chkL N k B C lo hi d o=true)(h:EY tb Γ o (some ()) fun _=>φ)
  (s:A4 tb (Γ.push d φ) N k (⟨o,d,φ,hi-k⟩::B) C l w ks Q):A4 tb Γ N k B C (⟨some d,none,o⟩::l) (some (lo,hi)::w) ks Q:=
 ⟨s.m,(Mg hq h fun _ _=>s).ok⟩
def Da{d:Option Nat}{β:Type}{a:Option β}{Γ':β→Cx}(hq:sC B C' d=true)(hb: ∀b,Y9 tb (Γ' b) B)(hc:Mh Γ k C C')(h:X3 tb Γ d o a Γ')(s:(b:β)→A4 tb (Γ' b) N (k+1) (mI B) C' l w ks Q):A4 tb Γ N k B C (⟨d,none,o⟩::l) (none::w) ks Q:=
 ⟨a.bind fun b=>(s b).m,fun E f H ⟨rv,fp,I⟩ ms hms es hes r hr=>by
  obtain⟨b,hb',hr⟩:=Option.bind_eq_some_iff.1 hr
  obtain⟨v,u,h1,rv',fp',h3⟩:=h E rv fp f H I b hb'
  obtain⟨es',g1,g2⟩:=stepW (l:=l) (w:=w) (N:=N) hq (hb b) hc hms hes I h1 h3
  have hq':=hq;simp only[sC,Bool.and_eq_true]at hq'
  obtain⟨p,e,f',H',g,g'⟩:=(s b).ok E _ _ ⟨rv',fp',h3⟩ _ (hms.put hq'.1).dec _ g1 r hr
  exact⟨p,e,f',H',g2 p g,g'⟩⟩
end
end Go.Proofs.YtobejhpigbllpaaGreatDoor.Am
namespace Go.Proofs.YtobejhpigbllpaaGreatDoor.Am
def MZ(tB nne:Nat):D9:=⟨false,1,20,[],
 (.seq (rg false [⟨some 2,none, .mv (.t 0)⟩,⟨some 3,none, .nilc (.t 2)⟩,⟨some 4,none, .fa 0 (.t 3)⟩,⟨some 5,none, .ld false 1 (.t 4)⟩,⟨some 6,none, .eq false .p (.t 5) (.k (.nilp))⟩])
 (.cond (.t 6)
  (rg false [⟨some 7,none, .mv (.t 0)⟩,⟨some 8,none, .mv (.t 0)⟩,⟨some 9,none, .cvp (.t 8)⟩,⟨some 10,none, .call nne [(.t 9)]⟩,⟨some 11,none, .cvu tB 2 (.t 10)⟩,⟨some 12,none, .nilc (.t 7)⟩,⟨some 13,none, .fa 0 (.t 12)⟩,⟨none,none, .st 1 (.t 13) (.t 11)⟩])
  (.seq (rg false [⟨some 14,none, .mv (.t 0)⟩,⟨some 15,none, .nilc (.t 14)⟩,⟨some 16,none, .fa 0 (.t 15)⟩,⟨some 17,none, .ld false 1 (.t 16)⟩,⟨some 18,none, .mv (.t 0)⟩,⟨some 19,none, .eqp true (.t 17) (.t 18)⟩])
  (.cond (.t 19)
  .stop
  .skip))))⟩
def Vw(te ncc:Nat):D9:=⟨false,2,19,[.tmp 4, .tmp 5],
 (.seq (rg false [⟨some 4,none, .mv (.k (.i .i64 0))⟩,⟨some 5,none, .mv (.k (.nili))⟩])
 (.seq (rg false [⟨some 6,none, .mv (.t 0)⟩,⟨some 7,none, .call ncc [(.t 6)]⟩])
 (.seq (rg false [⟨some 8,none, .mv (.t 0)⟩,⟨some 9,none, .mv (.t 0)⟩,⟨some 10,none, .nilc (.t 9)⟩,⟨some 11,none, .fa 1 (.t 10)⟩,⟨some 12,none, .ld false 1 (.t 11)⟩,⟨some 13,none, .mv (.t 1)⟩,⟨some 14,none, .app te 1 1 (.t 12) (.t 13)⟩,⟨some 15,none, .nilc (.t 8)⟩,⟨some 16,none, .fa 1 (.t 15)⟩,⟨none,none, .st 1 (.t 16) (.t 14)⟩])
 (.seq (rg false [⟨some 17,none, .mv (.t 1)⟩,⟨some 18,none, .lens (.t 17)⟩,⟨some 4,none, .mv (.t 18)⟩,⟨some 5,none, .mv (.k (.nili))⟩])
 .ret))))⟩
def Vx(te ncc:Nat):D9:=⟨false,2,17,[.tmp 4],
 (.seq (rg false [⟨some 4,none, .mv (.k (.nili))⟩])
 (.seq (rg false [⟨some 5,none, .mv (.t 0)⟩,⟨some 6,none, .call ncc [(.t 5)]⟩])
 (.seq (rg false [⟨some 7,none, .mv (.t 0)⟩,⟨some 8,none, .mv (.t 0)⟩,⟨some 9,none, .nilc (.t 8)⟩,⟨some 10,none, .fa 1 (.t 9)⟩,⟨some 11,none, .ld false 1 (.t 10)⟩,⟨some 12,none, .mv (.t 1)⟩,⟨some 13,none, .bll 1 (List.replicate 1 T.u8.zc) [(0,(.t 12))]⟩,⟨some 14,none, .app te 1 1 (.t 11) (.t 13)⟩,⟨some 15,none, .nilc (.t 7)⟩,⟨some 16,none, .fa 1 (.t 15)⟩,⟨none,none, .st 1 (.t 16) (.t 14)⟩])
 (.seq (rg false [⟨some 4,none, .mv (.k (.nili))⟩])
 .ret))))⟩
def R6(te:Nat):D9:=⟨false,1,14,[.tmp 2],
 (.seq (rg false [⟨some 2,none, .mv (.k (.s []))⟩])
 (.seq (.regd [⟨some 3,none, .mv (.t 0)⟩,⟨some 4,none, .nilc (.t 3)⟩,⟨some 5,none, .fa 1 (.t 4)⟩,⟨some 6,none, .ld false 1 (.t 5)⟩,⟨some 7,none, .usd (.t 6)⟩,⟨some 8,none, .mv (.t 0)⟩,⟨some 9,none, .nilc (.t 8)⟩,⟨some 10,none, .fa 1 (.t 9)⟩,⟨some 11,none, .ld false 1 (.t 10)⟩,⟨some 12,none, .len (.t 11)⟩,⟨some 13,none, .ust te (.t 7) (.t 12)⟩,⟨some 2,none, .mv (.t 13)⟩] [some (0,0),some (0,0),some (0,0),some (0,0),some (0,0),some (0,0),some (0,0),some (0,0),some (0,0),some (0,0),none,some (1,1)])
 .ret))⟩
section
variable{tb:Dh}{tB te ncc nne nws nwb nbs:Nat}{h:Ay}{id:Nat}{a b:AV}
theorem GO{cs:List AV}{l:Option Nat}(hh:h[id]? =some (.cells l cs)):Cu h id=some cs∧EP h id=l:=⟨by simp only[Cu,hh],by simp only[EP,hh]⟩
theorem dR{els:List (List AV)}{l:Option Nat}{fz:Bool}{sz:Nat}(hh:h[id]? =some (.row l fz sz els)):rowAt h id=some (fz,sz,els)∧EP h id=l:=⟨by simp only[rowAt,hh],by simp only[EP,hh]⟩
theorem LT(fn:Bool)(n:Nat)(h:Ay)(hn:h.length=n)(vs:List AV)(hv:Bx vs=0): ∃u,Wb fn n h vs=(GB vs,some u)∧u=h:=by
 have h1:bE h n vs=some vs:=by
  unfold bE
  exact Od (by omega)
 have h2:h.take n=h:=by rw[←hn];exact List.take_length
 cases fn
 ·simp only[Wb,Ws,h1,h2]
  split<;>exact⟨_,rfl,rfl⟩
 ·exact⟨_,rfl,rfl⟩
theorem Th(n:Nat)(h:Ay)(hn: ¬Ds (h.take n)≤n)(vs:List AV)(hv:Bx vs=0)(fn:Bool):Wb fn n h vs=(GB vs,some h):=by
 have h1:bE h n vs=some vs:=by
  unfold bE
  exact Od (by omega)
 cases fn
 ·simp only[Wb,Ws,h1,if_neg hn]
 ·rfl
theorem Vs(hf:tb.prim ncc=none∧tb.fns ncc=some (MZ tB nne))(hne:tb.prim nne=some OF)(hh:h[id]? =some (.cells (some tB) [a,b]))(ha:a= .nilp∨a= .ptr id 0):
  B8 tb (C5 tb) h ncc [.ptr id 0]=some (.tup [],some (h.set id (.cells (some tB) [.ptr id 0,b]))):=by
 obtain⟨hc,hl⟩:=GO hh
 have hid:=(List.getElem?_eq_some_iff.1 hh).1
 simp only[B8,hf.1]
 rw[PE,hf.2]
 rcases ha with rfl|rfl
 ·obtain⟨u,hu,rfl⟩:=LT false h.length (h.set id (.cells (some tB) [.ptr id 0,b])) (by simp) [] rfl
  simp[body,MZ,Bh,rg,ops,wanted,B6,eval,get,put,val,load,place,shift,hc,hl,Im,sub,jH,B8,hne,OF,store,cellsOf,B3,results,hu,GB]
 ·have hs:h.set id (.cells (some tB) [.ptr id 0,b])=h:=by
   apply List.ext_getElem?
   intro j
   rw[List.getElem?_set]
   split
   ·rename_i hj;subst hj;exact hh.symm
   ·rfl
  obtain⟨u,hu,rfl⟩:=LT false h.length h rfl [] rfl
  simp[body,MZ,Bh,rg,ops,wanted,B6,eval,get,put,val,load,place,shift,hc,Im,sub,jH,results,hu,GB,hs]
theorem KQ(s:AH):(BI s).length=s.length:=by simp[BI]
theorem iL(s t:AH):BI (s++t)=BI s++BI t:=by simp[BI]
theorem dO{h:Ay}{o:C6}(hh:h[id]? =some o):h.set id o=h:=by
 apply List.ext_getElem?
 intro j
 rw[List.getElem?_set]
 split
 ·rename_i hj;subst hj
  split
  ·exact hh.symm
  ·rename_i hn;exact absurd (List.getElem?_eq_some_iff.1 hh).1 hn
 ·rfl
inductive X4(tB te:Nat)(h:Ay)(id:Nat)(s:AH):Ay→Prop where
 |none {a:AV} (hh:h[id]? =some (.cells (some tB) [a, .nils])) (ha:a= .nilp∨a= .ptr id 0) (hs:s=[]):X4 tB te h id s (h.set id (.cells (some tB) [.ptr id 0, .nils]))
 |first {a:AV} (hh:h[id]? =some (.cells (some tB) [a, .nils])) (ha:a= .nilp∨a= .ptr id 0) (hs:s≠[]) (hm:s.length≤Di):
  X4 tB te h id s (h.set id (.cells (some tB) [.ptr id 0, .orow h.length s.length 0 s.length])++[.row (some te) false 1 (BI s)])
 |more {r:Nat} {l:AH} (hh:h[id]? =some (.cells (some tB) [.ptr id 0, .orow r l.length 0 l.length])) (hr:h[r]? =some (.row (some te) false 1 (BI l))) (hne:r≠id) (hm:l.length+s.length≤Di):
  X4 tB te h id s ((h.set r (.row (some te) false 1 (BI (l++s)))).set id (.cells (some tB) [.ptr id 0, .orow r (l++s).length 0 (l++s).length]))
theorem Zx{s:AH}{G:Ay}(hid:id<h.length)(hG:G=h.set id (.cells (some tB) [.ptr id 0, .orow h.length s.length 0 s.length])++[.row (some te) false 1 (BI s)]): ¬Ds (G.take h.length)≤h.length:=by
 have h1:G.take h.length=h.set id (.cells (some tB) [.ptr id 0, .orow h.length s.length 0 s.length]):=by
  rw[hG];exact List.take_left' (by simp)
 rw[h1]
 have key: ∀(h:Ay) (id:Nat) (o:C6) (m:Nat),id<h.length→m<ED o→m<Ds (h.set id o):=by
  intro h
  induction h with
  |nil=>intro id o m hi;simp at hi
  |cons x h ih=>
   intro id o m hi ho
   cases id with
   |zero=>simp only[List.set_cons_zero,Ds];omega
   |succ id=>simp only[List.set_cons_succ,Ds];have:=ih id o m (by simpa using hi) ho;omega
 have:=key h id (.cells (some tB) [.ptr id 0, .orow h.length s.length 0 s.length]) h.length hid (by simp only[ED,Bx,BR];omega)
 omega
theorem Nk{d:Option Nat}{o:H6}{l:List Bm}{f:Fr}{v:AV}{u:Option Ay}{r:Option (Fr×Ay)}(e:B6 tb (C5 tb) (eval tb f) h o=some (v,u))(k:ops tb (C5 tb) l (put f d v) (u.getD h)=r):ops tb (C5 tb) (⟨d,none,o⟩::l) f h=r:=by
 simp[ops,wanted,e,k]
theorem Ji{l:List Bm}{y:AC}{f f':Fr}{h':Ay}(e:ops tb (C5 tb) l f h=some (f',h')):Bh tb (C5 tb) (.seq (rg false l) y) f h=Bh tb (C5 tb) y f' h':=by
 simp[Bh,rg,e]
theorem sZ{N j:Nat}{d:Option Nat}{o:H6}{l:List Bm}{w:List (Option (Nat×Nat))}{y:Nat×Nat}{f:Fr}{v:AV}{p:Fr×Ay}(e:B6 tb (C5 tb) (eval tb f) h o=some (v,none))(k:Mj tb (C5 tb) N j [] [] l w (put f d v) h p)(hq:Po N j y.1 y.2 o=true:=by rfl):Mj tb (C5 tb) N j [] [] (⟨d,none,o⟩::l) (some y::w) f h p:=by
 obtain⟨lo,hi⟩:=y
 refine .inl ⟨rfl,(v,none),e,rfl,rfl, .inl ⟨by rw[hq];rfl,?_⟩⟩
 simp only[iT,hq,cond_true]
 exact k
theorem stW{N j:Nat}{d:Option Nat}{o:H6}{l:List Bm}{w:List (Option (Nat×Nat))}{f:Fr}{v:AV}{u:Option Ay}{p:Fr×Ay}(e:B6 tb (C5 tb) (eval tb f) h o=some (v,u))(k:Mj tb (C5 tb) N (j+1) [] [] l w (put f d v) (u.getD h) p):Mj tb (C5 tb) N j [] [] (⟨d,none,o⟩::l) (none::w) f h p:=
 .inl ⟨rfl,(v,u),[],e,rfl,(fun _ hm=>absurd hm (by simp)),(fun _ hx=>absurd hx (by simp)),k⟩
theorem stE{N:Nat}{f:Fr}:Mj tb (C5 tb) N N [] [] [] [] f h (f,h):=⟨rfl,rfl⟩
theorem nQ{x y:AC}{f f':Fr}{h':Ay}(e:Bh tb (C5 tb) x f h=some (.normal,f',h')):Bh tb (C5 tb) (.seq x y) f h=Bh tb (C5 tb) y f' h':=by
 simp[Bh,e]
theorem Zy{cl:Nat→List AV→Ay→Lk}{rho:AO→AV}{x:AO}{ag:Bool}{n:Nat}{v:AV}(e:load h ag n (rho x)=some v):B6 tb cl rho h (.ld ag n x)=some (v,none):=by simp[B6,e,val]
theorem xP{cl:Nat→List AV→Ay→Lk}{rho:AO→AV}{s x:AO}{t sz b:Nat}{new:List (List AV)}{r:AV×Option Ay}(e:eJ h sz (rho x)=some new)(e':TI h t sz b (rho s) new=some r):B6 tb cl rho h (.app t sz b s x)=some r:=by simp[B6,e,e']
theorem ap_st{cl:Nat→List AV→Ay→Lk}{rho:AO→AV}{a x:AO}{n:Nat}{G:Ay}(e:store h n (rho a) (rho x)=some G):B6 tb cl rho h (.st n a x)=some (.junk,some G):=by simp[B6,e]
theorem ap_len{cl:Nat→List AV→Ay→Lk}{rho:AO→AV}{x:AO}{n:Nat}(e:Og (rho x)=some n):B6 tb cl rho h (.len x)=some (.i .i64 n,none):=by simp[B6,e]
theorem Vt{rho:AO→AV}{g:Nat}{xs:List AO}{r:AV×Option Ay}(e:B8 tb (C5 tb) h g (xs.map rho)=some r):B6 tb (C5 tb) rho h (.call g xs)=some r:=by simp only[B6];exact e
theorem ws_run{s:AH}{h1 G:Ay}{bv bv':AV}{u2:Option Ay}(hc:B8 tb (C5 tb) h ncc [.ptr id 0]=some (.tup [],some h1))(hld:load h1 false 1 (.ptr id 1)=some bv)(hap:TI h1 te 1 1 bv (BI s)=some (bv',u2))(hst:store (u2.getD h1) 1 (.ptr id 1) bv'=some G):
  ∃f',Bh tb (C5 tb) (Vw te ncc).body [(0, .ptr id 0),(1, .s s)] h=some (.ret,f',G)∧results f' G [.tmp 4, .tmp 5]=some [.i .i64 s.length, .nili]:=by
 apply Exists.intro
 apply And.intro
 ·unfold Vw
  simp only
  refine(Ji (Nk (v:= .i .i64 0) (u:=none) rfl (Nk (v:= .nili) (u:=none) rfl rfl))).trans ?_
  refine(Ji (Nk (v:= .ptr id 0) (u:=none) rfl (Nk (v:= .tup []) (u:=some h1) (Vt (by exact hc)) rfl))).trans ?_
  refine(Ji (Nk (v:= .ptr id 0) (u:=none) rfl (Nk (v:= .ptr id 0) (u:=none) rfl (Nk (v:= .ptr id 0) (u:=none) rfl (Nk (v:= .ptr id 1) (u:=none) rfl (Nk (v:=bv) (u:=none) (Zy (by exact hld))
   (Nk (v:= .s s) (u:=none) rfl (Nk (v:=bv') (u:=u2) (xP (new:=BI s) rfl (by exact hap)) (Nk (v:= .ptr id 0) (u:=none) rfl (Nk (v:= .ptr id 1) (u:=none) rfl
   (Nk (v:= .junk) (u:=some G) (ap_st (by exact hst)) rfl))))))))))).trans ?_
  refine(Ji (Nk (v:= .s s) (u:=none) rfl (Nk (v:= .i .i64 s.length) (u:=none) rfl (Nk (v:= .i .i64 s.length) (u:=none) rfl (Nk (v:= .nili) (u:=none) rfl rfl))))).trans ?_
  rfl
 ·rfl
theorem wb_run{c:UInt8}{h1 G:Ay}{bv bv':AV}{u2:Option Ay}(hc:B8 tb (C5 tb) h ncc [.ptr id 0]=some (.tup [],some h1))(hld:load h1 false 1 (.ptr id 1)=some bv)(hap:TI h1 te 1 1 bv (BI [c])=some (bv',u2))(hst:store (u2.getD h1) 1 (.ptr id 1) bv'=some G):
  ∃f',Bh tb (C5 tb) (Vx te ncc).body [(0, .ptr id 0),(1, .i .u8 c.toNat)] h=some (.ret,f',G)∧results f' G [.tmp 4]=some [.nili]:=by
 apply Exists.intro
 apply And.intro
 ·unfold Vx
  simp only
  refine(Ji (Nk (v:= .nili) (u:=none) rfl rfl)).trans ?_
  refine(Ji (Nk (v:= .ptr id 0) (u:=none) rfl (Nk (v:= .tup []) (u:=some h1) (Vt (by exact hc)) rfl))).trans ?_
  refine(Ji (Nk (v:= .ptr id 0) (u:=none) rfl (Nk (v:= .ptr id 0) (u:=none) rfl (Nk (v:= .ptr id 0) (u:=none) rfl (Nk (v:= .ptr id 1) (u:=none) rfl (Nk (v:=bv) (u:=none) (Zy (by exact hld))
   (Nk (v:= .i .u8 c.toNat) (u:=none) rfl (Nk (v:= .sl 1 (BI [c])) (u:=none) rfl (Nk (v:=bv') (u:=u2) (xP (new:=BI [c]) rfl (by exact hap)) (Nk (v:= .ptr id 0) (u:=none) rfl (Nk (v:= .ptr id 1) (u:=none) rfl
   (Nk (v:= .junk) (u:=some G) (ap_st (by exact hst)) rfl)))))))))))).trans ?_
  refine(Ji (Nk (v:= .nili) (u:=none) rfl rfl)).trans ?_
  rfl
 ·rfl
theorem WI(hcc:tb.prim ncc=none∧tb.fns ncc=some (MZ tB nne))(hne:tb.prim nne=some OF){s:AH}{G:Ay}(hg:X4 tB te h id s G):
  ∃h1 bv bv' u2,B8 tb (C5 tb) h ncc [.ptr id 0]=some (.tup [],some h1)∧load h1 false 1 (.ptr id 1)=some bv∧TI h1 te 1 1 bv (BI s)=some (bv',u2)∧store (u2.getD h1) 1 (.ptr id 1) bv'=some G∧
   (G.length=h.length∨ ¬Ds (G.take h.length)≤h.length):=by
 cases hg with
 |none hh ha hs=>
  subst hs
  have hc:=Vs hcc hne hh ha
  have hid:=(List.getElem?_eq_some_iff.1 hh).1
  have h2:=GO (h:=h.set id (.cells (some tB) [.ptr id 0, .nils])) (List.getElem?_set_self hid)
  refine⟨_, .nils, .nils,none,hc,?_,?_,?_, .inl (by simp)⟩
  ·simp[load,place,h2.1,Im,sub]
  ·simp[TI,BI]
  ·simp[store,h2.1,h2.2,cellsOf,B3]
 |first hh ha hs hm=>
  have hc:=Vs hcc hne hh ha
  have hid:=(List.getElem?_eq_some_iff.1 hh).1
  have h2:=GO (h:=h.set id (.cells (some tB) [.ptr id 0, .nils])) (List.getElem?_set_self hid)
  have hid':id<(h.set id (C6.cells (some tB) [.ptr id 0, .nils])).length:=by simpa using hid
  have h3:(h.set id (C6.cells (some tB) [.ptr id 0, .nils])++[C6.row (some te) false 1 (BI s)])[id]? =some (.cells (some tB) [.ptr id 0, .nils]):=by
   rw[List.getElem?_append_left hid']
   exact List.getElem?_set_self hid
  have h4:=GO h3
  have hs0: ¬s.length=0:=by simpa using hs
  refine⟨_, .nils, .orow h.length s.length 0 s.length,some (h.set id (C6.cells (some tB) [.ptr id 0, .nils])++[C6.row (some te) false 1 (BI s)]),hc,?_,?_,?_, .inr (Zx (te:=te) (tB:=tB) (s:=s) hid rfl)⟩
  ·simp[load,place,h2.1,Im,sub]
  ·simp[TI,KQ,hs,hm]
  ·simp[store,h4.1,h4.2,cellsOf,B3]
   rw[List.set_append_left _ _ hid',List.set_set]
 | @more r l hh hr hne' hm=>
  have hc:=Vs hcc hne hh (.inr rfl)
  rw[dO hh]at hc
  have h1:=GO hh
  have hrow:=dR hr
  by_cases hs:s=[]
  ·subst hs
   have hm':l.length≤Di:=by simpa using hm
   refine⟨_, .orow r l.length 0 l.length, .orow r l.length 0 l.length,none,hc,?_,?_,?_, .inl (by simp)⟩
   ·simp[load,place,h1.1,Im,sub]
   ·simp[TI,hrow.1,KQ,hm',BI]
   ·simp[store,h1.1,h1.2,cellsOf,B3,dO hr]
  ·have h2:(h.set r (C6.row (some te) false 1 (BI (l++s))))[id]? =some (.cells (some tB) [.ptr id 0, .orow r l.length 0 l.length]):=by
    rw[List.getElem?_set_ne hne'];exact hh
   have h3:=GO h2
   have hs0: ¬s.length=0:=by simpa using hs
   refine⟨_, .orow r l.length 0 l.length, .orow r (l++s).length 0 (l++s).length,some (h.set r (C6.row (some te) false 1 (BI (l++s)))),hc,?_,?_,?_, .inl (by simp)⟩
   ·simp[load,place,h1.1,Im,sub]
   ·simp[TI,hrow.1,hrow.2,KQ,iL,hm,hs,TZ]
   ·simp[store,h3.1,h3.2,cellsOf,B3]
theorem O4{fn:D9}{args vs:List AV}{f f':Fr}{G:Ay}{e:Ex}(hn:args.length=fn.np)(hf:(args.zipIdx.map fun p=>(p.2,p.1))=f)(he:Bh tb (C5 tb) fn.body f h=some (e,f',G))(hex:e= .ret∨e= .normal)(hr:results f' G fn.res=some vs):
  body tb (C5 tb) fn args h=some (Wb fn.warm h.length G vs):=by
 simp only[body,if_pos hn,hf,he,Option.bind_some]
 rcases hex with rfl|rfl<;>simp[hr]
theorem yG(hf:tb.prim nws=none∧tb.fns nws=some (Vw te ncc))(hcc:tb.prim ncc=none∧tb.fns ncc=some (MZ tB nne))(hne:tb.prim nne=some OF){s:AH}{G:Ay}(hg:X4 tB te h id s G):
  B8 tb (C5 tb) h nws [.ptr id 0, .s s]=some (.tup [.i .i64 s.length, .nili],some G):=by
 obtain⟨h1,bv,bv',u2,a1,a2,a3,a4,a5⟩:=WI hcc hne hg
 obtain⟨f',e1,e2⟩:=ws_run a1 a2 a3 a4
 simp only[B8,hf.1]
 rw[PE,hf.2]
 simp only[Option.bind_some]
 rw[O4 (tb:=tb) (h:=h) (fn:=Vw te ncc) (args:=[.ptr id 0, .s s]) rfl rfl e1 (.inl rfl) e2]
 rcases a5 with a5|a5
 ·obtain⟨u,hu,rfl⟩:=LT false h.length G a5 [.i .i64 s.length, .nili] rfl
  exact congrArg some hu
 ·exact congrArg some (Th h.length G a5 [.i .i64 s.length, .nili] rfl false)
theorem yI(hf:tb.prim nwb=none∧tb.fns nwb=some (Vx te ncc))(hcc:tb.prim ncc=none∧tb.fns ncc=some (MZ tB nne))(hne:tb.prim nne=some OF){c:UInt8}{G:Ay}(hg:X4 tB te h id [c] G):
  B8 tb (C5 tb) h nwb [.ptr id 0, .i .u8 c.toNat]=some (.nili,some G):=by
 obtain⟨h1,bv,bv',u2,a1,a2,a3,a4,a5⟩:=WI hcc hne hg
 obtain⟨f',e1,e2⟩:=wb_run a1 a2 a3 a4
 simp only[B8,hf.1]
 rw[PE,hf.2]
 simp only[Option.bind_some]
 rw[O4 (tb:=tb) (h:=h) (fn:=Vx te ncc) (args:=[.ptr id 0, .i .u8 c.toNat]) rfl rfl e1 (.inl rfl) e2]
 rcases a5 with a5|a5
 ·obtain⟨u,hu,rfl⟩:=LT false h.length G a5 [.nili] rfl
  exact congrArg some hu
 ·exact congrArg some (Th h.length G a5 [.nili] rfl false)
theorem Zs: ∀l:AH,EX (BI l)=some l
 |[]=>rfl
 |c::l=>by
  have:=Zs l
  simp only[BI,List.map_cons,EX]at this ⊢
  rw[this]
  simp
theorem xL{G:Ay}{bv pv:AV}{n:Nat}{s:AH}{u2:Option Ay}(hld:load h false 1 (.ptr id 1)=some bv)(hus:B6 tb (C5 tb) (fun _=>bv) h (.usd (.t 0))=some (pv,none))(hln:Og bv=some n)
  (hst:B6 tb (C5 tb) (fun a=>match a with| .t 0=>pv|_=> .i .i64 n) h (.ust te (.t 0) (.t 1))=some (.s s,u2)) (hG:u2.getD h=G):
  ∃f',Bh tb (C5 tb) (R6 te).body [(0, .ptr id 0)] h=some (.ret,f',G)∧results f' G [.tmp 2]=some [.s s]:=by
 subst hG
 apply Exists.intro
 apply And.intro
 ·unfold R6
  simp only
  refine(Ji (Nk (v:= .s []) (u:=none) rfl rfl)).trans ?_
  refine(nQ (Zl (n:=1) (p:=(_,u2.getD h))
   (sZ (v:= .ptr id 0) rfl (sZ (v:= .ptr id 0) rfl (sZ (v:= .ptr id 1) rfl (sZ (v:=bv) (Zy (by exact hld)) (sZ (v:=pv) (by exact hus) (sZ (v:= .ptr id 0) rfl (sZ (v:= .ptr id 0) rfl (sZ (v:= .ptr id 1) rfl (sZ (v:=bv) (Zy (by exact hld)) (sZ (v:= .i .i64 n) (ap_len (by exact hln))
    (stW (v:= .s s) (u:=u2) (by exact hst) (sZ (v:= .s s) rfl stE)))))))))))))).trans ?_
  rfl
 ·rfl
theorem iM(hf:tb.prim nbs=none∧tb.fns nbs=some (R6 te))(hh:h[id]? =some (.cells (some tB) [a, .nils])):B8 tb (C5 tb) h nbs [.ptr id 0]=some (.s [],some h):=by
 have hcl:=(GO hh).1
 obtain⟨f',e1,e2⟩:=xL (tb:=tb) (te:=te) (h:=h) (id:=id) (G:=h) (bv:= .nils) (pv:= .nilp) (n:=0) (s:=[]) (u2:=none) (by simp[load,place,hcl,Im,sub]) rfl rfl (by simp[B6,Io]) rfl
 simp only[B8,hf.1]
 rw[PE,hf.2]
 simp only[Option.bind_some]
 rw[O4 (tb:=tb) (h:=h) (fn:=R6 te) (args:=[.ptr id 0]) rfl rfl e1 (.inl rfl) e2]
 obtain⟨u,hu,rfl⟩:=LT false h.length h rfl [.s []] rfl
 exact congrArg some hu
theorem AaQ(hf:tb.prim nbs=none∧tb.fns nbs=some (R6 te)){r:Nat}{l:AH}(hh:h[id]? =some (.cells (some tB) [a, .orow r l.length 0 l.length]))(hr:h[r]? =some (.row (some te) false 1 (BI l)))(hl:l≠[])(hm:l.length≤Di):
  B8 tb (C5 tb) h nbs [.ptr id 0]=some (.s l,some (h.set r (.row (some te) true 1 (BI l)))):=by
 have hcl:=(GO hh).1
 have hrow:=dR hr
 have hpos:0<l.length:=List.length_pos_iff.2 hl
 have htk:(BI l).take l.length=BI l:=List.take_of_length_le (by simp[BI])
 obtain⟨f',e1,e2⟩:=xL (tb:=tb) (te:=te) (h:=h) (id:=id) (G:=h.set r (.row (some te) true 1 (BI l))) (bv:= .orow r l.length 0 l.length) (pv:= .pe r l.length 0 0) (n:=l.length) (s:=l) (u2:=some (h.set r (.row (some te) true 1 (BI l))))
  (by simp[load,place,hcl,Im,sub]) (by simp[B6,hrow.1,KQ,hpos]) rfl (by simp[B6,Io,hrow.1,hrow.2,KQ,hpos,htk,Zs,show(l.length:Int)≤Di by omega]) rfl
 simp only[B8,hf.1]
 rw[PE,hf.2]
 simp only[Option.bind_some]
 rw[O4 (tb:=tb) (h:=h) (fn:=R6 te) (args:=[.ptr id 0]) rfl rfl e1 (.inl rfl) e2]
 obtain⟨u,hu,rfl⟩:=LT false h.length (h.set r (.row (some te) true 1 (BI l))) (by simp) [.s l] rfl
 exact congrArg some hu
end
end Go.Proofs.YtobejhpigbllpaaGreatDoor.Am
namespace Go.Proofs.YtobejhpigbllpaaGreatDoor.Am
def PO(tB te:Nat)(g:Bool):Dom where
 α:=AH
 R:=fun F _ H v l=> ∃id,v= .ptr id 0∧((g=false∧l=[]∧ ∃a,(a= .nilp∨a= .ptr id 0)∧H[id]? =some (.cells (some tB) [a, .nils])∧ ∀i,F i↔i=id)∨
  ((g=true∨l≠[])∧ ∃r,r≠id∧H[id]? =some (.cells (some tB) [.ptr id 0, .orow r l.length 0 l.length])∧H[r]? =some (.row (some te) false 1 (BI l))∧ ∀i,F i↔(i=id∨i=r)))
 lt:=by
  rintro F P H v l ⟨id,_,⟨_,_,a,_,h,hF⟩|⟨_,r,_,h,h',hF⟩⟩ i hi
  ·obtain rfl:=(hF i).1 hi;exact Bj h
  ·rcases(hF i).1 hi with rfl|rfl
   ·exact Bj h
   ·exact Bj h'
 men:=by
  rintro F P H v l m ⟨id,rfl,⟨_,_,a,_,h,hF⟩|⟨_,r,_,h,h',hF⟩⟩ _ hm
  ·exact hm id ((hF id).2 rfl)
  ·exact hm id ((hF id).2 (.inl rfl))
 mono:=by
  rintro F P Q H G v l _ hG ⟨id,hv,⟨h0,h1,a,h2,h,hF⟩|⟨h0,r,h1,h,h',hF⟩⟩
  ·exact⟨id,hv, .inl ⟨h0,h1,a,h2,by rw[hG id ((hF id).2 rfl)];exact h,hF⟩⟩
  ·exact⟨id,hv, .inr ⟨h0,r,h1,by rw[hG id ((hF id).2 (.inl rfl))];exact h,by rw[hG r ((hF r).2 (.inr rfl))];exact h',hF⟩⟩
def yF:Dom where
 α:=Unit
 R:=fun F _ H v _=>(∀i,F i→i<H.length)∧ ∃id,v= .ptr id 0∧F id
 lt:=fun h=>h.1
 men:=by rintro F P H v x m ⟨_,id,rfl,h⟩ _ hm;exact hm id h
 mono:=by
  rintro F P Q H G v x _ hG ⟨h,id,hv,hi⟩
  refine⟨fun i hi=> ?_,id,hv,hi⟩
  have h1:=h i hi
  have h2:=hG i hi
  rw[List.getElem?_eq_getElem h1]at h2
  exact Bj h2
theorem Oc(l:AH):Dt (BI l)=0:=by
 have:=(Zz (P:=fun _=>False) (H:=[]) l).men (m:=0) (fun _ h=>h.elim)
 omega
section
variable{tb:Dh}{tB te ncc nne nws nwb nbs:Nat}
theorem iP{g:Bool}{F P:Nat→Prop}{H:Ay}{v:AV}{l s:AH}(hw:Ds H≤H.length)(h:(PO tB te g).R F P H v l)(hm:l.length+s.length≤Di):
  ∃id G F',v= .ptr id 0∧X4 tB te H id s G∧H.length≤G.length∧(∀i,i<H.length→ ¬F i→G[i]? =H[i]?)∧(∀i,F' i→F i∨(H.length≤i∧i<G.length))∧Ds G≤G.length∧ ∀Q,(PO tB te g).R F' Q G v (l++s):=by
 obtain⟨id,hv,⟨h0,h1,a,ha,hh,hF⟩|⟨h0,r,hne,hh,hr,hF⟩⟩:=h
 ·subst h1
  have hid:=Bj hh
  by_cases hs:s=[]
  ·subst hs
   refine⟨id,_,F,hv, .none hh ha rfl,by simp,fun i _ hi=>List.getElem?_set_ne fun e=>hi ((hF i).2 e.symm),fun i hi=> .inl hi,?_,fun Q=>⟨id,hv, .inl ⟨h0,rfl,_, .inr rfl,List.getElem?_set_self hid,hF⟩⟩⟩
   simp only[List.length_set]
   exact HV hw (by simp only[ED,Bx,BR];omega)
  ·refine⟨id,_,fun i=>i=id∨i=H.length,hv, .first hh ha hs (by simpa using hm),by simp,fun i hi hn=> ?_,fun i hi=> ?_,?_,fun Q=>⟨id,hv, .inr ⟨.inr (by simpa using hs),H.length,by omega,?_,?_,fun i=>Iff.rfl⟩⟩⟩
   ·rw[List.getElem?_append_left (by simpa using hi)]
    exact List.getElem?_set_ne fun e=>hn ((hF i).2 e.symm)
   ·rcases hi with rfl|rfl
    ·exact .inl ((hF _).2 rfl)
    ·exact .inr ⟨Nat.le_refl _,by simp⟩
   ·rw[Qd]
    have:=HV (l:=H) (i:=id) (o:= .cells (some tB) [.ptr id 0, .orow H.length s.length 0 s.length]) (m:=H.length+1) (by omega) (by simp only[ED,Bx,BR];omega)
    simp only[Ds,ED,Oc,List.length_append,List.length_set,List.length_cons,List.length_nil]
    omega
   ·rw[List.getElem?_append_left (by simpa using hid),List.nil_append]
    exact List.getElem?_set_self hid
   ·rw[List.getElem?_append_right (by simp)];simp
 ·have hid:=Bj hh
  have hrd:=Bj hr
  refine⟨id,_,F,hv, .more hh hr hne hm,by simp,fun i _ hi=> ?_,fun i hi=> .inl hi,?_,fun Q=>⟨id,hv, .inr ⟨?_,r,hne,?_,?_,hF⟩⟩⟩
  ·rw[List.getElem?_set_ne (fun e=>hi ((hF i).2 (.inl e.symm))),List.getElem?_set_ne (fun e=>hi ((hF i).2 (.inr e.symm)))]
  ·simp only[List.length_set]
   exact HV (HV hw (by simp only[ED,Oc];omega)) (by simp only[ED,Bx,BR];omega)
  ·rcases h0 with h0|h0
   ·exact .inl h0
   ·exact .inr (by simp[h0])
  ·exact List.getElem?_set_self (by simpa using hid)
  ·rw[List.getElem?_set_ne (Ne.symm hne)]
   exact List.getElem?_set_self hrd
variable{Γ:Cx}{a b:AO}
theorem yA{d:Nat}{z:List AV}(j:Nat)(te:Nat)(hz:z=[.nilp, .nils])(hj:AG Γ.ss j=none):X3 tb Γ (some d) (.alloc tB z) (some ([]:AH)) fun l=>⟨(d, .own j)::Γ.ts,(j, .dom (PO tB te false) l)::Γ.ss⟩:=by
 rintro E rv fp f H R _ ⟨⟩
 subst hz
 obtain⟨rv',fp',h1,h2,h3⟩:=R.more (j:=j) (S:= .dom (PO tB te false) []) (v:= .ptr H.length 0) (o:= .cells (some tB) [.nilp, .nils]) (HW hj) (by simp only[ED,Bx,BR];omega) rfl (by simp[BR]) rfl fun rv' fp' e1 e2 hP hs=>
  ⟨H.length,e1, .inl ⟨rfl,rfl, .nilp, .inl rfl,by simp,e2⟩⟩
 exact⟨_,_,rfl,rv',fp',h3.push (d:=d) (φ:= .own j) ⟨h2,h1.symm⟩⟩
theorem B1.dom{E:PN}{rv:Nat→AV}{fp:Fp}{f:Fr}{H G:Ay}(R:B1 E Γ rv fp f H){j:Nat}{S:BQ}{D:Dom}{y:D.α}(hnk:DB (AG Γ.ss j)=false)(hl:Bk Γ.ss j){F':Nat→Prop}(hlen:H.length≤G.length)(hG: ∀i,i<H.length→ ¬fp j i→G[i]? =H[i]?)
  (hF: ∀i,F' i→fp j i∨(H.length≤i∧i<G.length)) (hw:Ds G≤G.length) (hS:S= .dom D y) (hR: ∀Q,D.R F' Q G (rv j) y):
  ∃rv' fp',rv' j=rv j∧Bk ((j,S)::Γ.ss) j∧B1 E ⟨Γ.ts,(j,S)::Γ.ss⟩ rv' fp' f G:=by
 subst hS
 exact R.chg (j:=j) (S:= .dom D y) (v:=rv j) (F:=F') (G:=G) hnk rfl hlen (fun i hi hn=>hG i hi (hn hl)) (fun i hi=>(hF i hi).imp (fun h=>⟨hl,h⟩) id) (fun _=> .inl rfl) hw (Nat.le_trans (R.rvlt j hl) hlen) (.inr ((R.scal j hl).resolve_left (by rw[hnk];simp)))
  fun rv' fp' e1 e2 _ _=>by
   show D.R (fp' j) _ G (rv' j) y
   rw[e1,e2];exact hR _
def O5(l s:AH):Option AH:=if l.length+s.length≤Di then some (l++s)else none
theorem nE{g:Bool}{d j:Nat}{l s:AH}(hcc:tb.prim ncc=none∧tb.fns ncc=some (MZ tB nne))(hne:tb.prim nne=some OF)(hf:tb.prim nws=none∧tb.fns nws=some (Vw te ncc))
  (ha:Cq tb Γ a (.own j)) (hj:AG Γ.ss j=some (.dom (PO tB te g) l)) (hb:Cq tb Γ b (.val Ak s)):
  X3 tb Γ (some d) (.call nws [a,b]) (O5 l s) fun l'=>⟨(d, .junk)::Γ.ts,(j, .dom (PO tB te g) l')::Γ.ss⟩:=by
 intro E rv fp f H R l' hl'
 simp only[O5]at hl'
 split at hl'
 ·rename_i hm
  cases hl'
  obtain⟨hl,hv⟩:=ha E rv fp f H R
  obtain⟨id,G,F',e,hg,h1,h2,h3,h4,h5⟩:=iP (s:=s) R.wf (R.slots j _ hj) hm
  obtain⟨rv',fp',g1,g2,g3⟩:=R.dom (G:=G) (F':=F') (by rw[hj];rfl) hl h1 h2 h3 h4 rfl h5
  refine⟨.tup [.i .i64 s.length, .nili],some G,?_,rv',fp',g3.push (d:=d) (φ:= .junk) trivial⟩
  simp only[B6,List.map_cons,List.map_nil,hv,e,EH.1 (hb E rv fp f H R)]
  exact yG hf hcc hne hg
 ·cases hl'
theorem xZ{g:Bool}{d j:Nat}{l:AH}{c:UInt8}(hcc:tb.prim ncc=none∧tb.fns ncc=some (MZ tB nne))(hne:tb.prim nne=some OF)(hf:tb.prim nwb=none∧tb.fns nwb=some (Vx te ncc))
  (ha:Cq tb Γ a (.own j)) (hj:AG Γ.ss j=some (.dom (PO tB te g) l)) (hb:Cq tb Γ b (.val T.u8 c)):
  X3 tb Γ (some d) (.call nwb [a,b]) (O5 l [c]) fun l'=>⟨(d, .junk)::Γ.ts,(j, .dom (PO tB te g) l')::Γ.ss⟩:=by
 intro E rv fp f H R l' hl'
 simp only[O5]at hl'
 split at hl'
 ·rename_i hm
  cases hl'
  obtain⟨hl,hv⟩:=ha E rv fp f H R
  obtain⟨id,G,F',e,hg,h1,h2,h3,h4,h5⟩:=iP (s:=[c]) R.wf (R.slots j _ hj) hm
  obtain⟨rv',fp',g1,g2,g3⟩:=R.dom (G:=G) (F':=F') (by rw[hj];rfl) hl h1 h2 h3 h4 rfl h5
  refine⟨.nili,some G,?_,rv',fp',g3.push (d:=d) (φ:= .junk) trivial⟩
  simp only[B6,List.map_cons,List.map_nil,hv,e,TK.1 (hb E rv fp f H R)]
  exact yI hf hcc hne hg
 ·cases hl'
def mP(g:Bool)(l:AH):Option AH:=if l.length≤Di∧(g=true→l≠[])then some l else none
theorem xY{g:Bool}{d j:Nat}{l:AH}(hf:tb.prim nbs=none∧tb.fns nbs=some (R6 te))(ha:Cq tb Γ a (.own j))(hj:AG Γ.ss j=some (.dom (PO tB te g) l)):
  X3 tb Γ (some d) (.call nbs [a]) (mP g l) fun l'=>⟨(d, .val Ak l')::Γ.ts,(j, .dom yF ())::Γ.ss⟩:=by
 intro E rv fp f H R l' hl'
 simp only[mP]at hl'
 split at hl'
 ·rename_i hc
  obtain⟨hm,hg⟩:=hc
  cases hl'
  obtain⟨hl,hv⟩:=ha E rv fp f H R
  have hd:=R.slots j _ hj
  obtain⟨id,e,⟨h0,h1,x,hx,hh,hF⟩|⟨h0,r,hne',hh,hr,hF⟩⟩:=hd
  ·subst h1
   obtain⟨rv',fp',g1,g2,g3⟩:=R.dom (D:=yF) (y:=()) (G:=H) (F':=fp j) (by rw[hj];rfl) hl (Nat.le_refl _) (fun _ _ _=>rfl) (fun i hi=> .inl hi) R.wf rfl (fun Q=>⟨fun i hi=>(R.fplt j i hl hi).1,id,e,(hF id).2 rfl⟩)
   refine⟨.s [],some H,?_,rv',fp',g3.push (d:=d) (φ:= .val Ak []) (EH.2 rfl)⟩
   simp only[B6,List.map_cons,List.map_nil,hv,e]
   exact iM hf hh
  ·have hl0:l≠[]:=by
    rcases h0 with h0|h0
    ·exact hg h0
    ·exact h0
   have hrd:=Bj hr
   obtain⟨rv',fp',g1,g2,g3⟩:=R.dom (D:=yF) (y:=()) (G:=H.set r (.row (some te) true 1 (BI l))) (F':=fp j) (by rw[hj];rfl) hl (by simp) (fun i _ hn=>List.getElem?_set_ne fun e=>hn ((hF i).2 (.inr e.symm))) (fun i hi=> .inl hi)
    (by simp only[List.length_set];exact HV R.wf (by simp only[ED,Oc];omega)) rfl (fun Q=>⟨fun i hi=>by simpa using (R.fplt j i hl hi).1,id,e,(hF id).2 (.inl rfl)⟩)
   refine⟨.s l,some (H.set r (.row (some te) true 1 (BI l))),?_,rv',fp',g3.push (d:=d) (φ:= .val Ak l) (EH.2 rfl)⟩
   simp only[B6,List.map_cons,List.map_nil,hv,e]
   exact AaQ hf hh hr hl0 hm
 ·cases hl'
end
end Go.Proofs.YtobejhpigbllpaaGreatDoor.Am
namespace Go.Proofs.YtobejhpigbllpaaGreatDoor.Am
section
variable{tb:Dh}{Γ:Cx}{a b:AO}{E:PN}{rv:Nat→AV}{fp:Fp}{f:Fr}{H:Ay}
theorem Bl{n j:Nat}{φ:AK}(h:BG Γ.ts n=some (.kv j))(hj:AG Γ.ss j=some (.keep φ)):Cq tb Γ (.t n) φ:=by
 intro E rv fp f H I
 have h1:=(I.temps n _ h).2
 have h2:=(I.slots j _ hj).1
 show FR rv Γ.ss (Pf E Γ.ss fp H) H φ (get f n)
 rw[h1];exact h2
theorem B4{g:Nat}:Cq tb Γ (.f g) (.fnv (.func g) [] []):=fun _ _ _ _ _ _=>⟨fun j hj=>(by cases hj),rfl⟩
theorem B1.keepNew(I:B1 E Γ rv fp f H){j:Nat}{φ:AK}{v:AV}(hj:AG Γ.ss j=none)(h:FR rv Γ.ss (Pf E Γ.ss fp H) H φ v)(hv:BR v≤H.length):
  ∃rv' fp',rv' j=v∧(∀k,k≠j→rv' k=rv k)∧B1 E ⟨Γ.ts,(j, .keep φ)::Γ.ss⟩ rv' fp' f H∧ ∀ψ w,FR rv Γ.ss (Pf E Γ.ss fp H) H ψ w→FR rv' ((j, .keep φ)::Γ.ss) (Pf E ((j, .keep φ)::Γ.ss) fp' H) H ψ w:=by
 have hnl:=HW hj
 let rv':Nat→AV:=fun k=>if k=j then v else rv k
 let fp':Fp:=fun k=>if k=j then fun _=>False else fp k
 have hrj:rv' j=v:=if_pos rfl
 have hfj: ∀i,¬fp' j i:=fun i h=>by simp only[fp',if_true]at h
 have hr: ∀k,k≠j→rv' k=rv k:=fun k hk=>if_neg hk
 have hf: ∀k,k≠j→fp' k=fp k:=fun k hk=>if_neg hk
 have hlv: ∀k,k≠j→(Bk ((j, .keep φ)::Γ.ss) k↔Bk Γ.ss k):=fun k hk=>Tm hk
 have hne: ∀k,Bk Γ.ss k→k≠j:=fun k l e=>hnl (e▸l)
 have hfind: ∀k,k≠j→AG ((j, .keep φ)::Γ.ss) k=AG Γ.ss k:=fun k hk=>by simp only[AG,if_neg (Ne.symm hk)]
 have hP: ∀i,Pf E Γ.ss fp H i→Pf E ((j, .keep φ)::Γ.ss) fp' H i:=by
  rintro i (h|⟨h1,h2,h3⟩)
  ·exact .inl h
  ·refine .inr ⟨h1,h2,fun k l e=> ?_⟩
   by_cases hk:k=j
   ·subst hk;exact hfj i e
   ·rw[hf k hk]at e;exact h3 k ((hlv k hk).1 l) e
 have hsame: ∀ψ,TM rv rv' Γ.ss ((j, .keep φ)::Γ.ss) ψ:=fun ψ k _ l=>⟨⟨(hlv k (hne k l)).2 l,fun e=>by rw[hfind k (hne k l)];exact e⟩,hr k (hne k l)⟩
 have hFR: ∀ψ w,FR rv Γ.ss (Pf E Γ.ss fp H) H ψ w→FR rv' ((j, .keep φ)::Γ.ss) (Pf E ((j, .keep φ)::Γ.ss) fp' H) H ψ w:=fun ψ w k=>k.mono (fun i hi=>⟨hP i hi,rfl⟩) (hsame ψ)
 refine⟨rv',fp',hrj,hr,⟨I.le,I.base,I.wf,?_,?_,?_,?_,?_,fun t ψ e=>hFR ψ _ (I.temps t ψ e),?_⟩,hFR⟩
 ·intro k i l e
  by_cases hk:k=j
  ·subst hk;exact absurd e (hfj i)
  ·rw[hf k hk]at e;exact I.fplt k i ((hlv k hk).1 l) e
 ·intro k l
  by_cases hk:k=j
  ·subst hk;rw[hrj];exact hv
  ·rw[hr k hk];exact I.rvlt k ((hlv k hk).1 l)
 ·intro k l
  by_cases hk:k=j
  ·subst hk;exact .inl (by simp only[AG,if_true];rfl)
  ·rw[hr k hk,hfind k hk];exact I.scal k ((hlv k hk).1 l)
 ·intro k k' i l l' e e'
  by_cases hk:k=j
  ·subst hk;exact absurd e (hfj i)
  ·by_cases hk':k'=j
   ·subst hk';exact absurd e' (hfj i)
   ·rw[hf k hk]at e
    rw[hf k' hk']at e'
    exact I.inj k k' i ((hlv k hk).1 l) ((hlv k' hk').1 l') e e'
 ·intro k S e
  by_cases hk:k=j
  ·subst hk
   simp only[AG,if_true,Option.some.injEq]at e
   subst e
   exact⟨by rw[hrj];exact hFR φ v h,hfj⟩
  ·rw[hfind k hk]at e
   exact(I.slots k S e).keep (hr k hk) (hf k hk) (fun i hi=>⟨hP i hi,rfl⟩) (Nat.le_refl _) (fun _ _=>rfl) (fun ps _ p _=>hsame p.2) (fun ψ _=>hsame ψ) fun _ _ _=>hsame _
 ·intro k ψ e
  by_cases hk:k=j
  ·subst hk;simp only[AG,if_true]at e;cases e
  ·rw[hfind k hk]at e;exact hFR ψ _ (I.gh k ψ e)
def iV:Nat→List AK→Ss→Ss
 |_,[],ss=>ss
 |j,φ::l,ss=>iV (j+1) l ((j, .keep φ)::ss)
def Tz(ss:Ss):Nat→List AK→Prop
 |_,[]=>True
 |j,_::l=>AG ss j=none∧Tz ss (j+1) l
def jD(rv:Nat→AV)(ss:Ss)(P:Nat→Prop)(H:Ay):List AK→List AV→Prop
 |[],[]=>True
 |φ::l,v::r=>FR rv ss P H φ v∧jD rv ss P H l r
 |_,_=>False
theorem Uc{ss:Ss}{S:BQ}{k:Nat}: ∀{l:List AK} {j:Nat},k<j→Tz ss j l→Tz ((k,S)::ss) j l
 |[],_,_,_=>trivial
 |_::_,j,hk,h=>⟨by simp only[AG,if_neg (show¬k=j by omega)];exact h.1,Uc (by omega) h.2⟩
theorem iU{k:Nat}: ∀{l:List AK} {j:Nat} {ss:Ss},k<j→AG (iV j l ss) k=AG ss k
 |[],_,_,_=>rfl
 |φ::l,j,ss,hk=>by
  rw[iV,iU (by omega)]
  simp only[AG,if_neg (show¬j=k by omega)]
theorem B1.keepL: ∀{l:List AK} {vs:List AV} {Γ:Cx} {rv:Nat→AV} {fp:Fp} {j:Nat},B1 E Γ rv fp f H→Tz Γ.ss j l→jD rv Γ.ss (Pf E Γ.ss fp H) H l vs→(∀v∈vs,BR v≤H.length)→
  ∃rv' fp',(List.range' j l.length).map rv'=vs∧Mw (iV j l Γ.ss) (List.range' j l.length)∧(∀k,k<j→rv' k=rv k)∧B1 E ⟨Γ.ts,iV j l Γ.ss⟩ rv' fp' f H
 |[],[],Γ,rv,fp,j,I,_,_,_=>⟨rv,fp,rfl,fun _ h=>(by cases h),fun _ _=>rfl,I⟩
 |φ::l,v::vs,Γ,rv,fp,j,I,hf,hv,hm=>by
  obtain⟨rv1,fp1,h1,h2,h3,h4⟩:=I.keepNew hf.1 hv.1 (hm v List.mem_cons_self)
  have key: ∀{l:List AK} {vs:List AV},jD rv Γ.ss (Pf E Γ.ss fp H) H l vs→jD rv1 ((j, .keep φ)::Γ.ss) (Pf E ((j, .keep φ)::Γ.ss) fp1 H) H l vs:=by
   intro l
   induction l with
   |nil=>intro vs h;cases vs<;>exact h
   |cons ψ l ih=>
    intro vs h
    cases vs with
    |nil=>exact h
    |cons w vs=>exact⟨h4 ψ w h.1,ih h.2⟩
  obtain⟨rv2,fp2,g1,g2,g3,g4⟩:=B1.keepL (l:=l) (vs:=vs) (j:=j+1) h3 (Uc (by omega) hf.2) (key hv.2) (fun w hw=>hm w (List.mem_cons_of_mem _ hw))
  refine⟨rv2,fp2,?_,fun k hk=> ?_,fun k hk=>by rw[g3 k (by omega),h2 k (by omega)],g4⟩
  ·rw[List.length_cons,List.range'_succ,List.map_cons,g1,g3 j (by omega),h1]
  ·rw[List.length_cons,List.range'_succ]at hk
   rcases List.mem_cons.1 hk with rfl|hk
   ·rw[iV,iU (by omega)];simp only[AG,if_true];rfl
   ·exact g2 k hk
inductive sN(tb:Dh)(Γ:Cx):List AO→List AK→Prop where
 |nil:sN tb Γ [] []
 |cons {a:AO} {φ:AK} {l:List AO} {r:List AK}:Cq tb Γ a φ→sN tb Γ l r→sN tb Γ (a::l) (φ::r)
theorem sN.spec(I:B1 E Γ rv fp f H): ∀{l:List AO} {r:List AK},sN tb Γ l r→jD rv Γ.ss (Pf E Γ.ss fp H) H r (l.map (eval tb f))
 |_,_, .nil=>trivial
 |_,_, .cons h k=>⟨h E rv fp f H I,k.spec I⟩
def NY:AK→Bool
 | .junk=>false
 |_=>true
theorem jD.men(hp: ∀i,Pf E Γ.ss fp H i→i<H.length)(hi: ∀j,Bk Γ.ss j→BR (rv j)≤H.length): ∀{l:List AK} {vs:List AV},l.all NY=true→jD rv Γ.ss (Pf E Γ.ss fp H) H l vs→ ∀v∈vs,BR v≤H.length
 |[],[],_,_,v,hv=>by cases hv
 |φ::l,w::vs,hj,h,v,hv=>by
  simp only[List.all_cons,Bool.and_eq_true]at hj
  rcases List.mem_cons.1 hv with rfl|hv
  ·exact FR.men hp hi (by rintro rfl;simp[NY]at hj) h.1
  ·exact jD.men hp hi hj.2 h.2 v hv
def OpN(tb:Dh)(Γ:Cx)(d:Option Nat)(o:H6)(Γ':Cx):Prop:=
 ∀E rv fp f H,B1 E Γ rv fp f H→ ∃v u,B6 tb (C5 tb) (eval tb f) H o=some (v,u)∧u.getD H=H∧ ∃rv' fp',B1 E Γ' rv' fp' (put f d v) H
def oneS:Option BQ→Bool
 |some (.row _ _)=>true
 |some (.rowk _ _)=>true
 |some (.cells _)=>true
 |some (.dom _ _)=>true
 |_=>false
def szF(ss:Ss):AK→Option Nat
 | .own j=>if oneS (AG ss j)then some 1 else none
 | .val t _=>some t.sz
 | .rp _ _=>some 1
 | .cp _ _=>some 1
 | .ep _ _ _=>some 1
 | .con _=>some 1
 | .fnv _ _ _=>some 1
 |_=>none
def AaT:AK→Bool
 | .val t _=>t.agg
 |_=>false
theorem kD{P:Nat→Prop}{v:AV}(h:aB P v):cellsOf v=[v]:=by
 cases v<;>simp only[aB]at h<;>rfl
theorem V2(I:B1 E Γ rv fp f H){φ:AK}{v:AV}{n:Nat}(hs:szF Γ.ss φ=some n)(h:FR rv Γ.ss (Pf E Γ.ss fp H) H φ v):(cellsOf v).length=n∧Im (AaT φ) (cellsOf v)=some v:=by
 cases φ<;>simp only[szF,Option.some.injEq,reduceCtorEq]at hs
 case own j=>
  split at hs
  ·rename_i ho
   cases hs
   obtain⟨l,rfl⟩:=h
   have hsc:=(I.scal j l).resolve_left (by
    intro hk
    cases e:AG Γ.ss j with
    |none=>rw[e]at ho;cases ho
    |some S=>rw[e]at ho hk;cases S<;>simp only[oneS,DB,Bool.false_eq_true]at ho hk)
   rw[J2 hsc];exact⟨rfl,rfl⟩
  ·cases hs
 ·subst hs
  rename_i t x
  have hc:=T.V.cells h
  refine⟨t.len hc,?_⟩
  rcases h with ⟨ha,cs,rfl,_⟩|⟨ha,hr⟩
  ·simp only[AaT,ha];rfl
  ·have:=t.sca hr
   simp only[List.all_cons,List.all_nil,Bool.and_true]at this
   rw[J2 this]
   simp only[AaT,ha];rfl
 ·subst hs;rw[kD h.1];exact⟨rfl,rfl⟩
 ·subst hs;obtain⟨_,id,_,rfl⟩:=h;exact⟨rfl,rfl⟩
 ·subst hs;obtain⟨_,id,m,_,_,rfl⟩:=h;exact⟨rfl,rfl⟩
 ·subst hs;obtain⟨rfl,_,hsc⟩:=h;rw[J2 hsc];exact⟨rfl,rfl⟩
 ·subst hs;obtain⟨_,rfl⟩:=h;exact⟨rfl,rfl⟩
def VS(ss:Ss):Nat→List (Nat×Nat×AO)→List AK→Option Nat
 |o,[],[]=>some o
 |o,(o',n,_)::r,φ::l=>if o'=o∧szF ss φ=some n then VS ss (o+n) r l else none
 |_,_,_=>none
theorem gH(I:B1 E Γ rv fp f H){rho:AO→AV}: ∀{ps:List (Nat×Nat×AO)} {l:List AK} {o e:Nat} {cs:List AV},VS Γ.ss o ps l=some e→e=cs.length→jD rv Γ.ss (Pf E Γ.ss fp H) H l (ps.map fun p=>rho p.2.2)→
  Ma cs rho ps=some (cs.take o++(ps.map fun p=>rho p.2.2).flatMap cellsOf)
 |[],[],o,e,cs,h,he,_=>by
  simp only[VS,Option.some.injEq]at h
  simp only[Ma,List.map_nil,List.flatMap_nil,List.append_nil]
  rw[List.take_of_length_le (by omega)]
 |(o',n,a)::ps,φ::l,o,e,cs,h,he,hv=>by
  simp only[VS]at h
  split at h
  ·rename_i hc
   obtain⟨rfl,hs⟩:=hc
   obtain⟨h1,_⟩:=V2 I hs hv.1
   have hle: ∀{ps:List (Nat×Nat×AO)} {l:List AK} {o e:Nat},VS Γ.ss o ps l=some e→o≤e:=by
    intro ps
    induction ps with
    |nil=>intro l o e h;cases l<;>simp only[VS,Option.some.injEq,reduceCtorEq]at h;omega
    |cons q ps ih=>
     intro l o e h
     obtain⟨q1,q2,q3⟩:=q
     cases l with
     |nil=>simp[VS]at h
     |cons φ l=>
      simp only[VS]at h
      split at h
      ·have:=ih h;omega
      ·cases h
   have hb:=hle h
   simp only at h1
   simp only[Ma,h1]
   rw[if_pos ⟨trivial,by omega⟩]
   have hlen:(B3 cs o' (cellsOf (rho a))).length=cs.length:=V5 (by omega)
   rw[gH I h (by rw[hlen];exact he) hv.2]
   simp only[List.map_cons,List.flatMap_cons]
   have ht:(B3 cs o' (cellsOf (rho a))).take (o'+n)=cs.take o'++cellsOf (rho a):=by
    simp only[B3]
    rw[List.take_left' (by simp only[List.length_append,List.length_take,h1];omega)]
   rw[ht,List.append_assoc]
  ·cases h
 |[],_::_,_,_,_,h,_,_=>by simp[VS]at h
 |(_,_,_)::_,[],_,_,_,h,_,_=>by simp[VS]at h
theorem Bz{d:Nat}{zero:List AV}{ps:List (Nat×Nat×AO)}{φs:List AK}(j:Nat)(hx:sN tb Γ (ps.map fun p=>p.2.2) φs)(hr:VS Γ.ss 0 ps φs=some zero.length)(hn:φs.all NY=true)(hf:Tz Γ.ss j φs){js:List Nat}(hjs:js=List.range' j φs.length):
  OpN tb Γ (some d) (.bld zero ps) ⟨(d, .aggk js)::Γ.ts,iV j φs Γ.ss⟩:=by
 intro E rv fp f H R
 subst hjs
 have hv:=hx.spec R
 rw[List.map_map]at hv
 have hfill:=gH R (rho:=eval tb f) hr rfl hv
 obtain⟨rv',fp',h1,h2,_,h4⟩:=R.keepL (j:=j) hf hv (jD.men R.ltP R.rvlt hn hv)
 refine⟨.agg (zero.take 0++(ps.map fun p=>eval tb f p.2.2).flatMap cellsOf),none,by simp only[B6,hfill,val,Option.map_some],rfl,rv',fp',h4.push (d:=d) (φ:= .aggk _) ⟨h2,?_⟩⟩
 have e:((List.range' j φs.length).flatMap fun j=>cellsOf (rv' j))=((List.range' j φs.length).map rv').flatMap cellsOf:=by rw[List.flatMap_map]
 rw[e,h1,List.take_zero,List.nil_append]
 rfl
def qR(ss:Ss):List Nat→Option Nat
 |[]=>some 0
 |j::r=>match AG ss j with
  |some (.keep φ)=>(szF ss φ).bind fun n=>(qR ss r).map (n+ ·)
  |_=>none
theorem Tk(I:B1 E Γ rv fp f H): ∀{l:List Nat} {o:Nat},qR Γ.ss l=some o→(l.flatMap fun j=>cellsOf (rv j)).length=o
 |[],o,h=>by simp only[qR,Option.some.injEq]at h;subst h;rfl
 |j::l,o,h=>by
  simp only[qR]at h
  split at h
  ·rename_i φ e
   obtain⟨n,hn,h⟩:=Option.bind_eq_some_iff.1 h
   obtain⟨m,hm,rfl⟩:=Option.map_eq_some_iff.1 h
   rw[List.flatMap_cons,List.length_append,Tk I hm,(V2 I hn (I.slots j _ e).1).1]
  ·cases h
theorem BE{js:List Nat}{i j:Nat}(ha:Cq tb Γ a (.tupk js))(hi:js[i]? =some j):EY tb Γ (.ext a i) (some ()) fun _=> .kv j:=by
 rintro E rv fp f H R _ ⟨⟩
 obtain⟨hk,hv⟩:=ha E rv fp f H R
 have hm:=List.mem_of_getElem? hi
 refine⟨rv j,none,by simp only[B6,hv,List.getElem?_map,hi,Option.map_some,val],rfl,fun k hk'=>by rw[List.mem_singleton.1 hk'];exact hk j hm,rfl⟩
theorem B1.keepTemp(I:B1 E Γ rv fp f H){j n:Nat}{φ:AK}(hj:AG Γ.ss j=none)(hn:BG Γ.ts n=some φ)(hφ:NY φ=true): ∃rv' fp',B1 E ⟨(n, .kv j)::Γ.ts,(j, .keep φ)::Γ.ss⟩ rv' fp' f H:=by
 have h:=I.temps n φ hn
 obtain⟨rv',fp',h1,_,h3,_⟩:=I.keepNew hj h (FR.men I.ltP I.rvlt (by rintro rfl;simp[NY]at hφ) h)
 refine⟨rv',fp',h3.le,h3.base,h3.wf,h3.fplt,h3.rvlt,h3.scal,h3.inj,h3.slots,fun t ψ e=> ?_,h3.gh⟩
 simp only[BG]at e
 split at e
 ·rename_i ht
  cases e
  subst ht
  exact⟨fun k hk=>by rw[List.mem_singleton.1 hk];simp only[AG,if_true];rfl,h1.symm⟩
 ·exact h3.temps t ψ e
variable{ks:List Kf}{ρ:Type}{Q:Nh ρ}
def BT{c:AC}(j n:Nat){φ:AK}(hj:AG Γ.ss j=none)(hn:BG Γ.ts n=some φ)(hφ:NY φ=true)(s:Aa tb ⟨(n, .kv j)::Γ.ts,(j, .keep φ)::Γ.ss⟩ c ks Q):Aa tb Γ c ks Q:=
 s.turn fun _ _ _ ⟨_,_,I⟩=>I.keepTemp hj hn hφ
def Bg{q:Bool}{d:Option Nat}{o:H6}{l:List Bm}{Γ':Cx}(h:OpN tb Γ d o Γ')(k:Aa tb Γ' (rg q l) ks Q):Aa tb Γ (rg q (⟨d,none,o⟩::l)) ks Q:=
 ⟨k.m,fun E f H ⟨rv,fp,I⟩ r hr=>by
  obtain⟨v,u,h1,h2,rv',fp',h3⟩:=h E rv fp f H I
  obtain⟨e,f',H',h4,h5⟩:=k.ok E _ _ ⟨rv',fp',h3⟩ r hr
  exact⟨e,f',H',by rw[Ef h1 h2];exact h4,h5⟩⟩
end
end Go.Proofs.YtobejhpigbllpaaGreatDoor.Am
namespace Go.Proofs.YtobejhpigbllpaaGreatDoor.Am
inductive Z3 where
 |o (a:AO)
 |k (j:Nat)
def dF(tb:Dh)(f:Fr)(rv:Nat→AV):Z3→AV
 | .o a=>eval tb f a
 | .k j=>rv j
def OpS(tb:Dh)(Γ:Cx)(s:Z3)(φ:AK):Prop:= ∀E rv fp f H,B1 E Γ rv fp f H→FR rv Γ.ss (Pf E Γ.ss fp H) H φ (dF tb f rv s)
inductive cN(tb:Dh)(Γ:Cx):List Z3→List AK→Prop where
 |nil:cN tb Γ [] []
 |cons {s:Z3} {φ:AK} {l:List Z3} {r:List AK}:OpS tb Γ s φ→cN tb Γ l r→cN tb Γ (s::l) (φ::r)
def X5(tb:Dh)(Γ:Cx)(o:H6)(g:Nat)(l:List Z3):Prop:=
 ∀E rv fp f H,B1 E Γ rv fp f H→B6 tb (C5 tb) (eval tb f) H o=B8 tb (C5 tb) H g (l.map (dF tb f rv))
section
variable{tb:Dh}{Γ:Cx}{a b:AO}{E:PN}{rv:Nat→AV}{fp:Fp}{f:Fr}{H:Ay}
theorem Jf{φ:AK}(h:Cq tb Γ a φ):OpS tb Γ (.o a) φ:=h
theorem BN{g:Nat}{xs:List AO}{l:List Z3}(hl:l=xs.map .o):X5 tb Γ (.call g xs) g l:=by
 intro E rv fp f H I
 subst hl
 simp only[B6,List.map_map];rfl
theorem CQ{g:Nat}{x:AO}{xs:List AO}{js ks:List Nat}{l:List Z3}(ha:Cq tb Γ x (.fnv (.func g) js ks))(hl:l=js.map .k++xs.map .o++ks.map .k):X5 tb Γ (.callv x xs) g l:=by
 intro E rv fp f H I
 subst hl
 simp only[B6,(ha E rv fp f H I).2,List.map_append,List.map_map];rfl
theorem cN.spec(I:B1 E Γ rv fp f H): ∀{l:List Z3} {r:List AK},cN tb Γ l r→jD rv Γ.ss (Pf E Γ.ss fp H) H r (l.map (dF tb f rv))
 |_,_, .nil=>trivial
 |_,_, .cons h k=>⟨h E rv fp f H I,k.spec I⟩
def Vd:Nat→List AK→Ts
 |_,[]=>[]
 |k,φ::r=>(k,φ)::Vd (k+1) r
def Kr(vs:List AV)(k:Nat):Fr:=(vs.zipIdx k).map fun p=>(p.2,p.1)
theorem SD{P:Nat→Prop}{ss:Ss}: ∀{r:List AK} {vs:List AV} {k:Nat},jD rv ss P H r vs→ ∀t φ,BG (Vd k r) t=some φ→k≤t∧FR rv ss P H φ (get (Kr vs k) t)
 |[],[],_,_,t,φ,e=>by simp[Vd,BG]at e
 |ψ::r,v::vs,k,h,t,φ,e=>by
  simp only[Vd,BG]at e
  simp only[Kr,List.zipIdx_cons,List.map_cons,get]
  split at e
  ·rename_i hk
   cases e
   subst hk
   exact⟨Nat.le_refl _,by rw[if_pos rfl];exact h.1⟩
  ·rename_i hk
   obtain⟨h1,h2⟩:=SD (k:=k+1) h.2 t φ e
   exact⟨by omega,by rw[if_neg hk];exact h2⟩
def Gm(J:Nat):Ts→Ss→Ss
 |[],ss=>ss
 |(t,φ)::r,ss=>(J+t, .ghost φ)::Gm J r ss
def Qf(Γ:Cx)(J:Nat):Ts→Prop
 |[]=>True
 |(t,φ)::r=>(BG Γ.ts t=some φ∧AG Γ.ss (J+t)=none)∧Qf Γ J r
def Jt(J:Nat):Ss→Bool
 |[]=>true
 |(j, .ghost _)::r=>Nat.blt j J&&Jt J r
 |_::r=>Jt J r
theorem Oh{J:Nat}: ∀{ss:Ss} {j:Nat} {φ:AK},Jt J ss=true→AG ss j=some (.ghost φ)→j<J
 |[],_,_,_,e=>by simp[AG]at e
 |(u,S)::r,j,φ,h,e=>by
  simp only[AG]at e
  split at e
  ·rename_i hu
   cases e
   simp only[Jt,Bool.and_eq_true]at h
   have:=h.1
   rw[SB]at this
   omega
  ·refine Oh (ss:=r) ?_ e
   cases S<;>simp only[Jt,Bool.and_eq_true]at h<;>first|exact h.2|exact h
theorem KK{J:Nat}{ss:Ss}: ∀{l:Ts} {j:Nat},AG (Gm J l ss) j=AG ss j∨ ∃t φ,j=J+t∧BG l t=some φ∧AG (Gm J l ss) j=some (.ghost φ)
 |[],_=> .inl rfl
 |(t,φ)::r,j=>by
  simp only[Gm,AG]
  by_cases hj:J+t=j
  ·rw[if_pos hj]
   exact .inr ⟨t,φ,hj.symm,by simp[BG],rfl⟩
  ·rw[if_neg hj]
   rcases KK (J:=J) (ss:=ss) (l:=r) (j:=j)with h|⟨t',φ',h1,h2,h3⟩
   ·exact .inl h
   ·refine .inr ⟨t',φ',h1,?_,h3⟩
    simp only[BG]
    rw[if_neg (fun e=>hj (by rw[h1,e]))]
    exact h2
theorem Ls{J:Nat}: ∀{l:Ts} {t:Nat} {φ:AK},Qf Γ J l→BG l t=some φ→BG Γ.ts t=some φ∧AG Γ.ss (J+t)=none
 |[],_,_,_,e=>by simp[BG]at e
 |(u,ψ)::r,t,φ,h,e=>by
  simp only[BG]at e
  split at e
  ·rename_i hu
   cases e
   subst hu
   exact h.1
  ·exact Ls h.2 e
theorem B1.enter(I:B1 E Γ rv fp f H){J:Nat}{L:Ts}{srcs:List Z3}{φs:List AK}(hL:Qf Γ J L)(hg:Jt J Γ.ss=true)(ha:cN tb Γ srcs φs):
  B1 {E with g:=fun j=>if J≤j then get f (j-J)else E.g j} ⟨Vd 0 φs,Gm J L Γ.ss⟩ rv fp (Kr (srcs.map (dF tb f rv)) 0) H:=by
 have hlv: ∀k,Bk (Gm J L Γ.ss) k↔Bk Γ.ss k:=by
  intro k
  rcases KK (J:=J) (ss:=Γ.ss) (l:=L) (j:=k)with h|⟨t,φ,rfl,h2,h3⟩
  ·simp only[Bk,h]
  ·have:=(Ls hL h2).2
   simp only[Bk,h3,this,vH]
 have hkeep: ∀k,DB (AG (Gm J L Γ.ss) k)=DB (AG Γ.ss k):=by
  intro k
  rcases KK (J:=J) (ss:=Γ.ss) (l:=L) (j:=k)with h|⟨t,φ,rfl,h2,h3⟩
  ·rw[h]
  ·rw[h3,(Ls hL h2).2];rfl
 have hP: ∀i,Pf E Γ.ss fp H i→Pf E (Gm J L Γ.ss) fp H i:=fun i=>Pf.same fun k l=>(hlv k).1 l
 have hFR: ∀φ v,FR rv Γ.ss (Pf E Γ.ss fp H) H φ v→FR rv (Gm J L Γ.ss) (Pf E (Gm J L Γ.ss) fp H) H φ v:=fun φ v h=>
  h.mono (fun i hi=>⟨hP i hi,rfl⟩) fun k _ l=>⟨⟨(hlv k).2 l,fun e=>by rw[hkeep];exact e⟩,rfl⟩
 have hFRs: ∀{l:List AK} {vs:List AV},jD rv Γ.ss (Pf E Γ.ss fp H) H l vs→jD rv (Gm J L Γ.ss) (Pf E (Gm J L Γ.ss) fp H) H l vs:=by
  intro l
  induction l with
  |nil=>intro vs h;cases vs<;>exact h
  |cons φ l ih=>
   intro vs h
   cases vs with
   |nil=>exact h
   |cons v vs=>exact⟨hFR φ v h.1,ih h.2⟩
 refine⟨I.le,I.base,I.wf,fun j i l e=>I.fplt j i ((hlv j).1 l) e,fun j l=>I.rvlt j ((hlv j).1 l),fun j l=>(I.scal j ((hlv j).1 l)).imp (fun e=>by rw[hkeep];exact e) id,fun j k i l l'=>I.inj j k i ((hlv j).1 l) ((hlv k).1 l'),?_,?_,?_⟩
 ·intro j S e
  rcases KK (J:=J) (ss:=Γ.ss) (l:=L) (j:=j)with h|⟨t,φ,rfl,h2,h3⟩
  ·replace e:AG (Gm J L Γ.ss) j=some S:=e
   rw[h]at e
   exact(I.slots j S e).keep rfl rfl (fun i hi=>⟨hP i hi,rfl⟩) (Nat.le_refl _) (fun _ _=>rfl) (fun _ _ _ _ k _ l=>⟨⟨(hlv k).2 l,fun e=>by rw[hkeep];exact e⟩,rfl⟩) (fun _ _ k _ l=>⟨⟨(hlv k).2 l,fun e=>by rw[hkeep];exact e⟩,rfl⟩) (fun _ _ _ k _ l=>⟨⟨(hlv k).2 l,fun e=>by rw[hkeep];exact e⟩,rfl⟩)
  ·replace e:AG (Gm J L Γ.ss) (J+t)=some S:=e
   rw[h3]at e;cases e;trivial
 ·intro t φ e
  exact(SD (hFRs (ha.spec I)) t φ e).2
 ·intro j φ e
  show FR rv (Gm J L Γ.ss) _ H φ (if J≤j then get f (j-J)else E.g j)
  rcases KK (J:=J) (ss:=Γ.ss) (l:=L) (j:=j)with h|⟨t,ψ,rfl,h2,h3⟩
  ·replace e:AG (Gm J L Γ.ss) j=some (.ghost φ):=e
   rw[h]at e
   have:=Oh hg e
   rw[if_neg (by omega)]
   exact hFR φ _ (I.gh j φ e)
  ·replace e:AG (Gm J L Γ.ss) (J+t)=some (.ghost φ):=e
   rw[h3]at e
   cases e
   rw[if_pos (by omega),show J+t-J=t by omega]
   exact hFR _ _ (I.temps t _ (Ls hL h2).1)
def QIn{τ:Type}(res:List KT)(Γr:τ→Cx):Nh τ:=fun E p e f H=>
 (e= .ret∨e= .normal)∧ ∃vs,results f H res=some vs∧Rel E (Γr p) (Kr vs 0) H
def xV(Γ:Cx)(a:KT)(φ:AK):Prop:= ∀E rv fp f H,B1 E Γ rv fp f H→ ∀r vs,results f H r=some vs→ ∃v,results f H (a::r)=some (v::vs)∧FR rv Γ.ss (Pf E Γ.ss fp H) H φ v
inductive nB(Γ:Cx):List KT→List AK→Prop where
 |nil:nB Γ [] []
 |cons {a:KT} {φ:AK} {l:List KT} {r:List AK}:xV Γ a φ→nB Γ l r→nB Γ (a::l) (φ::r)
theorem nB.spec(I:B1 E Γ rv fp f H): ∀{l:List KT} {r:List AK},nB Γ l r→ ∃vs,results f H l=some vs∧jD rv Γ.ss (Pf E Γ.ss fp H) H r vs
 |_,_, .nil=>⟨[],rfl,trivial⟩
 |_,_, .cons h k=>by
  obtain⟨vs,e,g⟩:=k.spec I
  obtain⟨v,e',g'⟩:=h E rv fp f H I _ vs e
  exact⟨v::vs,e',g',g⟩
theorem Dc{n:Nat}{φ:AK}(h:BG Γ.ts n=some φ):xV Γ (.tmp n) φ:=fun _ _ _ _ _ I r vs hr=>⟨_,by simp only[results,hr,Option.map_some],I.temps n _ h⟩
theorem rg_c{t:T}{x:t.α}{ar:KT}(h:sL Γ ar t x):xV Γ ar (.val t x):=h
variable{ks:List Kf}{ρ τ:Type}{Q:Nh ρ}
def A0{res:List KT}{Γr:τ→Cx}{φs:List AK}(p:τ)(h:nB Γ res φs)(hs:Sub (Γr p) ⟨Vd 0 φs,Γ.ss⟩):Aa tb Γ .ret ks (QIn res Γr):=
 SJ ⟨some p,fun E f H ⟨rv,fp,I⟩ r hr=>by
  cases hr
  obtain⟨vs,e,g⟩:=h.spec I
  refine⟨.ret,f,H,by simp[Bh,It], .inl rfl,vs,e,rv,fp,B1.sub (Γ:=⟨Vd 0 φs,Γ.ss⟩) ?_ hs⟩
  exact⟨I.le,I.base,I.wf,I.fplt,I.rvlt,I.scal,I.inj,I.slots,fun t φ e=>(SD g t φ e).2,I.gh⟩⟩
def Z4{q:Bool}{res:List KT}{Γr:τ→Cx}{φs:List AK}(p:τ)(h:nB Γ res φs)(hs:Sub (Γr p) ⟨Vd 0 φs,Γ.ss⟩):Aa tb Γ (rg q []) [] (QIn res Γr):=
 ⟨some p,fun E f H ⟨rv,fp,I⟩ r hr=>by
  cases hr
  obtain⟨vs,e,g⟩:=h.spec I
  refine⟨.normal,f,H,by simp[DL,It], .inr rfl,vs,e,rv,fp,B1.sub (Γ:=⟨Vd 0 φs,Γ.ss⟩) ?_ hs⟩
  exact⟨I.le,I.base,I.wf,I.fplt,I.rvlt,I.scal,I.inj,I.slots,fun t φ e=>(SD g t φ e).2,I.gh⟩⟩
inductive SL(tsr:Ts):Nat→AK→Prop where
 |none:SL tsr 0 (.tup [])
 |one {φ:AK}:BG tsr 0=some φ→SL tsr 1 φ
 |vals {n:Nat} {l:List (Σ t:T,t.α)} (hn:l.length=n+2) (h: ∀(i:Nat) (p: Σ t:T,t.α),l[i]? =some p→BG tsr i=some (.val p.1 p.2)):SL tsr (n+2) (.tup l)
 |kvs {n:Nat} {js:List Nat} (hn:js.length=n+2) (h: ∀i j,js[i]? =some j→BG tsr i=some (.kv j)):SL tsr (n+2) (.tupk js)
 |junk {n:Nat}:SL tsr n .junk
theorem P8{vs:List AV}{i:Nat}{v:AV}(h:vs[i]? =some v):get (Kr vs 0) i=v:=by
 have key: ∀(vs:List AV) (k i:Nat) (v:AV),vs[i]? =some v→get (Kr vs k) (k+i)=v:=by
  intro vs
  induction vs with
  |nil=>intro k i v h;simp at h
  |cons w vs ih=>
   intro k i v h
   simp only[Kr,List.zipIdx_cons,List.map_cons,get]
   cases i with
   |zero=>simp only[List.getElem?_cons_zero,Option.some.injEq]at h;rw[if_pos (by omega)];exact h
   |succ i=>
    rw[if_neg (by omega)]
    have:=ih (k+1) i v (by simpa using h)
    rw[show k+(i+1)=k+1+i by omega]
    exact this
 have:=key vs 0 i v h
 rwa [Nat.zero_add]at this
theorem SL.spec{Γr:Cx}{n:Nat}{φ:AK}{vs:List AV}(I:B1 E Γr rv fp (Kr vs 0) H)(hn:vs.length=n)(h:SL Γr.ts n φ):FR rv Γr.ss (Pf E Γr.ss fp H) H φ (GB vs):=by
 cases h with
 |none=>
  have:vs=[]:=List.eq_nil_of_length_eq_zero hn
  subst this
  exact⟨[],rfl,trivial⟩
 |one h=>
  match vs,hn with
  |[v],_=>
   have:=I.temps 0 _ h
   rw[P8 (i:=0) (v:=v) rfl]at this
   exact this
 | @vals m l hl h=>
  have hp:GB vs= .tup vs:=by
   match vs,hn with
   |_::_::_,_=>rfl
  rw[hp]
  refine⟨vs,rfl,?_⟩
  have key: ∀(vs:List AV) (l:List (Σ t:T,t.α)),vs.length=l.length→(∀(i:Nat) (v:AV) (p: Σ t:T,t.α),vs[i]? =some v→l[i]? =some p→p.1.V (Pf E Γr.ss fp H) H v p.2)→SH (Pf E Γr.ss fp H) H vs l:=by
   intro vs
   induction vs with
   |nil=>intro l h _;cases l<;>first|trivial|simp at h
   |cons v vs ih=>
    intro l h g
    cases l with
    |nil=>simp at h
    |cons p l=>exact⟨g 0 v p rfl rfl,ih l (by simpa using h) fun i w q a b=>g (i+1) w q (by simpa using a) (by simpa using b)⟩
  refine key vs l (by omega) fun i v p a b=> ?_
  have:=I.temps i _ (h i p b)
  rw[P8 a]at this
  exact this
 | @kvs m js hl h=>
  have hp:GB vs= .tup vs:=by
   match vs,hn with
   |_::_::_,_=>rfl
  rw[hp]
  have hv:vs=js.map rv:=by
   apply List.ext_getElem?
   intro i
   rcases Nat.lt_or_ge i vs.length with hi|hi
   ·have hj:i<js.length:=by omega
    have:=(I.temps i _ (h i js[i] (List.getElem?_eq_getElem hj))).2
    rw[P8 (List.getElem?_eq_getElem hi)]at this
    rw[List.getElem?_eq_getElem hi,List.getElem?_map,List.getElem?_eq_getElem hj,this];rfl
   ·rw[List.getElem?_eq_none hi,List.getElem?_eq_none (by rw[List.length_map];omega)]
  refine⟨fun j hj=> ?_,by rw[hv]⟩
  obtain⟨i,hi,rfl⟩:=List.mem_iff_getElem.1 hj
  exact(I.temps i _ (h i _ (List.getElem?_eq_getElem hi))).1 _ (by simp)
 |junk=>trivial
def Zv(Γr:Cx)(ss:Ss)(J:Nat):Ts→Prop
 |[]=>True
 |(t,φ)::r=>(AG Γr.ss (J+t)=some (.ghost φ)∧Ms ss φ)∧Zv Γr ss J r
structure AP(Γr Γk:Cx)(J:Nat)(d:Option Nat)(n:Nat):Prop where
 ss:sX Γr Γk.ss Γk.ss
 gl:Jt J Γk.ss=true
 ts:match d with
  |none=>Zv Γr Γk.ss J Γk.ts
  |some d=> ∃φ r,Γk.ts=(d,φ)::r∧SL Γr.ts n φ∧Ms Γk.ss φ∧Zv Γr Γk.ss J r
theorem Au{Γr:Cx}{ss:Ss}{J d n:Nat}{φ:AK}{r:Ts}(h1:sX Γr ss ss)(h2:Jt J ss=true)(h3:SL Γr.ts n φ)(h4:Ms ss φ)(h5:Zv Γr ss J r):AP Γr ⟨(d,φ)::r,ss⟩ J (some d) n:=⟨h1,h2,φ,r,rfl,h3,h4,h5⟩
theorem Xx{Γr:Cx}{ss:Ss}{J:Nat}: ∀{l:Ts} {t:Nat} {φ:AK},Zv Γr ss J l→BG l t=some φ→AG Γr.ss (J+t)=some (.ghost φ)∧Ms ss φ
 |[],_,_,_,e=>by simp[BG]at e
 |(u,ψ)::r,t,φ,h,e=>by
  simp only[BG]at e
  split at e
  ·rename_i hu;cases e;subst hu;exact h.1
  ·exact Xx h.2 e
theorem B1.back{Γr Γk:Cx}{J n:Nat}{d:Option Nat}{vs:List AV}{f:Fr}(I:B1 {E with g:=fun j=>if J≤j then get f (j-J)else E.g j} Γr rv fp (Kr vs 0) H)(hn:vs.length=n)(hb:AP Γr Γk J d n):
  B1 E Γk rv fp (put f d (GB vs)) H:=by
 have S:Sub ⟨[],Γk.ss⟩ Γr:=⟨trivial,hb.ss⟩
 have I0:=I.sub S
 have hlv: ∀k,Bk Γk.ss k→Bk Γr.ss k:=by
  intro k l
  cases e:AG Γk.ss k with
  |none=>simp only[Bk,e]at l;exact l.elim
  |some S=>
   have:=(IQ hb.ss e).1
   simp only[Bk,e]at l
   simp only[Bk,this];exact l
 have hP: ∀i,Pf E Γr.ss fp H i→Pf E Γk.ss fp H i:=fun i=>Pf.same hlv
 have hsame: ∀φ,Ms Γk.ss φ→TM rv rv Γr.ss Γk.ss φ:=fun φ r j hj l=>by
  have hl:=(VX r j hj).1
  refine⟨⟨hl,fun e=> ?_⟩,rfl⟩
  cases e':AG Γk.ss j with
  |none=>simp only[Bk,e']at hl;exact hl.elim
  |some S=>rw[(IQ hb.ss e').1]at e;exact e
 have hFR: ∀φ v,Ms Γk.ss φ→FR rv Γr.ss (Pf E Γr.ss fp H) H φ v→FR rv Γk.ss (Pf E Γk.ss fp H) H φ v:=fun φ v r h=>h.mono (fun i hi=>⟨hP i hi,rfl⟩) (hsame φ r)
 have hback: ∀{l:Ts},Zv Γr Γk.ss J l→ ∀t φ,BG l t=some φ→FR rv Γk.ss (Pf E Γk.ss fp H) H φ (get f t):=by
  intro l hl t φ e
  obtain⟨h1,h2⟩:=Xx hl e
  have:=I.gh _ _ h1
  simp only[if_pos (show J≤J+t by omega),show J+t-J=t by omega]at this
  exact hFR φ _ h2 this
 refine⟨I0.le,I0.base,I0.wf,I0.fplt,I0.rvlt,I0.scal,I0.inj,I0.slots,?_,?_⟩
 ·intro t φ e
  have hts:=hb.ts
  cases d with
  |none=>exact hback hts t φ e
  |some d=>
   obtain⟨ψ,r,hr,h1,h2,h3⟩:=hts
   rw[hr]at e
   simp only[BG]at e
   simp only[put,get]
   split at e
   ·rename_i hd
    cases e
    rw[if_pos hd]
    have h1':=h1.spec I hn
    exact hFR _ _ h2 h1'
   ·rename_i hd
    rw[if_neg hd]
    exact hback h3 t φ e
 ·intro j φ e
  have h1:=Oh hb.gl e
  have:=I0.gh j φ e
  simp only[if_neg (show¬J≤j by omega)]at this
  exact this
structure nF(tb:Dh){τ:Type}(Γk:τ→Cx)(c:AC)(ks:List Kf){ρ:Type}(Q:Nh ρ) where
 m:τ→Option ρ
 ok: ∀p E f H,Rel E (Γk p) f H→ ∀r,m p=some r→ ∃e f' H',(Bh tb (C5 tb) c f H).bind (It tb ks)=some (e,f',H')∧Q E r e f' H'
def nF.one{Γk:τ→Cx}{c:AC}(k:(p:τ)→Aa tb (Γk p) c ks Q):nF tb Γk c ks Q:=⟨fun p=>(k p).m,fun p=>(k p).ok⟩
def nF.alt{σ:Type}{Γ1:τ→Cx}{Γ2:σ→Cx}{c:AC}(k1:nF tb Γ1 c ks Q)(k2:nF tb Γ2 c ks Q):nF tb (Sum.elim Γ1 Γ2) c ks Q:=
 ⟨Sum.elim k1.m k2.m,fun p=>match p with
  | .inl p=>k1.ok p
  | .inr p=>k2.ok p⟩
theorem DQ{σ:Type}{Γ1 Δ1:τ→Cx}{Γ2 Δ2:σ→Cx}{J n:Nat}{d:Option Nat}(h1: ∀p,AP (Γ1 p) (Δ1 p) J d n)(h2: ∀p,AP (Γ2 p) (Δ2 p) J d n): ∀p,AP (Sum.elim Γ1 Γ2 p) (Sum.elim Δ1 Δ2 p) J d n
 | .inl p=>h1 p
 | .inr p=>h2 p
theorem Pn: ∀{l:List KT} {vs:List AV},results f H l=some vs→vs.length=l.length
 |[],vs,h=>by simp only[results,Option.some.injEq]at h;subst h;rfl
 | .tmp t::r,vs,h=>by
  simp only[results]at h
  obtain⟨v,hv,rfl⟩:=Option.map_eq_some_iff.1 h
  simp[Pn hv]
 | .cell ag n t::r,vs,h=>by
  simp only[results]at h
  obtain⟨w,hw,h⟩:=Option.bind_eq_some_iff.1 h
  obtain⟨v,hv,rfl⟩:=Option.map_eq_some_iff.1 h
  simp[Pn hv]
theorem vU{g:Nat}{fn:D9}{o:H6}{d:Option Nat}{srcs:List Z3}{φs:List AK}{J n:Nat}{L:Ts}{Γr Γk:τ→Cx}(hf:tb.prim g=none∧tb.fns g=some fn)(hw:fn.warm=true)(hnp:fn.np=srcs.length)(hn:n=fn.res.length)
  (hc:X5 tb Γ o g srcs) (ha:cN tb Γ srcs φs) (hL:Qf Γ J L) (hg:Jt J Γ.ss=true) (s:Aa tb ⟨Vd 0 φs,Gm J L Γ.ss⟩ fn.body [] (QIn fn.res Γr)) (hb: ∀p,AP (Γr p) (Γk p) J d n) (I:B1 E Γ rv fp f H) {p:τ} (hp:s.m=some p):
  ∃v H',B6 tb (C5 tb) (eval tb f) H o=some (v,some H')∧Rel E (Γk p) (put f d v) H':=by
 have R:=I.enter (tb:=tb) hL hg ha
 obtain⟨e,f',H',h1,h2,vs,h3,rv',fp',h4⟩:=s.ok _ _ _ ⟨_,_,R⟩ p hp
 have h1':Bh tb (C5 tb) fn.body (Kr (srcs.map (dF tb f rv)) 0) H=some (e,f',H'):=by
  obtain⟨q,hq,h1⟩:=Option.bind_eq_some_iff.1 h1
  rw[hq,←h1];rfl
 have hbody:body tb (C5 tb) fn (srcs.map (dF tb f rv)) H=some (GB vs,some H'):=by
  have:=O4 (tb:=tb) (h:=H) (fn:=fn) (args:=srcs.map (dF tb f rv)) (by rw[List.length_map,hnp]) rfl h1' h2 h3
  rw[this,hw];rfl
 refine⟨GB vs,H',?_,rv',fp',h4.back (by rw[hn];exact Pn h3) (hb p)⟩
 rw[hc E rv fp f H I]
 simp only[B8,hf.1]
 rw[PE,hf.2]
 exact hbody
def Aa.inl{g:Nat}{fn:D9}{o:H6}{d:Option Nat}{rest:List Bm}{srcs:List Z3}{φs:List AK}{n:Nat}{L:Ts}{Γr:τ→Cx}(J:Nat)(Γk:τ→Cx)(hf:tb.prim g=none∧tb.fns g=some fn)(hw:fn.warm=true)(hnp:fn.np=srcs.length)(hn:n=fn.res.length)
  (hc:X5 tb Γ o g srcs) (ha:cN tb Γ srcs φs) (hL:Qf Γ J L) (hg:Jt J Γ.ss=true) (s:Aa tb ⟨Vd 0 φs,Gm J L Γ.ss⟩ fn.body [] (QIn fn.res Γr)) (hb: ∀p,AP (Γr p) (Γk p) J d n) (k:nF tb Γk (rg false rest) ks Q):Aa tb Γ (rg false (⟨d,none,o⟩::rest)) ks Q:=
 ⟨s.m.bind k.m,fun E f H ⟨rv,fp,I⟩ r hr=>by
  obtain⟨p,hp,hr⟩:=Option.bind_eq_some_iff.1 hr
  obtain⟨v,H',h1,h2⟩:=vU hf hw hnp hn hc ha hL hg s hb I hp
  obtain⟨e,f',H2,h4,h5⟩:=k.ok p E _ _ h2 r hr
  exact⟨e,f',H2,by rw[Ks h1];exact h4,h5⟩⟩
def A4.inl{g:Nat}{fn:D9}{o:H6}{d:Option Nat}{rest:List Bm}{w:List (Option (Nat×Nat))}{N k:Nat}{B:List Ob}{C C':List Cb}{srcs:List Z3}{φs:List AK}{n:Nat}{L:Ts}{Γr:τ→Cx}(hq:sC B C' d=true)(hcn:Mh Γ k C C')(J:Nat)(Γk:τ→Cx)(hO: ∀p,Y9 tb (Γk p) B)(hf:tb.prim g=none∧tb.fns g=some fn)(hw:fn.warm=true)(hnp:fn.np=srcs.length)(hn:n=fn.res.length)
  (hc:X5 tb Γ o g srcs) (ha:cN tb Γ srcs φs) (hL:Qf Γ J L) (hg:Jt J Γ.ss=true) (s:Aa tb ⟨Vd 0 φs,Gm J L Γ.ss⟩ fn.body [] (QIn fn.res Γr)) (hb: ∀p,AP (Γr p) (Γk p) J d n) (t:(p:τ)→A4 tb (Γk p) N (k+1) (mI B) C' rest w ks Q):A4 tb Γ N k B C (⟨d,none,o⟩::rest) (none::w) ks Q:=
 Da hq hO hcn (a:=s.m) (Γ':=Γk) (fun E rv fp f H I p hp=>by
  obtain⟨v,H',h1,rv',fp',h2⟩:=vU hf hw hnp hn hc ha hL hg s hb I hp
  exact⟨v,some H',h1,rv',fp',h2⟩) t
inductive iZ(tb:Dh)(Γ:Cx):(As:List T)→List Z3→CG As→Prop where
 |nil:iZ tb Γ [] [] ()
 |one {t:T} {s:Z3} {x:t.α}:OpS tb Γ s (.val t x)→iZ tb Γ [t] [s] x
 |cons {t u:T} {As:List T} {s:Z3} {l:List Z3} {x:t.α} {y:CG (u::As)}:OpS tb Γ s (.val t x)→iZ tb Γ (u::As) l y→iZ tb Γ (t::u::As) (s::l) (x,y)
theorem iZ.spec(R:B1 E Γ rv fp f H): ∀{As:List T} {l:List Z3} {x:CG As},iZ tb Γ As l x→R8 (Pf E Γ.ss fp H) H As (l.map (dF tb f rv)) x
 |_,_,_, .nil=>rfl
 |_,_,_, .one h=>⟨_,rfl,h E rv fp f H R⟩
 |_,_,_, .cons h k=>⟨_,_,rfl,h E rv fp f H R,k.spec R⟩
theorem AaF{g:Nat}{As Rs:List T}{F:CG As→Option (CG Rs)}{o:H6}{l:List Z3}{x:CG As}(sp:Spec tb g As Rs F)(hc:X5 tb Γ o g l)(hx:iZ tb Γ As l x):EY tb Γ o (F x) fun r=>tY Rs r:=by
 intro E rv fp f H R r hr
 obtain⟨v,u,h1,h2,h3⟩:=(sp (Pf E Γ.ss fp H) H _ x R.ltP R.wf (hx.spec R) r hr).call
 exact⟨v,u,by rw[hc E rv fp f H R];exact h1,h2,Wk h3⟩
theorem Iy{g:Nat}{As:List T}{t:T}{F:CG As→Option (CG [t])}{o:H6}{l:List Z3}{x:CG As}(sp:Spec tb g As [t] F)(hc:X5 tb Γ o g l)(hx:iZ tb Γ As l x):EY tb Γ o (F x) fun r:t.α=> .val t r:=AaF sp hc hx
theorem PB{lv:List Nat}{x:AC}:Bh tb (C5 tb) (.loop lv x) f H=(Bh tb (C5 tb) x (keepL lv f) H).bind fun
  |(.normal,f',h')=>Bh tb (C5 tb) (.loop lv x) (keepL lv f') h'
  |r=>some r:=by
 simp only[Bh]
 rw[lp_eq]
 simp only[KC]
 cases Bh tb (C5 tb) x (keepL lv f) H with
 |none=>rfl
 |some p=>
  obtain⟨e,f',h'⟩:=p
  cases e<;>rfl
end
end Go.Proofs.YtobejhpigbllpaaGreatDoor.Am
namespace Go.Proofs.YtobejhpigbllpaaGreatDoor.Am
section
variable{tb:Dh}{Γ:Cx}{a b:AO}{E:PN}{rv:Nat→AV}{fp:Fp}{f:Fr}{H:Ay}{ks:List Kf}{ρ:Type}{Q:Nh ρ}
theorem lA{lv:List Nat}{f:Fr}:keepL lv (keepL lv f)=keepL lv f:=by
 simp only[keepL]
 apply List.map_congr_left
 intro t ht
 rw[show(lv.map fun t=>(t,get f t))=keepL lv f from rfl,Rj ht]
theorem Xa{lv:List Nat}{x:AC}:Bh tb (C5 tb) (.loop lv x) (keepL lv f) H=Bh tb (C5 tb) (.loop lv x) f H:=by
 rw[PB,PB,lA]
def AR{lv:List Nat}{x:AC}{Γ':Cx}(hs:Sub Γ' Γ)(hl:eQ lv Γ'.ts=true)(s:Aa tb Γ' x (.seq (.loop lv x)::ks) Q):Aa tb Γ (.loop lv x) ks Q:=
 ⟨s.m,fun E f H ⟨rv,fp,I⟩ r hr=>by
  obtain⟨e,f',H',h1,h2⟩:=s.ok E (keepL lv f) H (Rel.keep hl ⟨rv,fp,I.sub hs⟩) r hr
  refine⟨e,f',H',?_,h2⟩
  rw[PB]
  obtain⟨p,hp,h1⟩:=Option.bind_eq_some_iff.1 h1
  obtain⟨e0,f0,H0⟩:=p
  rw[hp]
  cases e0<;>simp only[Option.bind_some,It]at h1 ⊢
  ·rw[Xa];exact h1
  ·exact h1
  ·exact h1⟩
theorem Bt{o:H6}{t:T}{x y:t.α}(h:EY tb Γ o (some x) fun z=> .val t z)(e:x=y):EY tb Γ o (some ()) fun _=> .val t y:=by
 rintro E rv fp f H R _ ⟨⟩
 obtain⟨v,u,h1,h2,h3⟩:=h E rv fp f H R x rfl
 exact⟨v,u,h1,h2,e▸h3⟩
inductive sO(tb:Dh)(Γ:Cx)(sz:Nat):Nat→List (Nat×AO)→List (List Nat)→Prop where
 |nil {i:Nat}:sO tb Γ sz i [] []
 |cons {i:Nat} {a:AO} {js:List Nat} {ps:List (Nat×AO)} {l:List (List Nat)}:Cq tb Γ a (.aggk js)→qR Γ.ss js=some sz→sO tb Γ sz (i+1) ps l→sO tb Γ sz i ((i,a)::ps) (js::l)
theorem sO.spec{sz:Nat}(I:B1 E Γ rv fp f H): ∀{i:Nat} {ps:List (Nat×AO)} {l:List (List Nat)} {els:List (List AV)},sO tb Γ sz i ps l→i+l.length=els.length→
  KN els sz (eval tb f) ps=some (els.take i++l.map fun js=>js.flatMap fun j=>cellsOf (rv j))∧Mw Γ.ss l.flatten
 |i,_,_,els, .nil,hl=>by
  simp only[List.length_nil]at hl
  exact⟨by simp only[KN,List.map_nil,List.append_nil];rw[List.take_of_length_le (by omega)],fun j hj=>(by cases hj)⟩
 |i,_,_,els, .cons (a:=a) (js:=js) (l:=l) h ho k,hl=>by
  obtain⟨hk,hv⟩:=h E rv fp f H I
  have hlen:=Tk I ho
  simp only[List.length_cons]at hl
  obtain⟨h1,h2⟩:=k.spec I (els:=els.set i (js.flatMap fun j=>cellsOf (rv j))) (by rw[List.length_set];omega)
  refine⟨?_,fun j hj=> ?_⟩
  ·have hc:cellsOf (eval tb f a)=js.flatMap fun j=>cellsOf (rv j):=by rw[hv];rfl
   simp only[KN,hc]
   rw[if_pos ⟨hlen,by omega⟩,h1,List.take_succ_eq_append_getElem (by rw[List.length_set];omega),List.take_set_of_le (Nat.le_refl _),List.getElem_set_self,List.map_cons,List.append_assoc]
   rfl
  ·rw[List.flatten_cons]at hj
   rcases List.mem_append.1 hj with hj|hj
   ·exact hk j hj
   ·exact h2 j hj
theorem EZ{zero:List (List AV)}{d t0 sz:Nat}{ps:List (Nat×AO)}{l:List (List Nat)}(j:Nat)(h:sO tb Γ sz 0 ps l)(hz:zero.length=l.length)(hj:AG Γ.ss j=none):
  X3 tb Γ (some d) (.bls t0 sz zero ps) (some ()) fun _=>⟨(d, .own j)::Γ.ts,(j, .rowk sz l)::Γ.ss⟩:=by
 rintro E rv fp f H R _ ⟨⟩
 obtain⟨h1,h2⟩:=h.spec R (els:=zero) (by omega)
 rw[List.take_zero,List.nil_append]at h1
 have hm:Dt (l.map fun js=>js.flatMap fun j=>cellsOf (rv j))≤H.length:=by
  clear h h1 hz
  induction l with
  |nil=>simp[Dt]
  |cons js l ih=>
   simp only[List.map_cons,Dt]
   have:=ih fun j hj=>h2 j (by simp only[List.flatten_cons,List.mem_append];exact .inr hj)
   have:=(LE R.rvlt (l:=js) fun j hj=>h2 j (by simp only[List.flatten_cons,List.mem_append];exact .inl hj)).2
   omega
 obtain⟨rv',fp',g1,g2,g3⟩:=R.more (j:=j) (S:= .rowk sz l) (v:= .orow H.length l.length 0 l.length) (o:= .row (some t0) false sz (l.map fun js=>js.flatMap fun j=>cellsOf (rv j))) (HW hj) (by simp only[ED];omega) rfl (by simp[BR]) rfl fun rv' fp' e1 e2 hP hs=>by
  have hsame: ∀k∈l.flatten,Bk Γ.ss k→(Bk ((j, .rowk sz l)::Γ.ss) k∧(DB (AG Γ.ss k)=true→DB (AG ((j, .rowk sz l)::Γ.ss) k)=true))∧rv' k=rv k:=fun k hk lk=>hs (.aggk l.flatten) k (fun hn=>hn hk) lk
  refine⟨(HG (rv:=rv) (rv':=rv') h2 hsame).1,H.length,e1,e2,?_⟩
  have:(l.map fun js=>js.flatMap fun j=>cellsOf (rv' j))=l.map fun js=>js.flatMap fun j=>cellsOf (rv j):=by
   apply List.map_congr_left
   intro js hjs
   exact(HG (rv:=rv) (rv':=rv') (ss':=(j, .rowk sz l)::Γ.ss) (fun j hj=>h2 j (List.mem_flatten.2 ⟨js,hjs,hj⟩)) fun k hk=>hsame k (List.mem_flatten.2 ⟨js,hjs,hk⟩)).2.2
  rw[this]
  simp[rowAt]
 refine⟨.orow H.length l.length 0 l.length,some (H++[C6.row (some t0) false sz (l.map fun js=>js.flatMap fun j=>cellsOf (rv j))]),by simp only[B6,h1,Option.map_some,List.length_map],rv',fp',g3.push (d:=d) (φ:= .own j) ⟨g2,g1.symm⟩⟩
theorem EU{sz j n:Nat}{l:List (List Nat)}(ha:Cq tb Γ a (.own j))(hj:AG Γ.ss j=some (.rowk sz l))(hn:n=l.length):EY tb Γ (.len a) (some ()) fun _=> .val (T.int .i64) (n:Int):=by
 rintro E rv fp f H R _ ⟨⟩
 obtain⟨_,hv⟩:=ha E rv fp f H R
 obtain⟨_,id,h1,_,h3⟩:=R.slots j _ hj
 subst hn
 exact⟨_,none,by simp only[B6,hv,h1,Og,Option.map_some],rfl,BY.2 rfl⟩
theorem DR{sz sz' j i:Nat}{n:Int}{k:IntKind}{l:List (List Nat)}(ha:Cq tb Γ a (.own j))(hj:AG Γ.ss j=some (.rowk sz l))(hs:sz'=sz)(hb:Cq tb Γ b (.val (T.int k) n))(hi:n=i)(hl:i<l.length):EY tb Γ (.ias sz' a b) (some ()) fun _=> .ep j i 0:=by
 rintro E rv fp f H R _ ⟨⟩
 obtain⟨lv,hv⟩:=ha E rv fp f H R
 obtain⟨_,id,h1,_,h3⟩:=R.slots j _ hj
 subst hs hi
 refine⟨.pe id l.length (0+i) 0,none,?_,rfl,lv,id,l.length,h1,hl,by rw[Nat.zero_add]⟩
 simp only[B6,hv,h1,BY.1 (hb E rv fp f H R),Io,Option.bind_some]
 rw[if_pos (by omega)]
 simp[QP,ER,h3,hl,val]
theorem F0{sz n j i:Nat}{l:List (List Nat)}{js:List Nat}(ha:Cq tb Γ a (.ep j i 0))(hj:AG Γ.ss j=some (.rowk sz l))(hi:l[i]? =some js)(hn:qR Γ.ss js=some n):EY tb Γ (.ld true n a) (some ()) fun _=> .aggk js:=by
 rintro E rv fp f H R _ ⟨⟩
 obtain⟨lv,id,m,e,_,hv⟩:=ha E rv fp f H R
 obtain⟨h0,id',h1,_,h3⟩:=R.slots j _ hj
 rw[e]at h1
 cases h1
 have hlen:=Tk R hn
 refine⟨.agg (js.flatMap fun j=>cellsOf (rv j)),none,?_,rfl,fun k hk=>h0 k (List.mem_flatten.2 ⟨js,List.mem_of_getElem? hi,hk⟩),rfl⟩
 have hg:(l.map fun js=>js.flatMap fun j=>cellsOf (rv j))[i]? =some (js.flatMap fun j=>cellsOf (rv j)):=by rw[List.getElem?_map,hi];rfl
 simp only[B6,hv,load,place,h3,Option.bind_some,List.length_map,if_true,val]
 rw[N5 hg,V4 (by omega),if_pos (by rw[List.length_append];omega)]
 simp only[sub,List.drop_zero]
 rw[List.take_of_length_le (by omega)]
 rfl
end
end Go.Proofs.YtobejhpigbllpaaGreatDoor.Am
namespace Go.Proofs.YtobejhpigbllpaaGreatDoor.Am
theorem NM{tb:Dh}{q:Bool}{g:Nat}{w:Bool}{R:List Bm}: ∀{l:List Bm} {f:Fr} {H:Ay},get f g= .b w→g∉H9 l→Bh tb (C5 tb) (rg q (l.map (gd g w)++R)) f H=Bh tb (C5 tb) (rg q (l++R)) f H
 |[],_,_,_,_=>rfl
 |o::l,f,H,h,hn=>by
  have hd:o.d≠some g:=fun e=>hn (by simp[H9,e])
  have hn':g∉H9 l:=fun e=>hn (by
   simp only[H9,List.filterMap_cons]at e ⊢
   cases o.d<;>simp[e])
  have hwt:wanted f (gd g w o).g=wanted f o.g:=by
   cases ho:o.g with
   |none=>simp[gd,ho,wanted,h]
   |some p=>simp[gd,ho]
  have hoo:(gd g w o).o=o.o:=by cases ho:o.g<;>simp[gd,ho]
  have hod:(gd g w o).d=o.d:=by cases ho:o.g<;>simp[gd,ho]
  have ih: ∀v H',Bh tb (C5 tb) (rg q (l.map (gd g w)++R)) (put f o.d v) H'=Bh tb (C5 tb) (rg q (l++R)) (put f o.d v) H':=fun v H'=>NM (by rw[wanted_put (w:=w) hd];exact h) hn'
  cases q with
  |true=>
   have ih': ∀v H',Iw tb (C5 tb) H' (l.map (gd g w)++R) (put f o.d v)=Iw tb (C5 tb) H' (l++R) (put f o.d v):=fun v H'=>by
    have:=ih v H'
    simp only[rg,if_true,Bh]at this
    cases h1:Iw tb (C5 tb) H' (l.map (gd g w)++R) (put f o.d v)<;>cases h2:Iw tb (C5 tb) H' (l++R) (put f o.d v)<;>simp_all
   simp only[rg,if_true,Bh,List.map_cons,List.cons_append,Iw,hwt,hoo,hod,ih']
  |false=>
   have ih': ∀v H',ops tb (C5 tb) (l.map (gd g w)++R) (put f o.d v) H'=ops tb (C5 tb) (l++R) (put f o.d v) H':=fun v H'=>by
    have:=ih v H'
    simp only[rg,Bool.false_eq_true,if_false,Bh]at this
    cases h1:ops tb (C5 tb) (l.map (gd g w)++R) (put f o.d v) H'<;>cases h2:ops tb (C5 tb) (l++R) (put f o.d v) H'<;>simp_all [Prod.ext_iff]
   simp only[rg,Bool.false_eq_true,if_false,Bh,List.map_cons,List.cons_append,ops,hwt,hoo,hod,ih']
section
variable{tb:Dh}{Γ:Cx}{a b:AO}{ks:List Kf}{ρ:Type}{Q:Nh ρ}
def Aa.andI{q:Bool}{L l rest:List Bm}{g t d:Nat}{b:Bool}(Γk:Cx)(n:Nat)(og:BG Γ.ts g=some (.val T.b b))(h:JQ g true n L=some (l,⟨some d,none, .pick (.t g) (.t t) (.k (.b false))⟩::rest))(hc:Sy g l Γ.ts=true)(hs: ∀z,Sub (Γk.push d (.val T.b z)) (Γ.push d (.val T.b z)))
  (k:(z:Bool)→Aa tb (Γk.push d (.val T.b z)) (rg q rest) ks Q)
  (main:((z:Bool)→Aa tb (Γk.push d (.val T.b z)) (rg q rest) ks Q)→Aa tb (Γ.push g (.val T.b true)) (rg q (l++⟨some d,none, .pick (.t g) (.t t) (.k (.b false))⟩::rest)) ks Q):Aa tb Γ (rg q L) ks Q:=
 ⟨if b=true then(main k).m else(k false).m,fun E f H ⟨rv,fp,I⟩ r hr=>by
  have hL:=Gy h
  simp only[Sy,Bool.and_eq_true,Bool.not_eq_true']at hc
  obtain⟨hc1,hc2,hc3⟩:=hc
  have hg:=F3.1 (I.temps g _ og)
  have hng:=IR hc2
  cases b with
  |true=>
   obtain⟨e,f',H',h4,h5⟩:=(main k).ok E f H ⟨rv,fp,I.le,I.base,I.wf,I.fplt,I.rvlt,I.scal,I.inj,I.slots,fun u φ e=>by
    simp only[Cx.push,BG]at e
    split at e
    ·rename_i hu;cases e;subst hu;exact F3.2 hg
    ·exact I.temps u φ e,I.gh⟩ r (by simpa using hr)
   exact⟨e,f',H',by rw[hL,NM hg hng];exact h4,h5⟩
  |false=>
   obtain⟨f',h1,h2⟩:=Mr (tb:=tb) (q:=q) (w:=true) (H:=H) hg hng hc1 (by simp)
   have hp:B6 tb (C5 tb) (eval tb f') H (.pick (.t g) (.t t) (.k (.b false)))=some (.b false,none):=by
    simp only[B6,eval,h2 g hng,hg];rfl
   have I':B1 E Γ rv fp f' H:=I.fr fun u φ e=>h2 u (HQ hc3 e)
   obtain⟨e,f2,H2,h4,h5⟩:=(k false).ok E _ H ⟨rv,fp,(Wd I').sub (hs _)⟩ r (by simpa using hr)
   exact⟨e,f2,H2,by rw[hL,E8 h1,Ef hp rfl];exact h4,h5⟩⟩
theorem LY{n:Nat}{t:T}{zero:List AV}{ps:List (Nat×Nat×AO)}(z:Ar t.α n)(hz:zero=(T.arr n t).zc)(h:nH tb Γ (T.arr n t) ps (T.arr n t).z z):EY tb Γ (.bld zero ps) (some ()) fun _=> .val (T.arr n t) z:=by
 rintro E rv fp f H R _ ⟨⟩
 exact C3 hz rfl h E rv fp f H R z rfl
theorem N0{sz:Nat}: ∀{l:List (List AV)} {i:Nat},(∀e∈l,e.length=sz)→i≤l.length→l.flatten.take (i*sz)=(l.take i).flatten∧l.flatten.drop (i*sz)=(l.drop i).flatten
 |l,0,_,_=>by simp
 |[],i+1,_,h=>by simp at h
 |d::l,i+1,hl,h=>by
  have h1:=hl d List.mem_cons_self
  obtain⟨a,b⟩:=N0 (l:=l) (i:=i) (fun e he=>hl e (List.mem_cons_of_mem _ he)) (by simpa using h)
  have hs:(i+1)*sz=d.length+i*sz:=by rw[Nat.succ_mul];omega
  constructor
  ·rw[List.flatten_cons,hs,List.take_append,List.take_of_length_le (by omega),Nat.add_sub_cancel_left,a];simp
  ·rw[List.flatten_cons,hs,←List.drop_drop,List.drop_left' rfl,b];simp
theorem lQ{sz k m:Nat}{l:List (List AV)}(hl: ∀e∈l,e.length=sz)(h:k+m≤l.length):sub l.flatten (k*sz) (m*sz)=((l.drop k).take m).flatten:=by
 simp only[sub]
 rw[(N0 hl (i:=k) (by omega)).2,(N0 (fun e he=>hl e (List.mem_of_mem_drop he)) (i:=m) (by rw[List.length_drop];omega)).1]
theorem gG{sz:Nat}{l:List (List AV)}(hl: ∀e∈l,e.length=sz):l.flatten.length=l.length*sz:=by
 induction l with
 |nil=>simp
 |cons d l ih=>
  have:=ih fun e he=>hl e (List.mem_cons_of_mem _ he)
  have:=hl d List.mem_cons_self
  simp only[List.flatten_cons,List.length_append,List.length_cons,Nat.succ_mul];omega
theorem bF{sz i:Nat}{l dss:List (List AV)}(hl: ∀e∈l,e.length=sz)(hd: ∀e∈dss,e.length=sz)(h:i+dss.length≤l.length):B3 l.flatten (i*sz) dss.flatten=(l.take i++dss++l.drop (i+dss.length)).flatten:=by
 simp only[B3,List.flatten_append]
 rw[(N0 hl (i:=i) (by omega)).1,gG hd,←Nat.add_mul,(N0 hl (i:=i+dss.length) h).2]
def TN(n:Nat)(t:T)(k m:Nat)(hkm:k+m≤n):AM (T.arr n t) (T.arr m t) (k*t.sz) where
 get:=fun x=>⟨(x.l.drop k).take m,by rw[List.length_take,List.length_drop,x.len];omega⟩
 put:=fun x y=>⟨x.l.take k++y.l++x.l.drop (k+m),by rw[List.length_append,List.length_append,List.length_take,List.length_drop,x.len,y.len];omega⟩
 le:=by
  show k*t.sz+m*t.sz≤n*t.sz
  rw[←Nat.add_mul];exact Nat.mul_le_mul_right _ hkm
 getR:=fun{P H cs x} ⟨css,e,h⟩=>by
  refine⟨(css.drop k).take m,?_,h.drop.take⟩
  have hlen:=h.length
  have hx:=x.len
  rw[e]
  exact lQ h.lens (by omega)
 putR:=fun{P H cs x c y} ⟨css,e,h⟩ ⟨dss,e',h'⟩=>by
  refine⟨css.take k++dss++css.drop (k+m),?_,(h.take.app h').app h.drop⟩
  have hlen:=h.length
  have hx:=x.len
  have hlen':=h'.length
  have hy:=y.len
  rw[e,e']
  have:=bF (dss:=dss) h.lens h'.lens (i:=k) (by omega)
  rw[this,show dss.length=m by omega]
theorem Tw{j off n sz:Nat}{ps:List (Nat×AK)}{lo hi:Option AO}{l h:Option Int}(hj:AG Γ.ss j=some (.cells ps))(hle:Nat.ble (off+n*sz) (TR ps)=true)(ha:Cq tb Γ a (.cp j off))(hl:sM tb Γ lo l)(hh:sM tb Γ hi h):
  EY tb Γ (.sla n sz a lo hi) (PL n l h) fun p=> .oc j (off+p.1*sz) sz (p.2-p.1):=by
 intro E rv fp f H I p hp
 obtain⟨lv,id,e,hv⟩:=ha E rv fp f H I
 obtain⟨cs,h0,h2,h3⟩:=Hb I hj e
 have hs:=PR.length h3
 have hle:=Nat.le_of_ble_eq_true hle
 refine⟨.ocel sz id (off+p.1*sz) (p.2-p.1),none,?_,rfl,lv,id,e,rfl⟩
 simp only[B6,hv]
 rw[TG hl hh I,hp]
 simp only[Option.bind_some,pC,h2]
 rw[if_pos (by omega)]
 rfl
theorem P4{j off n sz k m o' c:Nat}{ps:List (Nat×AK)}{lo hi:Option AO}{l h:Option Int}(hj:AG Γ.ss j=some (.cells ps))(hle:Nat.ble (off+n*sz) (TR ps)=true)(ha:Cq tb Γ a (.cp j off))(hl:sM tb Γ lo l)(hh:sM tb Γ hi h)
  (hb:PL n l h=some (k,m)) (ho:off+k*sz=o') (hc:m-k=c):EY tb Γ (.sla n sz a lo hi) (some ()) fun _=> .oc j o' sz c:=by
 rintro E rv fp f H I _ ⟨⟩
 subst ho hc
 exact Tw hj hle ha hl hh E rv fp f H I (k,m) hb
theorem sF{n:Nat}{h:Option Int}{p:Nat×Nat}(e:PL n none h=some p):p.1=0∧p.2≤n:=by
 have h2:=(xM e).2
 unfold PL at e
 obtain⟨u,hu,e⟩:=Option.bind_eq_some_iff.1 e
 obtain⟨l,hl,e⟩:=Option.bind_eq_some_iff.1 e
 cases hl
 cases e
 exact⟨rfl,h2⟩
theorem bA{j off n sz:Nat}{ps:List (Nat×AK)}{hi:Option AO}{h:Option Int}(hj:AG Γ.ss j=some (.cells ps))(hle:Nat.ble (off+n*sz) (TR ps)=true)(ha:Cq tb Γ a (.cp j off))(hh:sM tb Γ hi h):
  EY tb Γ (.sla n sz a none hi) ((PL n none h).map fun p=>p.2) fun m=> .oc j off sz m:=by
 intro E rv fp f H I m hm
 obtain⟨p,hp,rfl⟩:=Option.map_eq_some_iff.1 hm
 have:=Tw hj hle ha .none hh E rv fp f H I p hp
 simp only[(sF hp).1,Nat.zero_mul,Nat.add_zero,Nat.sub_zero]at this
 exact this
theorem vW{j off len sz n:Nat}(ha:Cq tb Γ a (.oc j off sz len))(hn:Nat.ble n len=true):EY tb Γ (.s2a n sz a) (some ()) fun _=> .cp j off:=by
 rintro E rv fp f H I _ ⟨⟩
 obtain⟨lv,id,e,hv⟩:=ha E rv fp f H I
 have hn:=Nat.le_of_ble_eq_true hn
 exact⟨.ptr id off,none,by simp only[B6,hv,U0];rw[if_pos ⟨trivial,hn⟩];rfl,rfl,lv,id,e,rfl⟩
theorem h_lenC{j off len sz:Nat}(ha:Cq tb Γ a (.oc j off sz len)):EY tb Γ (.len a) (some (len:Int)) fun n=> .val (T.int .i64) n:=by
 rintro E rv fp f H I _ ⟨⟩
 obtain⟨lv,id,e,hv⟩:=ha E rv fp f H I
 exact⟨.i .i64 len,none,by simp only[B6,hv,Og,Option.map_some],rfl,BY.2 rfl⟩
theorem h_iasC{j off len sz:Nat}{k:IntKind}{i:Int}{ps:List (Nat×AK)}(hj:AG Γ.ss j=some (.cells ps))(hle:off+len*sz≤TR ps)(ha:Cq tb Γ a (.oc j off sz len))(hb:Cq tb Γ b (.val (T.int k) i)):
  EY tb Γ (.ias sz a b) (C2 len i) fun m=> .cp j (off+m*sz):=by
 intro E rv fp f H I m hm
 obtain⟨h0,rfl,h1⟩:=Zd hm
 obtain⟨lv,id,e,hv⟩:=ha E rv fp f H I
 obtain⟨cs,g0,g2,g3⟩:=Hb I hj e
 have hs:=PR.length g3
 have hcl: ∀(n:Nat) (l:List AV),(BO sz n l).length=n:=by
  intro n
  induction n with
  |zero=>intro l;rfl
  |succ n ih=>intro l;simp[BO,ih]
 refine⟨.ptr id (off+i.toNat*sz),none,?_,rfl,lv,id,e,rfl⟩
 simp only[B6,hv,BY.1 (hb E rv fp f H I),Io,Option.bind_some,if_pos h0,QP,ER,g2]
 rw[if_pos ⟨trivial,by omega⟩]
 simp only[Option.bind_some,hcl]
 rw[if_pos (by omega)]
 rfl
theorem IM{j off len sz:Nat}{k:IntKind}{i:Int}{ps:List (Nat×AK)}(N:Nat)(hj:AG Γ.ss j=some (.cells ps))(hN:N=TR ps)(ha:Cq tb Γ a (.oc j off sz len))(hb:Cq tb Γ b (.val (T.int k) i)):
  EY tb Γ (.ias sz a b) (if off+len*sz≤N then C2 len i else none) fun m=> .cp j (off+m*sz):=by
 intro E rv fp f H I m hm
 split at hm
 ·rename_i hle
  exact h_iasC hj (hN▸hle) ha hb E rv fp f H I m hm
 ·cases hm
theorem B1.learn{E:PN}{rv:Nat→AV}{fp:Fp}{f:Fr}{H:Ay}(I:B1 E Γ rv fp f H){d:Nat}{φ:AK}(h:FR rv Γ.ss (Pf E Γ.ss fp H) H φ (get f d)):B1 E (Γ.push d φ) rv fp f H:=
 ⟨I.le,I.base,I.wf,I.fplt,I.rvlt,I.scal,I.inj,I.slots,fun t ψ e=>by
  simp only[Cx.push,BG]at e
  split at e
  ·rename_i hd;cases e;subst hd;exact h
  ·exact I.temps t ψ e,I.gh⟩
def wJ{α:Type}(l:List α)(k m n:Nat):Option (GS α):=if k+m≤n then some (.mk ((l.drop k).take m))else none
theorem B1.frzSl{E:PN}{rv:Nat→AV}{fp:Fp}{f:Fr}{H:Ay}(I:B1 E Γ rv fp f H){j N o k m n sz d:Nat}{t u:T}{x:t.α}{g:GS u.α}(F:AM t (T.arr n u) o)(hsz:sz=u.sz)(hj:AG Γ.ss j=some (.cells [(N, .val t x)]))(hn:Nat.blt j aE=true)
  (hd:BG Γ.ts d=some (.oc j (o+k*sz) sz m)) (hg:wJ (F.get x).l k m n=some g):B1 E ((Γ.turn j (cA t x)).push d (.val (T.sl u) g)) rv fp f H:=by
 have hlj:Bk Γ.ss j:=Mv hj rfl
 have hs:=I.slots j _ hj
 obtain⟨_,id,e,hv⟩:=I.temps d _ hd
 obtain⟨id',cs,h3,h0,h4,c,e',h5,h6,h7,h8⟩:=hs
 rw[e]at h3
 cases h3
 have h8':e'=[]:=h8
 subst h8'
 simp only[List.append_nil]at h5
 subst h5
 simp only[wJ]at hg
 split at hg
 ·rename_i hkm
  cases hg
  have hlen:=t.len h7
  have hle:=F.le
  have J:=I.frzCell hj hn
  have hlv: ∀k,Bk (Γ.turn j (cA t x)).ss k↔k≠j∧Bk Γ.ss k:=Qe
  subst hsz
  have hk:=(h0 id).2 rfl
  have hPid:Pf E (Γ.turn j (cA t x)).ss fp H id:=Pf.gone I hlj hk (fun k lk=>(hlv k).1 lk) (I.new hlj hn id hk)
  have hr:=t.mono (G:=H) (fun i hi=>⟨Pf.same (ss':=(Γ.turn j (cA t x)).ss) (fun k l=>((hlv k).1 l).2) hi,rfl⟩) h7
  obtain⟨css,e1,e2⟩:=F.getR hr
  have hszA:(T.arr n u).sz=n*u.sz:=rfl
  have hwhole:Qs u (Pf E (Γ.turn j (cA t x)).ss fp H) H (.ocel u.sz id o n) (.mk (F.get x).l):=by
   refine⟨hPid,css,?_,e2⟩
   simp only[ER,h4,Option.bind_some]
   rw[if_pos ⟨trivial,by omega⟩]
   congr 1
   have key: ∀(k:Nat) (css:List (List AV)) (cs:List AV),css.length=k→(∀e∈css,e.length=u.sz)→cs.take (k*u.sz)=css.flatten→BO u.sz k cs=css:=by
    intro k
    induction k with
    |zero=>intro css cs h _ _;rw[List.eq_nil_of_length_eq_zero h];rfl
    |succ k ih=>
     intro css cs hk hall hc
     match css,hk with
     |y::css,hk=>
      have hy:=hall y (by simp)
      simp only[BO]
      simp only[List.flatten_cons]at hc
      have hA:cs.take u.sz=y:=by
       have:=congrArg (List.take u.sz) hc
       rw[List.take_take,Nat.min_eq_left (by rw[Nat.succ_mul];omega),List.take_left' hy]at this
       exact this
      have hB:(cs.drop u.sz).take (k*u.sz)=css.flatten:=by
       have:=congrArg (List.drop u.sz) hc
       rw[List.drop_left' hy,List.drop_take,Nat.succ_mul,Nat.add_sub_cancel]at this
       exact this
      rw[hA,ih css (cs.drop u.sz) (by simpa using hk) (fun e he=>hall e (by simp[he])) hB]
   exact key n css (cs.drop o) (by rw[e2.length];exact(F.get x).len) e2.lens (by rw[←e1];rfl)
  have hlenx:(F.get x).l.length=n:=(F.get x).len
  obtain⟨w,h9,h10⟩:=hwhole.resl (c:=k) (d:=k+m) (by omega) (by simp only[GS.l];omega)
  have hw:Am.resl H u.sz (.ocel u.sz id o n) k (k+m)=some (.ocel u.sz id (o+k*u.sz) m):=by simp[Am.resl]
  rw[hw]at h9
  cases h9
  refine J.learn ?_
  rw[hv]
  have:Wg (GS.mk (F.get x).l) k (k+m)= .mk (((F.get x).l.drop k).take m):=by simp[Wg,List.drop_take]
  rw[this]at h10
  exact IP.2 h10
 ·cases hg
def Aa.frzSl{c:AC}{j N o k m n sz:Nat}(d:Nat){t u:T}{x:t.α}(F:AM t (T.arr n u) o)(hsz:sz=u.sz)(hj:AG Γ.ss j=some (.cells [(N, .val t x)]))(hn:Nat.blt j aE=true)
  (hd:BG Γ.ts d=some (.oc j (o+k*sz) sz m)) (s:(g:GS u.α)→Aa tb ((Γ.turn j (cA t x)).push d (.val (T.sl u) g)) c ks Q):Aa tb Γ c ks Q:=
 ⟨(wJ (F.get x).l k m n).bind fun g=>(s g).m,fun E f H ⟨rv,fp,I⟩ r hr=>by
  obtain⟨g,hg,hr⟩:=Option.bind_eq_some_iff.1 hr
  exact(s g).ok E f H ⟨rv,fp,I.frzSl F hsz hj hn hd hg⟩ r hr⟩
def UX{α:Type}{n:Nat}(x:Ar α n)(k m:Nat)(ys:List α):Option (Ar α n):=
 if h:k+m≤n then some ⟨x.l.take k++ys.take m++x.l.drop (k+min ys.length m),by
  rw[List.length_append,List.length_append,List.length_take,List.length_take,List.length_drop,x.len];omega⟩else none
theorem B1.cpy{E:PN}{rv:Nat→AV}{fp:Fp}{f:Fr}{H:Ay}(I:B1 E Γ rv fp f H){s t:T}{x:s.α}{n j o o' k sz m N:Nat}{ps:List (Nat×AK)}{ys:List t.α}{z:Ar t.α n}(F:AM s (T.arr n t) o')(hk:sz=t.sz)
  (ha:Cq tb Γ a (.oc j (o+k*sz) sz m)) (hb:xX tb Γ b t ys) (hj:AG Γ.ss j=some (.cells ps)) (hp:KM ps o=some (N, .val s x,o')) (hz:UX (F.get x) k m ys=some z):
  ∃v H',B6 tb (C5 tb) (eval tb f) H (.cpy sz a b)=some (v,some H')∧v= .i .i64 ((min ys.length m:Nat):Int)∧ ∃rv' fp',B1 E (Γ.setS j (.cells (UJ ps o (.val s (F.put x z))))) rv' fp' f H':=by
 subst hk
 simp only[UX]at hz
 split at hz
 ·rename_i hkm
  cases hz
  obtain⟨l,id,e,hv⟩:=ha E rv fp f H I
  obtain⟨cs,h0,h2,h3⟩:=Hb I hj e
  obtain⟨b',c,e0,e1,e2,e3,e4,e5,e6⟩:=GL h3 hp
  obtain⟨els,g1,g2⟩:=hb E rv fp f H I
  have hel:=g2.length
  have hlens:=(g2.take (n:=m)).lens
  have htl:(els.take m).length=min ys.length m:=by rw[List.length_take,hel,Nat.min_comm]
  have hfl:=gG hlens
  rw[htl]at hfl
  let G:=KS F (TN n t k (min ys.length m) (by omega))
  have hle:=G.le
  have hszA:(T.arr (min ys.length m) t).sz=min ys.length m*t.sz:=rfl
  have hl:=s.len e4
  have hy:(T.arr (min ys.length m) t).R (Pf E Γ.ss fp H) H (els.take m).flatten ⟨ys.take m,by rw[List.length_take,Nat.min_comm]⟩:=⟨els.take m,rfl,g2.take⟩
  have hput:=G.putR e4 hy
  have hpr:=e6 (o'+k*t.sz) (els.take m).flatten (.val s (G.put x ⟨ys.take m,by rw[List.length_take,Nat.min_comm]⟩)) (by rw[hfl];omega) hput
  rw[show b'+(o'+k*t.sz)=o+k*t.sz by omega]at hpr
  have hmen:=PR.men I.ltP I.rvlt h3
  have hym:=(T.arr (min ys.length m) t).men hy I.ltP
  have hlt':=(I.fplt j id l ((h0 id).2 rfl)).1
  have hx:G.put x ⟨ys.take m,by rw[List.length_take,Nat.min_comm]⟩=F.put x ⟨(F.get x).l.take k++ys.take m++(F.get x).l.drop (k+min ys.length m),by
    rw[List.length_append,List.length_append,List.length_take,List.length_take,List.length_drop,(F.get x).len];omega⟩:=rfl
  rw[hx]at hpr
  obtain⟨rv',fp',_,_,R'⟩:=I.set (j:=j) (S:= .cells (UJ ps o (.val s (F.put x ⟨(F.get x).l.take k++ys.take m++(F.get x).l.drop (k+min ys.length m),by
    rw[List.length_append,List.length_append,List.length_take,List.length_take,List.length_drop,(F.get x).len];omega⟩)))) (v:=rv j) (o:= .cells (EP H id) (B3 cs (o+k*t.sz) (els.take m).flatten)) (by rw[hj];rfl) l h0 (by simp only[ED];exact Oa hmen hym) rfl (I.rvlt j l) (.inl rfl) (I.scal j l) fun rv' fp' e1 e2 hP hs=>
   ⟨id,_,by rw[e1,e],e2,by simp[Cu,hlt'],PR.mono hP (by simp) (fun p _=>hs p.2 (.inl rfl)) hpr⟩
  refine⟨_,H.set id (C6.cells (EP H id) (B3 cs (o+k*t.sz) (els.take m).flatten)),?_,rfl,rv',fp',R'⟩
  have hmn:min els.length m=min ys.length m:=by rw[hel]
  have hbnd:o+k*t.sz+m*t.sz≤cs.length:=by
   have hF:=F.le
   have hszF:(T.arr n t).sz=n*t.sz:=rfl
   have:(k+m)*t.sz≤n*t.sz:=Nat.mul_le_mul_right _ hkm
   rw[Nat.add_mul]at this
   omega
  simp only[B6,g1,Option.bind_some,hv,bW,h2]
  rw[if_pos ⟨trivial,hbnd⟩,hmn]
  have hte:els.take (min ys.length m)=els.take m:=by
   rw[←hmn]
   rcases Nat.le_total els.length m with h|h
   ·rw[Nat.min_eq_left h,List.take_of_length_le (Nat.le_refl _),List.take_of_length_le h]
   ·rw[Nat.min_eq_right h]
  rw[hte,B3,hfl]
 ·cases hz
theorem nD{s t:T}{x:s.α}{n j o o' k sz m N d:Nat}{ps:List (Nat×AK)}{ys:List t.α}(F:AM s (T.arr n t) o')(hk:sz=t.sz)
  (ha:Cq tb Γ a (.oc j (o+k*sz) sz m)) (hb:xX tb Γ b t ys) (hj:AG Γ.ss j=some (.cells ps)) (hp:KM ps o=some (N, .val s x,o')):
  X3 tb Γ (some d) (.cpy sz a b) (UX (F.get x) k m ys) fun z=>(Γ.setS j (.cells (UJ ps o (.val s (F.put x z))))).push d (.val (T.int .i64) ((min ys.length m:Nat):Int)):=fun E rv fp f H I z hz=>by
 obtain⟨v,H',h1,rfl,rv',fp',h2⟩:=I.cpy F hk ha hb hj hp hz
 exact⟨_,some H',h1,rv',fp',h2.push (BY.2 rfl)⟩
def kM:AK→Bool
 | .own _=>true
 | .rp _ _=>true
 | .cp _ _=>true
 | .ep _ _ _=>true
 | .con _=>true
 | .fnv _ _ _=>true
 | .val t _=> !t.agg
 |_=>false
theorem qP{φ:AK}(h:kM φ=true){E:PN}{rv:Nat→AV}{fp:Fp}{f:Fr}{H:Ay}(R:B1 E Γ rv fp f H)(hs:szF Γ.ss φ=some 1){v:AV}(r:FR rv Γ.ss (Pf E Γ.ss fp H) H φ v):
  cellsOf v=[v]∧BR v≤H.length∧ ∀rv ss P H,FC rv ss P H φ [v]↔FR rv ss P H φ v:=by
 obtain⟨g1,g2⟩:=V2 R hs r
 have ha:AaT φ=false:=by cases φ<;>first|rfl|(simp only[kM,Bool.false_eq_true]at h;done)|(simp only[kM,Bool.not_eq_true']at h;exact h)
 rw[ha]at g2
 refine⟨?_,FR.men R.ltP R.rvlt (by rintro rfl;cases h) r,fun rv ss P H=> ?_⟩
 ·match hc:cellsOf v,g1 with
  |[w],_=>
   rw[hc]at g2
   simp only[Im,Option.some.injEq]at g2
   rw[g2]
 ·cases φ<;>first
   |(simp only[kM,Bool.false_eq_true]at h;done)
   |exact⟨fun⟨w,e,r⟩=>by cases e;exact r,fun r=>⟨v,rfl,r⟩⟩
   |exact⟨fun r=> .inr ⟨by simpa [kM]using h,r⟩,fun r=>r.elim (fun⟨e,_⟩=>by simp[kM,e]at h) (fun e=>e.2)⟩
theorem A9{d t0:Nat}{z:List AV}(j:Nat)(ps:List (Nat×AK))(hz: ∀rv ss P H,PR rv ss P H ps z)(hm:Bx z=0)(hj:AG Γ.ss j=none):X3 tb Γ (some d) (.alloc t0 z) (some ()) fun _=>⟨(d, .cp j 0)::Γ.ts,(j, .cells ps)::Γ.ss⟩:=by
 intro E rv fp f H R _ hz0
 obtain⟨rv',fp',h1,h2,h3⟩:=R.more (j:=j) (S:= .cells ps) (v:= .ptr H.length 0) (o:= .cells (some t0) z) (HW hj) (by simp only[ED];omega) rfl (by simp[BR]) rfl fun rv' fp' e1 e2 hP hs=>
  ⟨_,z,e1,e2,by simp[Cu],hz _ _ _ _⟩
 exact⟨_,_,rfl,rv',fp',h3.push (φ:= .cp j 0) ⟨h2,_,h1,rfl⟩⟩
theorem h_cvcI{I:IT}{x:I.t.α}(ha:Cq tb Γ a (.val I.t x)):EY tb Γ (.cvc a) (some (Utf8.encode (I.toI x)).data.toList) fun z=> .val Ak z:=by
 rintro E rv fp f H R z ⟨⟩
 exact⟨_,none,by simp only[B6,I.V.1 (ha E rv fp f H R)],rfl,EH.2 rfl⟩
end
section
variable{tb:Dh}{Γ:Cx}{a b:AO}
def RV(ss:Ss):List Nat→Bool
 |[]=>true
 |j::r=>(match AG ss j with
  |some (.keep φ)=>kM φ&&(match szF ss φ with|some 1=>true|_=>false)
  |_=>false)&&RV ss r
theorem NW{E:PN}{rv:Nat→AV}{fp:Fp}{f:Fr}{H:Ay}(R:B1 E Γ rv fp f H): ∀{js:List Nat},RV Γ.ss js=true→(js.flatMap fun j=>cellsOf (rv j))=js.map rv∧Mw Γ.ss js∧ ∀j∈js,BR (rv j)≤H.length
 |[],_=>⟨rfl,fun _ hj=>absurd hj (by simp),fun _ hj=>absurd hj (by simp)⟩
 |j::r,h=>by
  simp only[RV,Bool.and_eq_true]at h
  obtain⟨h1,h2⟩:=h
  obtain⟨g1,g2,g3⟩:=NW R h2
  split at h1
  ·rename_i φ e
   simp only[Bool.and_eq_true]at h1
   have hs:szF Γ.ss φ=some 1:=by
    have:=h1.2
    split at this
    ·assumption
    ·cases this
   obtain⟨k1,k2,_⟩:=qP h1.1 R hs (R.slots j _ e).1
   refine⟨by simp only[List.flatMap_cons,List.map_cons,k1,g1];rfl,fun k hk=> ?_,fun k hk=> ?_⟩
   ·rcases List.mem_cons.1 hk with rfl|hk
    ·rw[e];rfl
    ·exact g2 k hk
   ·rcases List.mem_cons.1 hk with rfl|hk
    ·exact k2
    ·exact g3 k hk
  ·cases h1
def kvs(js:List Nat):List (Nat×AK):=js.map fun k=>(1, .kv k)
theorem vM{rv:Nat→AV}{ss:Ss}{P:Nat→Prop}{H:Ay}: ∀{js:List Nat},Mw ss js→PR rv ss P H (kvs js) (js.map rv)
 |[],_=>rfl
 |j::r,h=>⟨[rv j],r.map rv,rfl,rfl,⟨rv j,rfl,fun k hk=>by rw[List.mem_singleton.1 hk];exact h j (by simp),rfl⟩,vM fun k hk=>h k (by simp[hk])⟩
theorem xW{rv:Nat→AV}{ss:Ss}{P:Nat→Prop}{H:Ay}: ∀{js:List Nat} {cs:List AV},PR rv ss P H (kvs js) cs→cs=js.map rv
 |[],cs,h=>h
 |j::r,cs,⟨c,d,e,_,⟨v,hc,_,hv⟩,g⟩=>by rw[e,hc,xW g,hv];rfl
theorem Ba{js:List Nat}{j n:Nat}{ps:List (Nat×AK)}(ha:Cq tb Γ a (.cp j 0))(hb:Cq tb Γ b (.aggk js))(ho:RV Γ.ss js=true)(hj:AG Γ.ss j=some (.cells ps))(hn:n=js.length)(hs:n=TR ps):
  X3 tb Γ none (.st n a b) (some ()) fun _=>Γ.setS j (.cells (kvs js)):=by
 rintro E rv fp f H R z ⟨⟩
 obtain⟨l,id,e,hv⟩:=ha E rv fp f H R
 obtain⟨cs,h0,h2,h3⟩:=Hb R hj e
 obtain⟨g1,g2,g3⟩:=NW R ho
 have hbv:=(hb E rv fp f H R).2
 rw[g1]at hbv
 have hlen:=PR.length h3
 have hlt:=(R.fplt j id l ((h0 id).2 rfl)).1
 have hm:Bx (js.map rv)≤H.length:=by
  have key: ∀l:List Nat,(∀j∈l,BR (rv j)≤H.length)→Bx (l.map rv)≤H.length:=by
   intro l
   induction l with
   |nil=>intro _;simp[Bx]
   |cons x l ih=>intro h;simp only[List.map_cons,Bx];have:=h x (by simp);have:=ih fun j hj=>h j (by simp[hj]);omega
  exact key js g3
 obtain⟨rv',fp',_,_,R'⟩:=R.set (j:=j) (S:= .cells (kvs js)) (v:=rv j) (o:= .cells (EP H id) (js.map rv)) (by rw[hj];rfl) l h0 (by simp only[ED];exact hm) rfl (R.rvlt j l) (.inl rfl) (R.scal j l) fun rv' fp' e1 e2 hP hs=>
  ⟨id,_,by rw[e1,e],e2,by simp[Cu,hlt],PR.mono hP (by simp) (fun p _=>hs p.2 (.inl rfl)) (vM (rv:=rv) g2)⟩
 have hsp:B3 cs 0 (js.map rv)=js.map rv:=by
  simp only[B3,List.take_zero,List.nil_append,Nat.zero_add]
  rw[List.drop_eq_nil_of_le (by rw[List.length_map];omega),List.append_nil]
 refine⟨.junk,some (H.set id (C6.cells (EP H id) (js.map rv))),?_,rv',fp',R'⟩
 simp only[B6,hv,store,h2,Option.bind_some,hbv,cellsOf]
 rw[if_pos ⟨by rw[List.length_map,hn],by omega⟩,hsp]
 rfl
theorem h_ldKs{js:List Nat}{j n:Nat}(ha:Cq tb Γ a (.cp j 0))(ho:RV Γ.ss js=true)(hj:AG Γ.ss j=some (.cells (kvs js)))(hn:n=js.length):EY tb Γ (.ld true n a) (some ()) fun _=> .aggk js:=by
 rintro E rv fp f H R z ⟨⟩
 obtain⟨l,id,e,hv⟩:=ha E rv fp f H R
 obtain⟨cs,h0,h2,h3⟩:=Hb R hj e
 obtain⟨g1,g2,g3⟩:=NW R ho
 have hcs:=xW h3
 subst hcs
 have hsub:sub (js.map rv) 0 n=js.map rv:=by
  simp only[sub,List.drop_zero];exact List.take_of_length_le (by rw[List.length_map];omega)
 refine⟨.agg (js.map rv),none,?_,rfl,g2,by rw[g1]⟩
 simp only[B6,hv,Am.load,place,h2,Option.map_some,Option.bind_some]
 rw[if_pos (by rw[List.length_map];omega),hsub]
 rfl
theorem DH{js:List Nat}{j n m:Nat}(h:BG Γ.ts n=some (.cp j 0))(ho:RV Γ.ss js=true)(hj:AG Γ.ss j=some (.cells (kvs js)))(hm:m=js.length):xV Γ (.cell true m n) (.aggk js):=by
 intro E rv fp f H R r vs hr
 obtain⟨v,u,h1,_,h3⟩:=h_ldKs (tb:=⟨fun _=>none,fun _=>none,fun _=>none,[]⟩) (Cs h) ho hj hm E rv fp f H R () rfl
 simp only[B6,eval,val]at h1
 obtain⟨w,hw,e⟩:=Option.map_eq_some_iff.1 h1
 cases e
 exact⟨v,by simp only[results,hw,Option.bind_some,hr,Option.map_some],h3⟩
end
def Y4{t:T}{l:List CK}(p:F5 t l)(x y:t.α):Bool:= @decide (x=y) (p.d x y)
theorem Xj{t:T}{l:List CK}{p:F5 t l}{x y:t.α}(h:x=y):Y4 p x y=true:= @decide_eq_true _ (p.d x y) h
theorem bY{t:T}{l:List CK}{p:F5 t l}{x y:t.α}(h: ¬x=y):Y4 p x y=false:= @decide_eq_false _ (p.d x y) h
end Go.Proofs.YtobejhpigbllpaaGreatDoor.Am
namespace Go.Proofs.YtobejhpigbllpaaGreatDoor.Am
section
variable{tb:Dh}{cl:Nat→List AV→Ay→Lk}{N:Nat}
end
section
variable{tb:Dh}{Γ:Cx}{a b:AO}{ks:List Kf}{ρ:Type}{Q:Nh ρ}
def iW:T:=SI Bool (fun x=>if x then .ifc 0 .junk else .nili) false (fun x=>by cases x<;>rfl) (fun x=>by cases x<;>rfl)
theorem cM{P:Nat→Prop}{H:Ay}{v:AV}{x:Bool}:iW.V P H v x↔v=if x then .ifc 0 .junk else .nili:=PM
theorem vX{t:Nat}:EY tb Γ (.mkif t a) (some ()) fun _=> .val iW true:=by
 rintro E rv fp f H R _ ⟨⟩
 exact⟨_,none,rfl,rfl,cM.2 rfl⟩
theorem h_isni{x neg:Bool}(ha:Cq tb Γ a (.val iW x)):EY tb Γ (.isni neg a) (some (if neg then x else !x)) fun z=> .val T.b z:=by
 rintro E rv fp f H R _ ⟨⟩
 have h:=cM.1 (ha E rv fp f H R)
 refine⟨.b (if neg then x else !x),none,?_,rfl,F3.2 rfl⟩
 simp only[B6,h]
 cases x<;>cases neg<;>rfl
theorem o_g{n:Nat}{t:T}{cs:List AV}{x:t.α}(h:tb.gl n=some cs)(hm:Bx cs=0)(hr: ∀P H,t.R P H cs x):Cq tb Γ (.g n) (.rp t x):=fun E rv fp f H R=>by
 have hl:=t.len (hr (Pf E Γ.ss fp H) H)
 have he:eval tb f (.g n)= .ip cs 0:=by simp only[eval,h]
 show jI t _ _ _ _
 rw[he]
 refine⟨trivial,cs,0,rfl,by omega,?_,fun m _=>by simp only[BR,hm];omega⟩
 have:sub cs 0 t.sz=cs:=by simp[sub,←hl]
 rw[this];exact hr _ _
theorem tab_m{α:Type}(c:α→AV)(hm: ∀x,BR (c x)=0): ∀l:List α,Bx (l.map c)=0
 |[]=>rfl
 |x::l=>by simp only[List.map_cons,Bx,hm x,tab_m c hm l];rfl
theorem tab_R{α:Type}{c:α→AV}{z:α}{hs hm}{n:Nat}{P:Nat→Prop}{H:Ay}(x:Ar α n):(T.arr n (SI α c z hs hm)).R P H (x.l.map c) x:=by
 have key: ∀l:List α,l.map c=(l.map fun y=>[c y]).flatten∧CT (SI α c z hs hm) P H (l.map fun y=>[c y]) l:=fun l=>by
  induction l with
  |nil=>exact⟨rfl,trivial⟩
  |cons y l ih=>exact⟨by simp[ih.1],rfl,ih.2⟩
 exact⟨_,(key x.l).1,(key x.l).2⟩
end
section
variable{K V:T}{P Q:Nat→Prop}{H G:Ay}
end
section
variable{K V:T}{P Q:Nat→Prop}{H G:Ay}{ek:EK}
end
section
variable{tb:Dh}{Γ:Cx}{a b c:AO}{K V:T}{ek:EK}
end
end Go.Proofs.YtobejhpigbllpaaGreatDoor.Am
namespace Go.Proofs.YtobejhpigbllpaaGreatDoor.Am
section
variable{tb:Dh}{Γ:Cx}{ks:List Kf}{ρ:Type}{Q:Nh ρ}
def QJ(tb:Dh){τ:Type}(Γj:τ→Cx)(ks:List Kf)(Q:Nh ρ):Nh (τ⊕ρ):=fun E r e f H=>
 match r with
 | .inl p=>e= .normal∧Rel E (Γj p) f H
 | .inr r=>e≠ .normal∧ ∃e' f' H',It tb ks (e,f,H)=some (e',f',H')∧Q E r e' f' H'
def Hp{c:AC}{τ:Type}(Γj:τ→Cx)(k:(p:τ)→Aa tb (Γj p) (rg false []) ks Q)(main:Aa tb Γ c [] (QJ tb Γj ks Q)):Aa tb Γ c ks Q:=
 ⟨main.m.bind (Sum.elim (fun p=>(k p).m) some),fun E f H R r hr=>by
  obtain⟨b,hb,hr⟩:=Option.bind_eq_some_iff.1 hr
  obtain⟨e,f1,H1,h1,h2⟩:=main.ok E f H R b hb
  have h1':Bh tb (C5 tb) c f H=some (e,f1,H1):=by
   obtain⟨p,hp,h⟩:=Option.bind_eq_some_iff.1 h1
   rw[hp,←h];rfl
  rw[h1']
  cases b with
  |inr r'=>
   simp only[Sum.elim_inr,Option.some.injEq]at hr
   subst hr
   exact h2.2
  |inl p=>
   obtain⟨rfl,R'⟩:=h2
   simp only[Sum.elim_inl]at hr
   obtain⟨e2,f2,H2,h4,h5⟩:=(k p).ok E f1 H1 R' r hr
   exact⟨e2,f2,H2,by simpa [DL]using h4,h5⟩⟩
def Gb{q:Bool}{τ:Type}{Γj:τ→Cx}(p:τ)(h:Sub (Γj p) Γ):Aa tb Γ (rg q []) [] (QJ tb Γj ks Q):=
 ⟨some (.inl p),fun E f H ⟨rv,fp,I⟩ r hr=>by
  cases hr
  exact⟨.normal,f,H,by simp[DL,It],rfl,rv,fp,I.sub h⟩⟩
def xU{τ:Type}{Γj:τ→Cx}{ks':List Kf}(s:Aa tb Γ .ret ks Q):Aa tb Γ .ret ks' (QJ tb Γj ks Q):=
 SJ ⟨s.m.map fun r=> .inr r,fun E f H R r hr=>by
  obtain⟨r',h1,rfl⟩:=Option.map_eq_some_iff.1 hr
  obtain⟨e,f',H',h2,h3⟩:=s.ok E f H R r' h1
  refine⟨.ret,f,H,by simp[Bh,It],by simp,e,f',H',?_,h3⟩
  simpa [Bh]using h2⟩
def Aj{q:Bool}{d:Nat}{o:H6}{l:List Bm}{β:Type}{a:β}{φ:β→AK}(h:EY tb Γ o (some a) φ)(k:(b:β)→Aa tb (Γ.push d (φ b)) (rg q l) ks Q):Aa tb Γ (rg q (⟨some d,none,o⟩::l)) ks Q:=
 ⟨(k a).m,(Aa.op h k).ok⟩
def AX{q:Bool}{d t:Nat}{o:H6}{l:List Bm}{β:Type}{a:β}{φ:β→AK}(h:EY tb Γ o (some a) φ)(k:(b:β)→Be tb (Γ.push d (φ b)) q l t):Be tb Γ q (⟨some d,none,o⟩::l) t:=
 ⟨(k a).m,(Be.op h k).ok⟩
def Ai{d:Option Nat}{o:H6}{l:List Bm}{β:Type}{a:β}{Γ':β→Cx}(h:X3 tb Γ d o (some a) Γ')(k:(b:β)→Aa tb (Γ' b) (rg false l) ks Q):Aa tb Γ (rg false (⟨d,none,o⟩::l)) ks Q:=
 ⟨(k a).m,(BJ h k).ok⟩
variable{w:List (Option (Nat×Nat))}{N k:Nat}{B:List Ob}{C C':List Cb}{o:H6}{l:List Bm}{y:Nat×Nat}
def CN{d:Nat}{β:Type}{a:β}{φ:β→AK}(hq:iI N k B C y (some d) o=true)(h:EY tb Γ o (some a) φ)(s:(b:β)→A4 tb (Γ.push d (φ b)) N k B C l w ks Q):A4 tb Γ N k B C (⟨some d,none,o⟩::l) (some y::w) ks Q:=
 ⟨(s a).m,(A4.op hq h s).ok⟩
def TL{d:Option Nat}{β:Type}{a:β}{Γ':β→Cx}(hq:sC B C' d=true)(hb: ∀b,Y9 tb (Γ' b) B)(hc:Mh Γ k C C')(h:X3 tb Γ d o (some a) Γ')(s:(b:β)→A4 tb (Γ' b) N (k+1) (mI B) C' l w ks Q):A4 tb Γ N k B C (⟨d,none,o⟩::l) (none::w) ks Q:=
 ⟨(s a).m,(Da hq hb hc h s).ok⟩
end
end Go.Proofs.YtobejhpigbllpaaGreatDoor.Am
namespace Go.Proofs.YtobejhpigbllpaaGreatDoor.Am
def YV(tB te:Nat):List AV→Ay→Option (AV×Option Ay)
 |[.ptr id off, .i .i64 n],h=>match h[id]? with
  |some (.cells (some t) [a, .nils])=>if off=0∧t=tB∧0≤n∧n≤Di then some (.tup [],some (h.set id (.cells (some t) [a, .orow h.length 0 0 0])++[.row (some te) false 1 []]))else none
  |_=>none
 |_,_=>none
def jC(P:Program)(g te:Nat):Prop:= ∀(b n:Nat) (w:World),w.cell? ⟨b,1,none⟩=some (.slice none 0 0)→b<w.heap.size→w.frozen? ⟨b,1,none⟩=false→n≤281474976710656→
 ∃cs:Array Value,n≤cs.size∧Calls P g #[.pointer (some ⟨b,0,none⟩), .int .i64 n] w fun e w'=>e= .returned (.tuple #[])∧w'=((w.setCell ⟨b,1,none⟩ (.slice (some ⟨w.heap.size,0,none⟩) 0 cs.size)).alloc (.cells cs te)).drew.drew.drew
def hY(P:Program)(g:Nat):Bool:=match P.funcs[g]? with
 |some fn=>fn.body.isSome&& !(fn.name== "runtime.NumGoroutine")
 |none=>false
section
variable{P:Program}{tb:Dh}
theorem Mc{g:Nat}(h:hY P g=true)(vs:Array Value)(w:World):(callFunc g vs).run P w= .ok (.enter g vs) w:=by
 unfold hY at h
 split at h
 ·rename_i fn hf
  simp only[Bool.and_eq_true,Bool.not_eq_true']at h
  obtain⟨h1,h2⟩:=h
  obtain⟨c,hc⟩:=Option.isSome_iff_exists.1 h1
  have h2': ¬fn.name= "runtime.NumGoroutine" :=by simpa using h2
  simp[callFunc,hf,hc,h2']
 ·cases h
theorem qH{tB te g:Nat}(hen:hY P g=true)(hg:jC P g te):Fw P tb fun g' args h=>if g'=g then YV tB te args h else none:=by
 intro g' C args vs r I hr h
 dsimp only at h
 split at h
 ·rename_i hgg
  subst hgg
  unfold YV at h
  split at h
  ·rename_i hp id off n
   split at h
   ·rename_i t x hid
    split at h
    ·rename_i hc
     obtain⟨rfl,rfl,h0,hm⟩:=hc
     cases h
     obtain⟨v,vs',e1,r1,v2,vs2,e2,r2,e3⟩:=hr
     have e3':vs2=[]:=e3
     have r2':v2= .int .i64 n:=r2
     subst e3';subst e2;subst e1;subst r2'
     obtain⟨_,rfl⟩:=r1
     obtain⟨us,arr,e,fr,⟨h1,hb⟩,h2,h3,h4,h5,h6⟩:=I.obj id _ hid
     obtain⟨ux,us1,eu1,rx,uy,us2,eu2,ry,eu3⟩:=h4
     have eu3':us2=[]:=eu3
     have ry':uy= .slice none 0 0:=ry
     subst eu3';subst eu2;subst eu1;subst ry'
     have hlt:(C.φ id).blk<C.w.heap.size:=I.lt id (Bj hid)
     have hidl:=Bj hid
     have c1:C.w.cell? ⟨(C.φ id).blk,1,none⟩=some (.slice none 0 0):=by
      have:=h5 1 (.slice none 0 0) rfl
      simpa using this
     have hnn:((n.toNat:Nat):Int)=n:=Int.toNat_of_nonneg h0
     have hmm:n.toNat≤281474976710656:=by unfold Di at hm;omega
     obtain⟨cs,hcs,hcall⟩:=hg (C.φ id).blk n.toNat C.w c1 hlt (h6 1 (by simp)) hmm
     rw[hnn]at hcall
     refine .inr ⟨g',_,Mc hen _ _,hcall.mono ?_⟩
     rintro ee w' ⟨rfl,hw'⟩
     have hszA:C.w.heap.size<(C.w.alloc (.cells cs te)).heap.size:=by rw[HR];omega
     obtain⟨XA,hIA,hφA⟩:=more I (p:=⟨C.w.heap.size,0,cs.size⟩) (o:=C6.row (some te) false 1 []) (w:=C.w.alloc (.cells cs te)) ⟨rfl,rfl,rfl⟩ hszA rfl (fun b hb=>alloc_old _ _ hb)
     have hfA: ∀o,(C.w.alloc (.cells cs te)).frozen? ⟨C.w.heap.size,o,none⟩=false:=fun o=>by simp only[World.frozen?,Jc];simp
     have IA:=hIA ⟨[],cs,te,(0,0),⟨Jc _ _,Nat.le_refl _,fun k hk=>by cases hk;rfl⟩,rfl,by omega,by simp,rfl,by simp,fun j v hj=>by simp at hj,fun _ o _=>hfA o,fun _ o _ _=>hfA o⟩
     have hφid:(C.more ⟨C.w.heap.size,0,cs.size⟩ (C6.row (some te) false 1 []) (C.w.alloc (.cells cs te))).φ id=C.φ id:=if_neg (by omega)
     have hgA:(C.more ⟨C.w.heap.size,0,cs.size⟩ (C6.row (some te) false 1 []) (C.w.alloc (.cells cs te))).H[id]? =some (.cells (some t) [x, .nils]):=(List.getElem?_append_left hidl).trans hid
     have hws:w'.heap.size=C.w.heap.size+1:=by rw[hw'];simp
     have hwn:w'.heap[C.w.heap.size]? =some (.cells cs te):=by
      rw[hw']
      have:(C.w.setCell ⟨(C.φ id).blk,1,none⟩ (.slice (some ⟨C.w.heap.size,0,none⟩) 0 cs.size)).heap.size=C.w.heap.size:=by simp
      have hq:=Jc (C.w.setCell ⟨(C.φ id).blk,1,none⟩ (.slice (some ⟨C.w.heap.size,0,none⟩) 0 cs.size)) (.cells cs te)
      rw[this]at hq
      exact hq
     have hwo: ∀b,b<C.w.heap.size→w'.heap[b]? =(C.w.setCell ⟨(C.φ id).blk,1,none⟩ (.slice (some ⟨C.w.heap.size,0,none⟩) 0 cs.size)).heap[b]? :=fun b hb=>by
      rw[hw']
      exact alloc_old _ _ (by simpa using hb)
     have hwid:w'.heap[(C.φ id).blk]? =some (.cells (arr.setIfInBounds 1 (.slice (some ⟨C.w.heap.size,0,none⟩) 0 cs.size)) e fr):=by
      rw[hwo _ hlt];exact Sl h1
     let D0:=C.more ⟨C.w.heap.size,0,cs.size⟩ (C6.row (some te) false 1 []) (C.w.alloc (.cells cs te))
     obtain⟨X,hI⟩:=yJ (C:=D0) (D:=⟨D0.φ,D0.H.set id (.cells (some t) [x, .orow C.H.length 0 0 0]),w'⟩) IA (o':= .cells (some t) [x, .orow C.H.length 0 0 0]) (by rw[hw'];exact⟨rfl,rfl,rfl⟩) hgA rfl (fun _ _=>rfl)
      (by show(C.w.alloc (.cells cs te)).heap.size≤w'.heap.size;rw[HR,hws];exact Nat.le_refl _)
      (fun b hb hne=>by
       have hb':b<C.w.heap.size+1:=by have:b<(C.w.alloc (.cells cs te)).heap.size:=hb;rw[HR]at this;exact this
       show w'.heap[b]? =(C.w.alloc (.cells cs te)).heap[b]?
       by_cases hbe:b=C.w.heap.size
       ·subst hbe;rw[hwn,Jc]
       ·have hbl:b<C.w.heap.size:=by omega
        have hne':b≠(C.φ id).blk:=fun e=>hne (by rw[e];exact congrArg Place.blk hφid.symm)
        rw[hwo b hbl,alloc_old _ _ hbl,heap_setCell_other hne'])
      (.inl rfl) (fun _=>⟨rfl,rfl⟩) (fun _ _ _ _ e=>by cases e)
     have hrow:rowAt (D0.H.set id (.cells (some t) [x, .orow C.H.length 0 0 0])) C.H.length=some (false,1,[]):=by
      have:(D0.H.set id (C6.cells (some t) [x, .orow C.H.length 0 0 0]))[C.H.length]? =some (C6.row (some te) false 1 []):=by
       rw[List.getElem?_set_ne (by omega)]
       show(C.H++[_])[C.H.length]? =_
       simp
      simp only[rowAt,this]
     have hI2:=hI (by
      show Obj _ (D0.φ id) _
      rw[hφid]
      refine⟨[ux, .slice (some ⟨C.w.heap.size,0,none⟩) 0 cs.size],_,e,fr,⟨hwid,hb⟩,by simpa using h2,by simp only[List.all_cons,List.all_nil,Bool.and_true,Bool.and_eq_true]at h3 ⊢;exact⟨h3.1,rfl⟩,⟨ux,_,rfl,HA.ext (XA.trans X) rx,_,_,rfl,?_,rfl⟩,?_,?_⟩
      ·refine⟨⟨_,_,rfl⟩,false,1,[],hrow,Nat.le_refl _,fun _=>⟨Nat.le_refl _,0,cs.size,?_,Nat.zero_le _,fun h=>absurd h (by omega),?_,?_⟩⟩
       ·show _=Value.slice (some ⟨(D0.φ C.H.length).blk,0,none⟩) 0 cs.size
        rw[show D0.φ C.H.length=_ from hφA]
       ·show 0+cs.size*1≤(D0.φ C.H.length).size
        rw[show D0.φ C.H.length=_ from hφA];simp
       ·show(D0.φ C.H.length).base≤0
        rw[show D0.φ C.H.length=_ from hφA];exact Nat.le_refl _
      ·intro j v hj
       simp only[World.cell?,hwid,Nat.zero_add]
       match j,hj with
       |0,hj=>
        have:=h5 0 ux rfl
        simp only[World.cell?,h1]at this
        simp only[List.getElem?_cons_zero,Option.some.injEq]at hj
        subst hj
        simpa using this
       |1,hj=>
        simp only[List.getElem?_cons_succ,List.getElem?_cons_zero,Option.some.injEq]at hj
        subst hj
        have h2':arr.size=2:=by simpa using h2
        simp[h2']
       |j+2,hj=>simp at hj
      ·intro o ho
       have:=h6 o (by simpa using ho)
       simp only[World.frozen?,h1]at this
       simp only[World.frozen?,hwid]
       exact this)
     refine⟨_,_,rfl,XA.trans X,hI2,rfl,?_,⟨[],rfl,rfl⟩⟩
     show(C.H++[C6.row (some te) false 1 []]).set id _=(C.H.set id _++[_])
     rw[List.set_append_left _ _ hidl]
    ·cases h
   ·cases h
  ·cases h
 ·cases h
end
end Go.Proofs.YtobejhpigbllpaaGreatDoor.Am
namespace Go.Proofs.YtobejhpigbllpaaGreatDoor.Am
def Rr(tS ncc ngr:Nat):D9:=⟨false,2,25,[],
 (.seq (rg false [⟨some 4,none, .mv (.t 0)⟩,⟨some 5,none, .call ncc [(.t 4)]⟩])
 (.seq (.seq (rg false [⟨some 6,none, .mv (.t 1)⟩,⟨some 7,none, .bin .lss (.t 6) (.k (.i .i64 0))⟩])
 (.cond (.t 7)
  (rg false [⟨some 8,none, .mkif tS (.k (.s [115,116,114,105,110,103,115,46,66,117,105,108,100,101,114,46,71,114,111,119,58,32,110,101,103,97,116,105,118,101,32,99,111,117,110,116]))⟩,⟨none,none, .die⟩])
  .skip))
 (.seq (rg true [⟨some 9,none, .mv (.t 0)⟩,⟨some 10,none, .nilc (.t 9)⟩,⟨some 11,none, .fa 1 (.t 10)⟩,⟨some 12,none, .ld false 1 (.t 11)⟩,⟨some 13,none, .capn (.t 12)⟩,⟨some 14,none, .mv (.t 0)⟩,⟨some 15,none, .nilc (.t 14)⟩,⟨some 16,none, .fa 1 (.t 15)⟩,⟨some 17,none, .ld false 1 (.t 16)⟩,⟨some 18,none, .len (.t 17)⟩,⟨some 19,none, .bin .sub (.t 13) (.t 18)⟩,⟨some 20,none, .mv (.t 1)⟩,⟨some 21,none, .bin .lss (.t 19) (.t 20)⟩])
 (.cond (.t 21)
  (rg false [⟨some 22,none, .mv (.t 0)⟩,⟨some 23,none, .mv (.t 1)⟩,⟨some 24,none, .call ngr [(.t 22),(.t 23)]⟩])
  .skip))))⟩
section
variable{tb:Dh}{tB te tS ncc nne ngw ngr:Nat}{h:Ay}{id:Nat}{a b:AV}
theorem pI{cl:Nat→List AV→Ay→Lk}{d:Option Nat}{o:H6}{l:List Bm}{f:Fr}{v:AV}{r:Option Fr}(e:B6 tb cl (eval tb f) h o=some (v,none))(k:Iw tb cl h l (put f d v)=r):Iw tb cl h (⟨d,none,o⟩::l) f=r:=by
 simp[Iw,wanted,e,k]
theorem tL{l:List Bm}{y:AC}{f f':Fr}(e:Iw tb (C5 tb) h l f=some f'):Bh tb (C5 tb) (.seq (rg true l) y) f h=Bh tb (C5 tb) y f' h:=by
 simp[Bh,rg,e]
theorem dQ{c:AO}{x y:AC}{f:Fr}{b:Bool}(e:eval tb f c= .b b):Bh tb (C5 tb) (.cond c x y) f h=if b then Bh tb (C5 tb) x f h else Bh tb (C5 tb) y f h:=by
 simp[Bh,e]
theorem wF{n:Int}{h1 G:Ay}(h0:0≤n)(hc:B8 tb (C5 tb) h ncc [.ptr id 0]=some (.tup [],some h1))(hld:load h1 false 1 (.ptr id 1)=some .nils)(hg:if 0<n then B8 tb (C5 tb) h1 ngr [.ptr id 0, .i .i64 n]=some (.tup [],some G)else G=h1):
  ∃f',Bh tb (C5 tb) (Rr tS ncc ngr).body [(0, .ptr id 0),(1, .i .i64 n)] h=some (.normal,f',G):=by
 have hn0:decide (n<0)=false:=by simp;omega
 have key: ∃F,Bh tb (C5 tb) (Rr tS ncc ngr).body [(0, .ptr id 0),(1, .i .i64 n)] h=Bh tb (C5 tb) (.cond (.t 21)
  (rg false [⟨some 22,none, .mv (.t 0)⟩,⟨some 23,none, .mv (.t 1)⟩,⟨some 24,none, .call ngr [(.t 22),(.t 23)]⟩])
  .skip) F h1∧get F 21= .b (decide (0<n))∧get F 0= .ptr id 0∧get F 1= .i .i64 n:=by
  apply Exists.intro
  refine⟨?_,?_⟩
  ·unfold Rr
   simp only
   refine(Ji (Nk (v:= .ptr id 0) (u:=none) rfl (Nk (v:= .tup []) (u:=some h1) (Vt (by exact hc)) rfl))).trans ?_
   refine(nQ ((Ji (Nk (v:= .i .i64 n) (u:=none) rfl (Nk (v:= .b false) (u:=none) (by rw[←hn0];rfl) rfl))).trans ((dQ (b:=false) rfl).trans rfl))).trans ?_
   exact(tL (pI (v:= .ptr id 0) rfl (pI (v:= .ptr id 0) rfl (pI (v:= .ptr id 1) rfl (pI (v:= .nils) (Zy (by exact hld)) (pI (v:= .i .i64 0) rfl (pI (v:= .ptr id 0) rfl (pI (v:= .ptr id 0) rfl (pI (v:= .ptr id 1) rfl (pI (v:= .nils) (Zy (by exact hld)) (pI (v:= .i .i64 0) rfl (pI (v:= .i .i64 0) rfl (pI (v:= .i .i64 n) rfl (pI (v:= .b (decide (0<n))) rfl rfl))))))))))))))
  ·exact⟨rfl,rfl,rfl⟩
 obtain⟨F,e,f21,f0,f1⟩:=key
 rw[e,dQ (b:=decide (0<n)) (by simpa [eval]using f21)]
 by_cases hp:0<n
 ·rw[if_pos hp]at hg
  rw[if_pos (by simpa using hp)]
  simp only[Bh,rg,Bool.false_eq_true,if_false]
  rw[Nk (v:= .ptr id 0) (u:=none) (by simp[B6,eval,f0]) (Nk (v:= .i .i64 n) (u:=none) (by simp[B6,eval,get,put,f1]) (Nk (v:= .tup []) (u:=some G) (Vt (by exact hg)) rfl))]
  exact⟨_,rfl⟩
 ·rw[if_neg hp]at hg
  rw[if_neg (by simpa using hp),hg]
  exact⟨_,rfl⟩
theorem AaH(hf:tb.prim ngw=none∧tb.fns ngw=some (Rr tS ncc ngr))(hcc:tb.prim ncc=none∧tb.fns ncc=some (MZ tB nne))(hne:tb.prim nne=some OF)(hgr:tb.prim ngr=some (YV tB te))(hh:h[id]? =some (.cells (some tB) [a, .nils]))(ha:a= .nilp∨a= .ptr id 0)
  {n:Int} (h0:0≤n) (hm:n≤Di):
  B8 tb (C5 tb) h ngw [.ptr id 0, .i .i64 n]=some (.tup [],some (if 0<n then h.set id (.cells (some tB) [.ptr id 0, .orow h.length 0 0 0])++[.row (some te) false 1 []]else h.set id (.cells (some tB) [.ptr id 0, .nils]))):=by
 have hc:=Vs hcc hne hh ha
 have hid:=(List.getElem?_eq_some_iff.1 hh).1
 have hs:(h.set id (C6.cells (some tB) [.ptr id 0, .nils]))[id]? =some (.cells (some tB) [.ptr id 0, .nils]):=List.getElem?_set_self hid
 have h2:=GO hs
 simp only[B8,hf.1]
 rw[PE,hf.2]
 simp only[Option.bind_some]
 have hld:load (h.set id (C6.cells (some tB) [.ptr id 0, .nils])) false 1 (.ptr id 1)=some .nils:=by simp[load,place,h2.1,Im,sub]
 by_cases hp:0<n
 ·have hgc:B8 tb (C5 tb) (h.set id (.cells (some tB) [.ptr id 0, .nils])) ngr [.ptr id 0, .i .i64 n]=some (.tup [],some (h.set id (.cells (some tB) [.ptr id 0, .orow h.length 0 0 0])++[.row (some te) false 1 []])):=by
   simp only[B8,hgr,YV,hs]
   simp[h0,hm,List.set_set]
  obtain⟨f',e1⟩:=wF (tb:=tb) (tS:=tS) (ncc:=ncc) (ngr:=ngr) h0 hc hld (by rw[if_pos hp];exact hgc)
  rw[O4 (tb:=tb) (h:=h) (fn:=Rr tS ncc ngr) (args:=[.ptr id 0, .i .i64 n]) (vs:=[]) rfl rfl e1 (.inr rfl) rfl,if_pos hp]
  exact congrArg some (Th h.length _ (Zx (te:=te) (tB:=tB) (s:=[]) hid rfl) [] rfl false)
 ·obtain⟨f',e1⟩:=wF (tb:=tb) (tS:=tS) (ncc:=ncc) (ngr:=ngr) h0 hc hld (by rw[if_neg hp])
  rw[O4 (tb:=tb) (h:=h) (fn:=Rr tS ncc ngr) (args:=[.ptr id 0, .i .i64 n]) (vs:=[]) rfl rfl e1 (.inr rfl) rfl,if_neg hp]
  obtain⟨u,hu,rfl⟩:=LT false h.length (h.set id (.cells (some tB) [.ptr id 0, .nils])) (by simp) [] rfl
  exact congrArg some hu
variable{Γ:Cx}{x y:AO}
def fW(l:AH)(n:Int):Option AH:=if l=[]∧0≤n∧n≤Di then some []else none
theorem M_bldR{d j:Nat}{l:AH}{n:Int}(hcc:tb.prim ncc=none∧tb.fns ncc=some (MZ tB nne))(hne:tb.prim nne=some OF)(hf:tb.prim ngw=none∧tb.fns ngw=some (Rr tS ncc ngr))(hgr:tb.prim ngr=some (YV tB te))
  (ha:Cq tb Γ x (.own j)) (hj:AG Γ.ss j=some (.dom (PO tB te false) l)) (hb:Cq tb Γ y (.val (T.int .i64) n)):
  X3 tb Γ (some d) (.call ngw [x,y]) (fW l n) fun _=>⟨(d, .junk)::Γ.ts,(j, .dom (PO tB te (decide (0<n))) ([]:AH))::Γ.ss⟩:=by
 intro E rv fp f H R l' hl'
 simp only[fW]at hl'
 split at hl'
 ·rename_i hm
  cases hl'
  obtain⟨rfl,h0,hm⟩:=hm
  obtain⟨hl,hv⟩:=ha E rv fp f H R
  obtain⟨id,e,⟨_,_,a,hx,hh,hF⟩|⟨hg,r,hne',hh,hr,hF⟩⟩:=R.slots j _ hj
  ·have hid:=Bj hh
   have hev:=AaH (te:=te) hf hcc hne hgr hh hx h0 hm
   by_cases hp:0<n
   ·rw[if_pos hp]at hev
    obtain⟨rv',fp',g1,g2,g3⟩:=R.dom (D:=PO tB te (decide (0<n))) (y:=([]:AH)) (G:=H.set id (.cells (some tB) [.ptr id 0, .orow H.length 0 0 0])++[.row (some te) false 1 []]) (F':=fun i=>i=id∨i=H.length) (by rw[hj];rfl) hl (by simp)
     (fun i hi hn=>by rw[List.getElem?_append_left (by simpa using hi)];exact List.getElem?_set_ne fun e=>hn ((hF i).2 e.symm))
     (fun i hi=>by
      rcases hi with rfl|rfl
      ·exact .inl ((hF _).2 rfl)
      ·exact .inr ⟨Nat.le_refl _,by simp⟩)
     (by
      rw[Qd]
      have:=HV (l:=H) (i:=id) (o:= .cells (some tB) [.ptr id 0, .orow H.length 0 0 0]) (m:=H.length+1) (by have:=R.wf;omega) (by simp only[ED,Bx,BR];omega)
      simp only[Ds,ED,Dt,List.length_append,List.length_set,List.length_cons,List.length_nil]
      omega) rfl
     (fun Q=>⟨id,e, .inr ⟨.inl (by simpa using hp),H.length,by omega,by
      rw[List.getElem?_append_left (by simpa using hid)]
      exact List.getElem?_set_self hid,by
      rw[List.getElem?_append_right (by simp)];simp[BI],fun i=>Iff.rfl⟩⟩)
    refine⟨.tup [],some _,?_,rv',fp',g3.push (d:=d) (φ:= .junk) trivial⟩
    simp only[B6,List.map_cons,List.map_nil,hv,e,BY.1 (hb E rv fp f H R)]
    exact hev
   ·rw[if_neg hp]at hev
    obtain⟨rv',fp',g1,g2,g3⟩:=R.dom (D:=PO tB te (decide (0<n))) (y:=([]:AH)) (G:=H.set id (.cells (some tB) [.ptr id 0, .nils])) (F':=fp j) (by rw[hj];rfl) hl (by simp)
     (fun i hi hn=>List.getElem?_set_ne fun e=>hn ((hF i).2 e.symm)) (fun i hi=> .inl hi)
     (by simp only[List.length_set];exact HV R.wf (by simp only[ED,Bx,BR];omega)) rfl
     (fun Q=>⟨id,e, .inl ⟨by simpa using hp,rfl,_, .inr rfl,List.getElem?_set_self hid,hF⟩⟩)
    refine⟨.tup [],some _,?_,rv',fp',g3.push (d:=d) (φ:= .junk) trivial⟩
    simp only[B6,List.map_cons,List.map_nil,hv,e,BY.1 (hb E rv fp f H R)]
    exact hev
  ·rcases hg with hg|hg
   ·cases hg
   ·exact absurd rfl hg
 ·cases hl'
end
end Go.Proofs.YtobejhpigbllpaaGreatDoor.Am
namespace Go.Proofs.YtobejhpigbllpaaGreatDoor.Am
section
variable{tb:Dh}{Γ:Cx}
variable{ks:List Kf}{ρ:Type}{Q:Nh ρ}
def HF(n:Int):UInt8:=UInt8.ofNat (n%256).toNat
def CV(n:Int):UInt16:=UInt16.ofNat (n%65536).toNat
def Dz(n:Int):UInt32:=UInt32.ofNat (n%4294967296).toNat
def CI(n:Int):UInt64:=UInt64.ofNat (n%18446744073709551616).toNat
end
end Go.Proofs.YtobejhpigbllpaaGreatDoor.Am
namespace Go.Proofs.YtobejhpigbllpaaGreatDoor.Am
section
variable{tb:Dh}{Γ:Cx}{a b:AO}
theorem Zr{sz:Nat}: ∀(k:Nat) (css:List (List AV)) (cs:List AV),css.length=k→(∀e∈css,e.length=sz)→cs.take (k*sz)=css.flatten→BO sz k cs=css
 |0,css,cs,h,_,_=>by rw[List.eq_nil_of_length_eq_zero h];rfl
 |k+1,y::css,cs,hk,hall,hc=>by
  have hy:=hall y (by simp)
  simp only[BO]
  simp only[List.flatten_cons]at hc
  have hA:cs.take sz=y:=by
   have:=congrArg (List.take sz) hc
   rw[List.take_take,Nat.min_eq_left (by rw[Nat.succ_mul];omega),List.take_left' hy]at this
   exact this
  have hB:(cs.drop sz).take (k*sz)=css.flatten:=by
   have:=congrArg (List.drop sz) hc
   rw[List.drop_left' hy,List.drop_take,Nat.succ_mul,Nat.add_sub_cancel]at this
   exact this
  rw[hA,Zr k css (cs.drop sz) (by simpa using hk) (fun e he=>hall e (by simp[he])) hB]
theorem vD{t u:T}{x:t.α}{j o o' k m n N sz:Nat}{ps:List (Nat×AK)}(F:AM t (T.arr n u) o')(hsz:sz=u.sz)(ha:Cq tb Γ a (.oc j (o+k*sz) sz m))(hj:AG Γ.ss j=some (.cells ps))(hp:KM ps o=some (N, .val t x,o'))(hkm:k+m≤n)
  {E:PN} {rv:Nat→AV} {fp:Fp} {f:Fr} {H:Ay} (R:B1 E Γ rv fp f H):
  ∃id els,id<H.length∧fp j id∧eval tb f a= .ocel u.sz id (o+k*u.sz) m∧ER H u.sz (.ocel u.sz id (o+k*u.sz) m)=some els∧CT u (Pf E Γ.ss fp H) H els (((F.get x).l.drop k).take m):=by
 subst hsz
 obtain⟨l,id,e,hv⟩:=ha E rv fp f H R
 obtain⟨cs,h0,h2,h3⟩:=Hb R hj e
 obtain⟨b',c,e0,e1,e2,e3,e4,e5,_⟩:=GL h3 hp
 have hfp:fp j id:=(h0 id).2 rfl
 have hlt:=(R.fplt j id l hfp).1
 have hlen:=t.len e4
 have hle:=F.le
 have hszA:(T.arr n u).sz=n*u.sz:=rfl
 rw[hszA]at hle
 have hmul:k*u.sz+m*u.sz≤n*u.sz:=by rw[←Nat.add_mul];exact Nat.mul_le_mul_right _ hkm
 obtain⟨css,q1,q2⟩:=F.getR e4
 have hlc:css.length=n:=by rw[q2.length];exact(F.get x).len
 have hs1:=e5 o' (n*u.sz) (by omega)
 rw[←e1]at hs1
 have hch:BO u.sz n (cs.drop o)=css:=Zr n css (cs.drop o) hlc q2.lens (by rw[show(cs.drop o).take (n*u.sz)=sub cs o (n*u.sz)from rfl,hs1,←q1];rfl)
 have hsub:=Md (sz:=u.sz) (len:=n) (c:=k) (d:=k+m) (l:=cs.drop o) (by omega) hkm
 refine⟨id,(css.take (k+m)).drop k,hlt,hfp,hv,?_,?_⟩
 ·simp only[ER,h2,Option.bind_some]
  rw[if_pos ⟨trivial,by omega⟩]
  rw[←hch,hsub,List.drop_drop,Nat.add_sub_cancel_left]
 ·have:=(q2.take (n:=k+m)).drop (n:=k)
  simp only[List.drop_take,Nat.add_sub_cancel_left]at this ⊢
  exact this
theorem a_s{t u:T}{x:t.α}{j o o' k m n N sz:Nat}{ps:List (Nat×AK)}(F:AM t (T.arr n u) o')(hsz:sz=u.sz)(ha:Cq tb Γ a (.oc j (o+k*sz) sz m))(hj:AG Γ.ss j=some (.cells ps))(hp:KM ps o=some (N, .val t x,o'))(hkm:k+m≤n):
  ArgP tb Γ a (T.sl u) (.mk (((F.get x).l.drop k).take m)):=by
 intro E rv fp f H R
 obtain⟨id,els,h1,_,h3,h4,h5⟩:=vD F hsz ha hj hp hkm R
 rw[h3]
 exact IP.2 ⟨h1,els,h4,h5.mono fun i hi=>⟨Pf.lt R.le hi,rfl⟩⟩
theorem fT{c:Prop} [Decidable c]{g:Nat}{As Rs:List T}{F:CG As→Option (CG Rs)}{l:List AO}{x:CG As}(sp:Spec tb g As Rs F)(fl:U2 Rs)(hx:c→cQ tb Γ As l x):EY tb Γ (.call g l) (if c then F x else none) fun r=>tY Rs r:=by
 intro E rv fp f H R r hr
 split at hr
 ·rename_i hc;exact AaG sp fl (hx hc) E rv fp f H R r hr
 ·cases hr
theorem Ny{c:Prop} [Decidable c]{g:Nat}{As:List T}{t:T}{F:CG As→Option (CG [t])}{l:List AO}{x:CG As}(sp:Spec tb g As [t] F)(fl:U2 [t])(hx:c→cQ tb Γ As l x):EY tb Γ (.call g l) (if c then F x else none) fun r:t.α=> .val t r:=fT sp fl hx
theorem rO{c:Prop} [Decidable c]{g:Nat}{As:List T}{t u:T}{Rs:List T}{F:CG As→Option (CG (t::u::Rs))}{l:List AO}{x:CG As}(sp:Spec tb g As (t::u::Rs) F)(fl:U2 (t::u::Rs))(hx:c→cQ tb Γ As l x):
  EY tb Γ (.call g l) (if c then F x else none) fun r=> .tup (sR (t::u::Rs) r):=fT sp fl hx
theorem n_oc{t u:T}{x:t.α}{j o o' k m n N sz:Nat}{ps:List (Nat×AK)}(F:AM t (T.arr n u) o')(hsz:sz=u.sz)(ha:Cq tb Γ a (.oc j (o+k*sz) sz m))(hj:AG Γ.ss j=some (.cells ps))(hp:KM ps o=some (N, .val t x,o'))(hkm:k+m≤n):
  xX tb Γ a u (((F.get x).l.drop k).take m):=by
 intro E rv fp f H R
 obtain⟨id,els,h1,_,h3,h4,h5⟩:=vD F hsz ha hj hp hkm R
 exact⟨els,by rw[h3];exact h4,h5⟩
theorem M_if{c:Prop} [Decidable c]{d:Option Nat}{o:H6}{α:Type}{A:Option α}{G:α→Cx}(h:c→X3 tb Γ d o A G):X3 tb Γ d o (if c then A else none) G:=by
 intro E rv fp f H R r hr
 split at hr
 ·rename_i hc;exact h hc E rv fp f H R r hr
 ·cases hr
def YC{α:Type}(n:Nat)(g:GS α):Option (Ar α n):=if h:0<n∧n≤g.l.length then some ⟨g.l.take n,by rw[List.length_take];omega⟩else none
theorem Qs.arr{n:Nat}{t:T}{P:Nat→Prop}{H:Ay}{v:AV}{g:GS t.α}{y:Ar t.α n}(h:Qs t P H v g)(hy:YC n g=some y): ∃p,U0 n t.sz v=some p∧jI (T.arr n t) P H p y:=by
 simp only[YC]at hy
 split at hy
 ·rename_i hc
  cases hy
  cases g with
  |nil=>simp[GS.l]at hc;omega
  |mk l=>
   obtain⟨bp,els,e,h⟩:=h
   simp only[GS.l]at hc
   have hlen:=h.length
   have htk:=h.take (n:=n)
   have hszA:(T.arr n t).sz=n*t.sz:=rfl
   have hR: ∀G:List AV,G.take (n*t.sz)=(els.take n).flatten→(T.arr n t).R P H (sub G 0 (T.arr n t).sz) ⟨l.take n,by rw[List.length_take];omega⟩:=fun G hG=>⟨els.take n,by rw[hszA,←hG];simp[sub],htk⟩
   have hfl:(els.take n).flatten.length=n*t.sz:=by rw[T0 htk.lens,List.length_take,Nat.min_eq_left (by omega)]
   cases v<;>simp only[Ll]at bp<;>simp only[ER]at e
   ·split at e
    ·rename_i hs
     cases e
     subst hs
     refine⟨.ip (els.take n).flatten 0,by simp only[U0];rw[if_pos ⟨trivial,by omega⟩],trivial,_,0,rfl,by rw[hszA,hfl];omega,hR _ (by rw[List.take_of_length_le (by omega)]),fun m hm=> ?_⟩
     simp only[BR]
     have:=(T.arr n t).men (x:=⟨l.take n,by rw[List.length_take];omega⟩) ⟨els.take n,rfl,htk⟩ hm
     exact this
    ·cases e
   ·rename_i id k lo len
    obtain⟨r,hr,e⟩:=Option.bind_eq_some_iff.1 e
    split at e
    ·rename_i hcd
     cases e
     have hll:len=l.length:=by rw[←hlen,List.length_take,List.length_drop];omega
     have hsplit:(r.2.2.drop lo).flatten=(((r.2.2.drop lo).take len).take n).flatten++((r.2.2.drop lo).drop n).flatten:=by
      rw[List.take_take,Nat.min_eq_left (by omega),←List.flatten_append,List.take_append_drop]
     refine⟨.pe id k lo 0,by simp only[U0];rw[if_pos ⟨by omega,hc.1⟩],bp,_,0,by simp only[place,hr,Option.bind_some,if_pos hcd.1];rfl,?_,hR _ ?_,fun m hm=>by simp only[BR];exact hm _ bp⟩
     ·rw[hszA,hsplit,List.length_append,hfl];omega
     ·rw[hsplit,List.take_left' hfl]
    ·cases e
   ·rename_i sz' id off len
    obtain⟨r,hr,e⟩:=Option.bind_eq_some_iff.1 e
    split at e
    ·rename_i hcd
     have he:some (BO t.sz len (r.drop off))=some els:=e
     cases he
     obtain⟨hs,hcd⟩:=hcd
     subst hs
     have hcl: ∀(n:Nat) (l:List AV),(BO t.sz n l).length=n:=by
      intro n
      induction n with
      |zero=>intro l;rfl
      |succ n ih=>intro l;simp[BO,ih]
     have hll:len=l.length:=by rw[←hlen,hcl]
     have hnl:n≤len:=by omega
     have hmul:n*t.sz≤len*t.sz:=Nat.mul_le_mul_right _ hnl
     have hsub:=Md (sz:=t.sz) (len:=len) (c:=0) (d:=n) (l:=r.drop off) (by omega) hnl
     simp only[List.drop_zero,Nat.zero_mul,Nat.sub_zero]at hsub
     have hcf: ∀(n:Nat) (l:List AV),n*t.sz≤l.length→(BO t.sz n l).flatten=l.take (n*t.sz):=by
      intro n
      induction n with
      |zero=>intro l _;simp[BO]
      |succ n ih=>
       intro l hl
       simp only[BO,List.flatten_cons]
       rw[ih _ (by simp;rw[Nat.succ_mul]at hl;omega),Nat.succ_mul,Nat.add_comm (n*t.sz),List.take_add]
     refine⟨.ptr id off,by simp only[U0];rw[if_pos ⟨trivial,hnl⟩],bp,r,off,by simp[place,hr],by rw[hszA];omega,?_,fun m hm=>by simp only[BR];exact hm _ bp⟩
     have:sub r off (T.arr n t).sz=sub (r.drop off) 0 (T.arr n t).sz:=by simp[sub]
     rw[this]
     exact hR _ (by rw[hsub,hcf n _ (by simp;omega)])
    ·cases e
 ·cases hy
theorem h_s2aV{n sz:Nat}{t:T}{g:GS t.α}(hsz:sz=t.sz)(ha:Cq tb Γ a (.val (T.sl t) g)):EY tb Γ (.s2a n sz a) (YC n g) fun y=> .rp (T.arr n t) y:=by
 intro E rv fp f H R y hy
 subst hsz
 obtain⟨p,h1,h2⟩:=(IP.1 (ha E rv fp f H R)).arr hy
 exact⟨p,none,by simp only[B6,h1,val,Option.map_some],rfl,h2⟩
variable{ks:List Kf}{ρ:Type}{Q:Nh ρ}
def X2{q:Bool}{L l rest:List Bm}{g t d:Nat}{b:Bool}(n:Nat)(og:BG Γ.ts g=some (.val T.b b))(h:JQ g true n L=some (l,⟨some d,none, .pick (.t g) (.t t) (.k (.b false))⟩::rest))(hc:Sy g l Γ.ts=true)
  (main:Aa tb (Γ.push g (.val T.b true)) (rg q (l++⟨some d,none, .pick (.t g) (.t t) (.k (.b false))⟩::rest)) ks Q) (els:Aa tb (Γ.push d (.val T.b false)) (rg q rest) ks Q):Aa tb Γ (rg q L) ks Q:=
 ⟨if b=true then main.m else els.m,fun E f H ⟨rv,fp,I⟩ r hr=>by
  have hL:=Gy h
  simp only[Sy,Bool.and_eq_true,Bool.not_eq_true']at hc
  obtain⟨hc1,hc2,hc3⟩:=hc
  have hg:=F3.1 (I.temps g _ og)
  have hng:=IR hc2
  cases b with
  |true=>
   obtain⟨e,f',H',h4,h5⟩:=main.ok E f H ⟨rv,fp,I.le,I.base,I.wf,I.fplt,I.rvlt,I.scal,I.inj,I.slots,fun u φ e=>by
    simp only[Cx.push,BG]at e
    split at e
    ·rename_i hu;cases e;subst hu;exact F3.2 hg
    ·exact I.temps u φ e,I.gh⟩ r (by simpa using hr)
   exact⟨e,f',H',by rw[hL,NM hg hng];exact h4,h5⟩
  |false=>
   obtain⟨f',h1,h2⟩:=Mr (tb:=tb) (q:=q) (w:=true) (H:=H) hg hng hc1 (by simp)
   have hp:B6 tb (C5 tb) (eval tb f') H (.pick (.t g) (.t t) (.k (.b false)))=some (.b false,none):=by
    simp only[B6,eval,h2 g hng,hg];rfl
   have I':B1 E Γ rv fp f' H:=I.fr fun u φ e=>h2 u (HQ hc3 e)
   obtain⟨e,f2,H2,h4,h5⟩:=els.ok E _ H ⟨rv,fp,Wd I'⟩ r (by simpa using hr)
   exact⟨e,f2,H2,by rw[hL,E8 h1,Ef hp rfl];exact h4,h5⟩⟩
def AaW{q:Bool}{L l rest:List Bm}{g t d:Nat}{b:Bool}(n:Nat)(og:BG Γ.ts g=some (.val T.b b))(h:JQ g false n L=some (l,⟨some d,none, .pick (.t g) (.k (.b true)) (.t t)⟩::rest))(hc:Sy g l Γ.ts=true)
  (main:Aa tb (Γ.push g (.val T.b false)) (rg q (l++⟨some d,none, .pick (.t g) (.k (.b true)) (.t t)⟩::rest)) ks Q) (els:Aa tb (Γ.push d (.val T.b true)) (rg q rest) ks Q):Aa tb Γ (rg q L) ks Q:=
 ⟨if b=true then els.m else main.m,fun E f H ⟨rv,fp,I⟩ r hr=>by
  have hL:=Gy h
  simp only[Sy,Bool.and_eq_true,Bool.not_eq_true']at hc
  obtain⟨hc1,hc2,hc3⟩:=hc
  have hg:=F3.1 (I.temps g _ og)
  have hng:=IR hc2
  cases b with
  |false=>
   obtain⟨e,f',H',h4,h5⟩:=main.ok E f H ⟨rv,fp,I.le,I.base,I.wf,I.fplt,I.rvlt,I.scal,I.inj,I.slots,fun u φ e=>by
    simp only[Cx.push,BG]at e
    split at e
    ·rename_i hu;cases e;subst hu;exact F3.2 hg
    ·exact I.temps u φ e,I.gh⟩ r (by simpa using hr)
   exact⟨e,f',H',by rw[hL,NM hg hng];exact h4,h5⟩
  |true=>
   obtain⟨f',h1,h2⟩:=Mr (tb:=tb) (q:=q) (w:=false) (H:=H) hg hng hc1 (by simp)
   have hp:B6 tb (C5 tb) (eval tb f') H (.pick (.t g) (.k (.b true)) (.t t))=some (.b true,none):=by
    simp only[B6,eval,h2 g hng,hg];rfl
   have I':B1 E Γ rv fp f' H:=I.fr fun u φ e=>h2 u (HQ hc3 e)
   obtain⟨e,f2,H2,h4,h5⟩:=els.ok E _ H ⟨rv,fp,Wd I'⟩ r (by simpa using hr)
   exact⟨e,f2,H2,by rw[hL,E8 h1,Ef hp rfl];exact h4,h5⟩⟩
theorem cO{d:Nat}{zero:List AV}{φs:List AK}(j:Nat)(hx: ∀rv ss P H,jD rv ss P H φs zero)(hc:zero.all scal=true)(hn:φs.all NY=true)(hf:Tz Γ.ss j φs){js:List Nat}(hjs:js=List.range' j φs.length):
  OpN tb Γ (some d) (.bld zero []) ⟨(d, .aggk js)::Γ.ts,iV j φs Γ.ss⟩:=by
 intro E rv fp f H R
 subst hjs
 have hv:=hx rv Γ.ss (Pf E Γ.ss fp H) H
 obtain⟨rv',fp',h1,h2,_,h4⟩:=R.keepL (j:=j) hf hv (jD.men R.ltP R.rvlt hn hv)
 refine⟨.agg zero,none,by simp only[B6,Ma,val,Option.map_some],rfl,rv',fp',h4.push (d:=d) (φ:= .aggk _) ⟨h2,?_⟩⟩
 have e:((List.range' j φs.length).flatMap fun j=>cellsOf (rv' j))=((List.range' j φs.length).map rv').flatMap cellsOf:=by rw[List.flatMap_map]
 have hz: ∀l:List AV,l.all scal=true→l.flatMap cellsOf=l:=by
  intro l
  induction l with
  |nil=>intro _;rfl
  |cons x l ih=>
   intro h
   simp only[List.all_cons,Bool.and_eq_true]at h
   rw[List.flatMap_cons,J2 h.1,ih h.2];rfl
 rw[e,h1,hz _ hc]
theorem B1.keepCell{E:PN}{rv:Nat→AV}{fp:Fp}{f:Fr}{H:Ay}(I:B1 E Γ rv fp f H){j' j n:Nat}{js:List Nat}(hj':AG Γ.ss j'=none)(h:BG Γ.ts n=some (.cp j 0))(ho:RV Γ.ss js=true)(hj:AG Γ.ss j=some (.cells (kvs js))):
  ∃rv' fp',B1 E ⟨Γ.ts,(j', .keep (.aggk js))::Γ.ss⟩ rv' fp' f H:=by
 obtain⟨g1,g2,g3⟩:=NW I ho
 have hfr:FR rv Γ.ss (Pf E Γ.ss fp H) H (.aggk js) (.agg (js.flatMap fun j=>cellsOf (rv j))):=⟨g2,rfl⟩
 obtain⟨rv',fp',_,_,h3,_⟩:=I.keepNew hj' hfr (FR.men I.ltP I.rvlt (by rintro⟨⟩) hfr)
 exact⟨rv',fp',h3⟩
theorem Eo{js:List Nat}{j j' n m:Nat}(h:BG Γ.ts n=some (.cp j 0))(ho:RV Γ.ss js=true)(hj:AG Γ.ss j=some (.cells (kvs js)))(hk:AG Γ.ss j'=some (.keep (.aggk js)))(hm:m=js.length):xV Γ (.cell true m n) (.kv j'):=by
 intro E rv fp f H R r vs hr
 obtain⟨v,h1,h2⟩:=DH h ho hj hm E rv fp f H R r vs hr
 obtain⟨h3,_⟩:=R.slots j' _ hk
 exact⟨v,h1,fun k hk'=>by rw[List.mem_singleton.1 hk',hk];rfl,h2.2.trans h3.2.symm⟩
def Ab{q:Bool}{d n:Nat}{l:List Bm}{φ:AK}(h:BG Γ.ts n=some φ)(k:Aa tb (Γ.push d φ) (rg q l) ks Q):Aa tb Γ (rg q (⟨some d,none, .mv (.t n)⟩::l)) ks Q:=Ad (Ap (Cs h)) k
def Ag{q:Bool}{x y:AC}(s:Aa tb Γ x (.seq y::ks) Q):Aa tb Γ (rg q []) (.seq (.seq x y)::ks) Q:=Ac (Af s)
theorem Av{op:BinOp}{a b:AO}{x y:Int}(h:oF op=true)(ha:Cq tb Γ a (.val (T.int .i64) x))(hb:Cq tb Γ b (.val (T.int .i64) y)):EY tb Γ (.bin op a b) (some (AaO op x y)) fun z=> .val T.b z:=E5 (I:=IT.int .i64) h ha hb
abbrev oz(d:Nat)(x:H6):Bm:=⟨some d,none,x⟩
abbrev mt(d n:Nat):Bm:=⟨some d,none, .mv (.t n)⟩
abbrev sf(l:List Bm)(y:AC):AC:= .seq (rg false l) y
abbrev sr(l:List Bm)(y:AC):AC:= .seq (rg true l) y
abbrev ki(n:Int):AO:= .k (.i .i64 n)
abbrev on(x:H6):Bm:=⟨none,none,x⟩
def BU{c:AC}(j' n:Nat){j:Nat}{js:List Nat}(hj':AG Γ.ss j'=none)(h:BG Γ.ts n=some (.cp j 0))(ho:RV Γ.ss js=true)(hj:AG Γ.ss j=some (.cells (kvs js)))(s:Aa tb ⟨Γ.ts,(j', .keep (.aggk js))::Γ.ss⟩ c ks Q):Aa tb Γ c ks Q:=
 s.turn fun _ _ _ ⟨_,_,I⟩=>I.keepCell hj' h ho hj
def rY(n:Int):AH:=(Utf8.encode n).data.toList
theorem h_cvcE{I:IT}{x:I.t.α}(ha:Cq tb Γ a (.val I.t x)):EY tb Γ (.cvc a) (some (rY (I.toI x))) fun z=> .val Ak z:=h_cvcI ha
theorem bC(ha:Cq tb Γ a (.con .nils)):EY tb Γ (.len a) (some ()) fun _=> .val (T.int .i64) (0:Int):=by
 rintro E rv fp f H R _ ⟨⟩
 obtain⟨hv,_⟩:=ha E rv fp f H R
 exact⟨.i .i64 0,none,by simp only[B6,hv,Og,Option.map_some];rfl,rfl,BY.2 rfl⟩
theorem bB{g:Nat}{z:Bool}{x:AO}(og:Cq tb Γ (.t g) (.val T.b true))(ho:Cq tb Γ a (.val T.b z)):EY tb Γ (.pick (.t g) a x) (some ()) fun _=> .val T.b z:=by
 rintro E rv fp f H R _ ⟨⟩
 exact⟨_,none,by simp only[B6,F3.1 (og E rv fp f H R)];rfl,rfl,ho E rv fp f H R⟩
theorem AaE{g:Nat}{z:Bool}{x:AO}(og:Cq tb Γ (.t g) (.val T.b false))(ho:Cq tb Γ a (.val T.b z)):EY tb Γ (.pick (.t g) x a) (some ()) fun _=> .val T.b z:=by
 rintro E rv fp f H R _ ⟨⟩
 exact⟨_,none,by simp only[B6,F3.1 (og E rv fp f H R)];rfl,rfl,ho E rv fp f H R⟩
end
theorem sB{p:Prop}(h:p:=by repeat' constructor):p:=h
abbrev Cw(tb:Dh)(c:D9)(As Rs:List T)(a:CG As):=Aa tb ⟨U1 As 0 a,[]⟩ c.body [] (AaX Rs c.res)
end Go.Proofs.YtobejhpigbllpaaGreatDoor.Am
namespace Go.Proofs.YtobejhpigbllpaaGreatDoor.Am
def Gi(l:List UInt8):Nat×Bool:=match Lib.parseUintB 64 l with
 | .ok u=>(u,false)
 | .range=>(18446744073709551615,true)
 |_=>(0,true)
theorem qM(l:List UInt8):(Gi l).1<18446744073709551616:=by
 unfold Gi
 split
 ·rename_i u h
  unfold Lib.parseUintB at h
  split at h
  ·cases h
  ·have:=Lib.parseUintM_le _ l 0 u (Nat.zero_le _) h
   show u<18446744073709551616
   omega
 ·show(18446744073709551615:Nat)<_;omega
 ·show(0:Nat)<_;omega
def Wi:List AV→Ay→Option (AV×Option Ay)
 |[.s l, .i .i64 b, .i .i64 z],_=>if b=10∧z=64∧l.length≤Di then some (.tup [.i .u64 ((Gi l).1:Nat),if(Gi l).2 then .ifc 0 .junk else .nili],none)else none
 |_,_=>none
def Z5(P:Program)(g gS gR:Nat):Prop:= ∀(l:List UInt8) (w:World) (eS eR:Value),l.length≤281474976710656→w.cell? ⟨gS,0,none⟩=some eS→(∃t a,eS= .iface t a)→w.cell? ⟨gR,0,none⟩=some eR→(∃t a,eR= .iface t a)→
 Calls P g #[.string ⟨l.toArray⟩, .int .i64 10, .int .i64 64] w fun e w'=> ∃v,e= .returned (.tuple #[.int .u64 ((Gi l).1:Nat),v])∧(if(Gi l).2 then∃t a,v= .iface t a else v= .nilIface)∧RowKit.Below w.heap.size w w'
theorem kE{P:Program}{tb:Dh}{g gS gR:Nat}(hen:hY P g=true)(hS:tb.gl gS=some [.ifc 0 .junk])(hR:tb.gl gR=some [.ifc 0 .junk])(hg:Z5 P g gS gR):
  Fw P tb fun g' args h=>if g'=g then Wi args h else none:=by
 intro g' C args vs r I hr h
 dsimp only at h
 split at h
 ·rename_i hgg
  subst hgg
  unfold Wi at h
  split at h
  ·rename_i hp l b z
   split at h
   ·rename_i hc
    obtain⟨rfl,rfl,hl⟩:=hc
    cases h
    obtain⟨v,vs',e1,r1,v2,vs2,e2,r2,v3,vs3,e3,r3,e4⟩:=hr
    have e4':vs3=[]:=e4
    have r1':v= .string ⟨l.toArray⟩:=r1
    have r2':v2= .int .i64 10:=r2
    have r3':v3= .int .i64 64:=r3
    subst e4';subst e3;subst e2;subst e1;subst r1';subst r2';subst r3'
    have gl: ∀q,tb.gl q=some [.ifc 0 .junk]→ ∃ev,C.w.cell? ⟨q,0,none⟩=some ev∧ ∃t a,ev= .iface t a:=by
     intro q hq
     obtain⟨_,_,_,us,hh,v,q',e,⟨t,a,rfl,_⟩,e'⟩:=I.gl q _ hq
     have e'':q'=[]:=e'
     subst e'';subst e
     exact⟨_,hh 0 _ rfl,t,a,rfl⟩
    obtain⟨eS,c1,t1⟩:=gl gS hS
    obtain⟨eR,c2,t2⟩:=gl gR hR
    refine .inr ⟨g',_,Mc hen _ _,(hg l C.w eS eR (by unfold Di at hl;omega) c1 t1 c2 t2).mono ?_⟩
    rintro ee w' ⟨v,rfl,hv,hb⟩
    obtain⟨X,hI⟩:=grown I (w:=w') ⟨hb.os,hb.tape,hb.output⟩ hb.size hb.block
    refine⟨_,_,rfl,X,hI,rfl,rfl,[.int .u64 ((Gi l).1:Nat),v],rfl,_,_,rfl,rfl,_,_,rfl,?_,rfl⟩
    split at hv
    ·rename_i hq
     obtain⟨t,a,rfl⟩:=hv
     rw[if_pos hq]
     exact⟨t,a,rfl,trivial⟩
    ·rename_i hq
     rw[if_neg hq]
     exact hv
   ·cases h
  ·cases h
 ·cases h
def RU:List AV→Ay→Option (AV×Option Ay)
 |[.s a, .s b],_=>if a.length<4294967281 then some (.i .i64 (Lib.index a b),none)else none
 |_,_=>none
def Z6(P:Program)(g gM:Nat):Prop:= ∀(a b:List UInt8) (w:World) (m:Int),a.length<4294967281→w.cell? ⟨gM,0,none⟩=some (.int .i64 m)→
 Calls P g #[.string ⟨a.toArray⟩, .string ⟨b.toArray⟩] w fun e w'=>e= .returned (.int .i64 (Lib.index a b))∧w'=w
theorem dX{P:Program}{tb:Dh}{g gM:Nat}(hen:hY P g=true)(hM:gM∈tb.it)(hg:Z6 P g gM):
  Fw P tb fun g' args h=>if g'=g then RU args h else none:=by
 intro g' C args vs r I hr h
 dsimp only at h
 split at h
 ·rename_i hgg
  subst hgg
  unfold RU at h
  split at h
  ·rename_i hp a b
   split at h
   ·rename_i hl
    cases h
    obtain⟨v,vs',e1,r1,v2,vs2,e2,r2,e3⟩:=hr
    have e3':vs2=[]:=e3
    have r1':v= .string ⟨a.toArray⟩:=r1
    have r2':v2= .string ⟨b.toArray⟩:=r2
    subst e3';subst e2;subst e1;subst r1';subst r2'
    obtain⟨_,m,hm⟩:=I.it gM hM
    refine .inr ⟨g',_,Mc hen _ _,(hg a b C.w m hl hm).mono ?_⟩
    rintro ee w' ⟨rfl,rfl⟩
    exact⟨_,C,rfl,KU.refl C,I,rfl,rfl,rfl⟩
   ·cases h
  ·cases h
 ·cases h
end Go.Proofs.YtobejhpigbllpaaGreatDoor.Am
namespace Go.Proofs.YtobejhpigbllpaaGreatDoor.Am
def aC(s:AH)(b z:Int):Option (UInt64×Bool):=if b=10∧z=64∧s.length≤Di then some (UInt64.ofNat (Gi s).1,(Gi s).2)else none
theorem mZ{tb:Dh}{g:Nat}(hp:tb.prim g=some Wi):Spec tb g [Ak,T.int .i64,T.int .i64] [T.u64,iW] fun a=>aC a.1 a.2.1 a.2.2:=by
 rintro P h args ⟨x,y,z⟩ _ _ ⟨v,q,rfl,h1,w,q2,rfl,h2,u,rfl,h3⟩ r hr
 dsimp only at hr
 unfold aC at hr
 split at hr
 ·rename_i hc
  cases hr
  obtain⟨hb,hz,hl⟩:=hc
  refine⟨.tup [.i .u64 ((Gi x).1:Nat),if(Gi x).2 then .ifc 0 .junk else .nili],none,?_,rfl,[.i .u64 ((Gi x).1:Nat),if(Gi x).2 then .ifc 0 .junk else .nili],rfl,_,_,rfl,?_,_,rfl,cM.2 rfl⟩
  ·rw[EH.1 h1,BY.1 h2,BY.1 h3,hb,hz]
   simp only[B8,hp,Wi]
   simp only[hl,and_self,if_true]
  ·refine cJ.2 ?_
   have:=qM x
   have e:(UInt64.ofNat (Gi x).1).toNat=(Gi x).1:=by rw[UInt64.toNat_ofNat'];omega
   rw[e]
 ·cases hr
def indexS(s b:AH):Option Int:=if s.length<4294967281 then some (Lib.index s b)else none
theorem Spec.indexS{tb:Dh}{g:Nat}(hp:tb.prim g=some RU):Spec tb g [Ak,Ak] [T.int .i64] fun a=>Am.indexS a.1 a.2:=by
 rintro P h args ⟨x,y⟩ _ _ ⟨v,q,rfl,h1,w,rfl,h2⟩ r hr
 dsimp only at hr
 unfold Am.indexS at hr
 split at hr
 ·rename_i hl
  cases hr
  refine⟨.i .i64 (Lib.index x y),none,?_,rfl,[.i .i64 (Lib.index x y)],rfl,_,rfl,BY.2 rfl⟩
  rw[EH.1 h1,EH.1 h2]
  simp only[B8,hp,RU]
  rw[if_pos hl]
 ·cases hr
end Go.Proofs.YtobejhpigbllpaaGreatDoor.Am
namespace Go.Proofs.YtobejhpigbllpaaGreatDoor.Am
def Xg(P:Program):Nat→List Field→Option Nat
 |pos,[]=>some pos
 |pos,f::fs=>if Nat.beq f.offset pos then Xg P (pos+P.cellsOf f.type) fs else none
def Jk(P:Program):Nat→TypeId→Bool
 |0,_=>false
 |n+1,t=>
  match P.underlying t with
  |some .bool=>Nat.beq (P.cellsOf t) 1
  |some (.int _)=>Nat.beq (P.cellsOf t) 1
  |some .string=>Nat.beq (P.cellsOf t) 1
  |some (.pointer e)=>Nat.beq (P.cellsOf t) 1&&Nat.blt 0 (P.cellsOf e)&&Jk P n e
  |some (.slice e)=>Nat.beq (P.cellsOf t) 1&&Nat.blt 0 (P.cellsOf e)&&Jk P n e
  |some (.struct fs)=>decide (Xg P 0 fs.toList=some (P.cellsOf t))&&fs.toList.all fun f=>Jk P n f.type
  |some (.array m e)=>Nat.beq (P.cellsOf t) (m*P.cellsOf e)&&Jk P n e
  |_=>false
def mX(T:TypeId→List AV→Prop):List Field→List AV→Prop
 |[],cs=>cs=[]
 |f::fs,cs=> ∃a b,cs=a++b∧T f.type a∧mX T fs b
def I1(P:Program):Nat→TypeId→List AV→Prop
 |0,_,_=>False
 |n+1,t,cs=>
  match P.underlying t with
  |some .bool=> ∃b,cs=[.b b]
  |some (.int k)=> ∃x,cs=[.i k x]∧k.has x
  |some .string=> ∃l,cs=[.s l]
  |some (.pointer e)=>cs=[.nilp]∨ ∃ds,cs=[.ip ds 0]∧I1 P n e ds
  |some (.slice e)=>cs=[.nils]∨ ∃els:List (List AV),cs=[.sl (P.cellsOf e) els]∧ ∀x∈els,I1 P n e x
  |some (.struct fs)=>mX (I1 P n) fs.toList cs
  |some (.array m e)=> ∃els:List (List AV),els.length=m∧cs=els.flatten∧ ∀x∈els,I1 P n e x
  |_=>False
section
variable{P:Program}{H:Type}{enc:TypeId×Value→H}{w:World}{spare:Nat→Bool}{held:Bool}
theorem Uy{base:Nat}{a:Addr}{n:Nat}{cs:List Value}(h:w.cells? base a n=some cs):cs.length=n∧ ∀(j:Nat) (v:Value),cs[j]? =some v→w.cell? (a.add j)=some v:=by
 unfold World.cells? at h
 split at h
 ·refine⟨by rw[mapM_some_length h];simp,fun j v hj=> ?_⟩
  have hl:j<n:=by have:=Bj hj;rw[mapM_some_length h]at this;simpa using this
  have:=mapM_some_get h j j (by simp[hl])
  rw[this,hj]
 ·cases h
theorem xI{a:Addr}{v:Value}(h:w.cell? a=some v):a.spot=none∧a.block<w.heap.size:=by
 unfold World.cell? at h
 split at h
 ·rename_i c e fr hb
  refine⟨?_,(Array.getElem?_eq_some_iff.1 hb).1⟩
  split at h
  ·cases h
  ·rename_i hs;simpa using hs
 ·cases h
theorem S1{base:Nat}{a:Addr}{n:Nat}{cs:List Value}(h:w.cells? base a n=some cs)(hn:0<n): ∃b off,a=⟨b,off,none⟩∧b<w.heap.size∧En w b off cs∧cs.length=n:=by
 obtain⟨h1,h2⟩:=Uy h
 obtain⟨b,off,sp⟩:=a
 have h0:=h2 0 cs[0] (by simp)
 have:=xI h0
 simp only[Addr.add,if_true]at this
 obtain⟨rfl,hlt⟩:=this
 exact⟨b,off,rfl,hlt,fun j v hj=>by have:=h2 j v hj;rwa [Gx]at this,h1⟩
theorem mM{p:Nat→List AV→List Value→Prop}: ∀(len:Nat),(∀i,i<len→ ∃x y,p i x y)→ ∃(xs:List (List AV)) (ys:List (List Value)),xs.length=len∧ys.length=len∧ ∀(i:Nat) x y,xs[i]? =some x→ys[i]? =some y→p i x y
 |0,_=>⟨[],[],rfl,rfl,fun i x y h=>by simp at h⟩
 |n+1,h=>by
  obtain⟨xs,ys,h1,h2,h3⟩:=mM n fun i hi=>h i (by omega)
  obtain⟨x,y,hp⟩:=h n (by omega)
  refine⟨xs++[x],ys++[y],by simp[h1],by simp[h2],fun i u v hu hv=> ?_⟩
  by_cases hi:i<n
  ·rw[List.getElem?_append_left (by omega)]at hu hv
   exact h3 i u v hu hv
  ·have hlt:=Bj hu
   simp only[List.length_append,List.length_cons,List.length_nil]at hlt
   obtain rfl:i=n:=by omega
   rw[List.getElem?_append_right (by omega),h1]at hu
   rw[List.getElem?_append_right (by omega),h2]at hv
   simp only[Nat.sub_self,List.getElem?_cons_zero,Option.some.injEq]at hu hv
   subst hu;subst hv
   exact hp
theorem VU{C:DP}: ∀{xs:List (List AV)} {ys:List (List Value)},xs.length=ys.length→(∀(i:Nat) x y,xs[i]? =some x→ys[i]? =some y→B0 C x y)→Bi C xs ys
 |[],[],_,_=>rfl
 |[],_::_,h,_=>by simp at h
 |_::_,[],h,_=>by simp at h
 |x::xs,y::ys,h,k=>⟨y,ys,rfl,k 0 x y rfl rfl,VU (by simpa using h) fun i u v hu hv=>k (i+1) u v (by simpa using hu) (by simpa using hv)⟩
theorem WM{sz:Nat}: ∀(l:List (List Value)),(∀y∈l,y.length=sz)→ ∀(j:Nat) (v:Value),l.flatten[j]? =some v→ ∃(i r:Nat) (y:List Value),j=i*sz+r∧l[i]? =some y∧y[r]? =some v
 |[],_,j,v,h=>by simp at h
 |y::l,hy,j,v,h=>by
  rw[List.flatten_cons]at h
  have hyl:=hy y List.mem_cons_self
  rcases Nat.lt_or_ge j y.length with hlt|hge
  ·rw[List.getElem?_append_left hlt]at h
   exact⟨0,j,y,by simp,rfl,h⟩
  ·rw[List.getElem?_append_right hge]at h
   obtain⟨i,r,u,h1,h2,h3⟩:=WM l (fun z hz=>hy z (List.mem_cons_of_mem _ hz)) _ _ h
   exact⟨i+1,r,u,by rw[Nat.succ_mul];omega,by simpa using h2,h3⟩
theorem eH(φ:Nat→Place)(w:World)(b:Nat): ¬(⟨φ,[],w⟩:DP).own b:=by
 rintro⟨id,h,_⟩
 exact absurd h (Nat.not_lt_zero _)
def Reads(P:Program)(φ:Nat→Place)(w:World)(n:Nat)(t:TypeId)(cs:List Value):Prop:=
 ∃cs1:List AV,I1 P n t cs1∧B0 ⟨φ,[],w⟩ cs1 cs∧cs1.all scal=true∧cs.length=P.cellsOf t
theorem RP(φ:Nat→Place)(n:Nat)(T: ∀f:Field,Jk P n f.type=true→ ∀cs:List Value,(∃fuel x,DataW.trod enc P w 0 spare held fuel f.type cs=some x)→Reads P φ w n f.type cs):
  ∀(fs:List Field) (pos tot:Nat) (cs:List Value),fs.all (fun f=>Jk P n f.type)=true→Xg P pos fs=some tot→cs.length=tot→
   (∀f∈fs,∃fuel x,DataW.trod enc P w 0 spare held fuel f.type ((cs.drop f.offset).take (P.cellsOf f.type))=some x)→
   ∃cs1:List AV,mX (I1 P n) fs cs1∧B0 ⟨φ,[],w⟩ cs1 (cs.drop pos)∧cs1.all scal=true
 |[],pos,tot,cs,_,hc,hl,_=>by
  simp only[Xg,Option.some.injEq]at hc
  subst hc
  exact⟨[],rfl,by rw[List.drop_of_length_le (by omega)];rfl,rfl⟩
 |f::fs,pos,tot,cs,hp,hc,hl,hr=>by
  simp only[List.all_cons,Bool.and_eq_true]at hp
  simp only[Xg]at hc
  split at hc
  ·rename_i ho
   rw[Nat.beq_eq]at ho
   obtain⟨cs1,t1,r1,s1,l1⟩:=T f hp.1 _ (hr f List.mem_cons_self)
   obtain⟨bs,t2,r2,s2⟩:=RP φ n T fs _ tot cs hp.2 hc hl fun g hg=>hr g (List.mem_cons_of_mem _ hg)
   refine⟨cs1++bs,⟨cs1,bs,rfl,t1,t2⟩,?_,by simp only[List.all_append,s1,s2,Bool.and_self]⟩
   rw[ho]at r1 l1
   have hsplit:cs.drop pos=(cs.drop pos).take (P.cellsOf f.type)++cs.drop (pos+P.cellsOf f.type):=by
    rw[←List.drop_drop,List.take_append_drop]
   rw[hsplit]
   exact B0.app r1 r2
  ·cases hc
theorem Pa(φ:Nat→Place): ∀(n:Nat) (t:TypeId),Jk P n t=true→ ∀(fuel:Nat) (cs:List Value) (x:DataW H×List MemPlace),DataW.trod enc P w 0 spare held fuel t cs=some x→Reads P φ w n t cs
 |0,_,h=>by simp[Jk]at h
 |n+1,t,h=>by
  intro fuel cs x hx
  simp only[Jk]at h
  cases hu:P.underlying t with
  |none=>rw[hu]at h;simp at h
  |some d=>
   rw[hu]at h
   cases fuel with
   |zero=>simp[DataW.trod]at hx
   |succ fuel=>
    cases d<;>simp only[Bool.false_eq_true]at h
    case bool=>
     rw[Nat.beq_eq]at h
     rcases cs with _|⟨v,_|⟨u,r⟩⟩
     ·simp[DataW.trod,hu]at hx
     ·cases v<;>simp[DataW.trod,hu]at hx
      rename_i b
      exact⟨[.b b],by simp only[I1,hu];exact⟨b,rfl⟩,⟨_,_,rfl,rfl,rfl⟩,rfl,h.symm⟩
     ·cases v<;>simp[DataW.trod,hu]at hx
    case int k=>
     rw[Nat.beq_eq]at h
     rcases cs with _|⟨v,_|⟨u,r⟩⟩
     ·simp[DataW.trod,hu]at hx
     ·cases v<;>simp[DataW.trod,hu]at hx
      rename_i k' z
      obtain⟨⟨rfl,hwf⟩,_⟩:=hx
      refine⟨[.i k' z],?_,⟨_,_,rfl,rfl,rfl⟩,rfl,h.symm⟩
      simp only[I1,hu]
      simp only[Lit.wf,Bool.and_eq_true,decide_eq_true_eq]at hwf
      exact⟨z,rfl,hwf⟩
     ·cases v<;>simp[DataW.trod,hu]at hx
    case string=>
     rw[Nat.beq_eq]at h
     rcases cs with _|⟨v,_|⟨u,r⟩⟩
     ·simp[DataW.trod,hu]at hx
     ·cases v<;>simp[DataW.trod,hu]at hx
      rename_i b
      exact⟨[.s b.data.toList],by simp only[I1,hu];exact⟨_,rfl⟩,⟨_,_,rfl,by simp[HA],rfl⟩,rfl,h.symm⟩
     ·cases v<;>simp[DataW.trod,hu]at hx
    case pointer e=>
     simp only[Bool.and_eq_true,Nat.beq_eq,Nat.blt_eq]at h
     obtain⟨⟨h1,h2⟩,h3⟩:=h
     rcases cs with _|⟨v,_|⟨u,r⟩⟩
     ·simp[DataW.trod,hu]at hx
     ·cases v<;>try (simp[DataW.trod,hu]at hx;done)
      rename_i p
      cases p with
      |none=>exact⟨[.nilp],by simp only[I1,hu];left;trivial,⟨_,_,rfl,rfl,rfl⟩,rfl,h1.symm⟩
      |some p=>
       simp only[DataW.trod,hu]at hx
       obtain⟨y,hy,_⟩:=Option.map_eq_some_iff.1 hx
       obtain⟨cs',hc,ht⟩:=Option.bind_eq_some_iff.1 hy
       obtain⟨b,off,rfl,hlt,hh,hl⟩:=S1 hc h2
       obtain⟨cs1,t1,r1,s1,l1⟩:=Pa φ n e h3 fuel cs' y ht
       refine⟨[.ip cs1 0],by simp only[I1,hu];exact .inr ⟨cs1,rfl,t1⟩,⟨_,_,rfl,⟨b,off,cs',rfl,hlt,eH φ w b,hh,s1,r1⟩,rfl⟩,rfl,h1.symm⟩
     ·cases v<;>simp[DataW.trod,hu]at hx
    case slice e=>
     simp only[Bool.and_eq_true,Nat.beq_eq,Nat.blt_eq]at h
     obtain⟨⟨h1,h2⟩,h3⟩:=h
     rcases Go.Deep.open_slice hu hx with ⟨rfl,_⟩|⟨a,len,cap,m,n',D,Pl,rfl,hb,hl,hm,hmm,rfl,hel⟩
     ·exact⟨[.nils],by simp only[I1,hu];left;trivial,⟨_,_,rfl,rfl,rfl⟩,rfl,h1.symm⟩
     ·have hlm:len≤m:=by rw[hmm];split<;>omega
      obtain⟨xs,ys,x1,y1,hp⟩:=mM (p:=fun i x y=>I1 P n e x∧B0 ⟨φ,[],w⟩ x y∧x.all scal=true∧y.length=P.cellsOf e∧w.cells? 0 (a.add (i*P.cellsOf e)) (P.cellsOf e)=some y) len fun i hi=>by
       obtain⟨cs',c1,c2⟩:=hel i (by omega)
       obtain⟨cs1,t1,r1,s1,l1⟩:=Pa φ n e h3 n' cs' _ c2
       exact⟨cs1,cs',t1,r1,s1,l1,c1⟩
      have getx: ∀x∈xs,∃(i:Nat) (y:List Value),xs[i]? =some x∧ys[i]? =some y:=by
       intro x hx
       obtain⟨i,hi⟩:=List.mem_iff_getElem?.1 hx
       have:=Bj hi
       exact⟨i,ys[i]'(by omega),hi,List.getElem?_eq_getElem (by omega)⟩
      have gety: ∀y∈ys,y.length=P.cellsOf e:=by
       intro y hy
       obtain⟨i,hi⟩:=List.mem_iff_getElem?.1 hy
       have:=Bj hi
       exact(hp i (xs[i]'(by omega)) y (List.getElem?_eq_getElem (by omega)) hi).2.2.2.1
      refine⟨[.sl (P.cellsOf e) xs],?_,⟨_,_,rfl,?_,rfl⟩,rfl,h1.symm⟩
      ·simp only[I1,hu]
       refine .inr ⟨xs,rfl,fun x hx=> ?_⟩
       obtain⟨i,y,hi,hy⟩:=getx x hx
       exact(hp i x y hi hy).1
      ·by_cases h0:len=0
       ·subst h0
        exact .inr ⟨List.eq_nil_of_length_eq_zero x1,a,cap,rfl⟩
       ·have hpos:0<len:=by omega
        obtain⟨y0,hy0⟩: ∃y,ys[0]? =some y:=⟨_,List.getElem?_eq_getElem (by omega)⟩
        obtain⟨x0,hx0⟩: ∃y,xs[0]? =some y:=⟨_,List.getElem?_eq_getElem (by omega)⟩
        have hc0:=(hp 0 x0 y0 hx0 hy0).2.2.2.2
        simp only[Nat.zero_mul,Addr.add,if_true]at hc0
        obtain⟨b,off,rfl,hlt,_,_⟩:=S1 hc0 h2
        refine .inl ⟨b,off,cap,ys,by rw[x1],by rw[x1];exact hl,hlt,eH φ w b,?_,fun x hx=> ?_,VU (by rw[x1,y1]) fun i x y hi hy=>(hp i x y hi hy).2.1⟩
        ·intro j v hj
         obtain⟨i,r,y,rfl,hy,hr⟩:=WM ys gety j v hj
         have hi:=Bj hy
         have hc:=(hp i (xs[i]'(by omega)) y (List.getElem?_eq_getElem (by omega)) hy).2.2.2.2
         have:=(Uy hc).2 r v hr
         rwa [Gx,Gx,Nat.add_assoc]at this
        ·obtain⟨i,y,hi,hy⟩:=getx x hx
         have:=hp i x y hi hy
         exact⟨by rw[←this.2.1.length];exact this.2.2.2.1,this.2.2.1⟩
    case struct fs=>
     simp only[Bool.and_eq_true,decide_eq_true_eq]at h
     obtain⟨h1,h2⟩:=h
     simp only[DataW.trod,hu]at hx
     split at hx
     ·rename_i hl
      obtain⟨xs,hxs,_⟩:=Option.map_eq_some_iff.1 hx
      obtain⟨cs1,t1,r1,s1⟩:=RP (enc:=enc) (spare:=spare) (held:=held) φ n (fun f hf cs hh=>by obtain⟨fl,x,hh⟩:=hh;exact Pa φ n f.type hf fl cs x hh) fs.toList 0 _ cs h2 h1 hl fun f hf=>by
       obtain⟨i,hi⟩:=List.mem_iff_getElem?.1 hf
       have:=mapM_some_get hxs i f hi
       have hlen:=mapM_some_length hxs
       have hi':=Bj hi
       rw[List.getElem?_eq_getElem (by omega)]at this
       exact⟨fuel,_,this⟩
      exact⟨cs1,by simp only[I1,hu];exact t1,by simpa using r1,s1,hl⟩
     ·cases hx
    case array m e=>
     simp only[Bool.and_eq_true,Nat.beq_eq]at h
     obtain⟨h1,h2⟩:=h
     simp only[DataW.trod,hu]at hx
     split at hx
     ·rename_i hl
      obtain⟨xs,hxs,_⟩:=Option.map_eq_some_iff.1 hx
      have hxl:=mapM_some_length hxs
      simp only[List.length_range]at hxl
      obtain⟨els,ys,x1,y1,hp⟩:=mM (p:=fun i x y=>I1 P n e x∧B0 ⟨φ,[],w⟩ x y∧x.all scal=true∧y=(cs.drop (i*P.cellsOf e)).take (P.cellsOf e)∧y.length=P.cellsOf e) m fun i hi=>by
       have:=mapM_some_get hxs i i (by simp[hi])
       rw[List.getElem?_eq_getElem (by omega)]at this
       obtain⟨cs1,t1,r1,s1,l1⟩:=Pa φ n e h2 fuel _ _ this
       exact⟨cs1,_,t1,r1,s1,rfl,l1⟩
      have hys: ∀k,k≤m→(ys.take k).flatten=cs.take (k*P.cellsOf e):=by
       intro k
       induction k with
       |zero=>intro _;simp
       |succ k ih=>
        intro hk
        obtain⟨y,hy⟩: ∃y,ys[k]? =some y:=⟨_,List.getElem?_eq_getElem (by omega)⟩
        have:=hp k (els[k]'(by omega)) y (List.getElem?_eq_getElem (by omega)) hy
        rw[List.take_add_one,hy,List.flatten_append,ih (by omega)]
        simp only[Option.toList_some,List.flatten_cons,List.flatten_nil,List.append_nil]
        rw[this.2.2.2.1,Nat.succ_mul,List.take_add]
      have hfl:ys.flatten=cs:=by
       have:=hys m (Nat.le_refl _)
       rwa [List.take_of_length_le (by omega),List.take_of_length_le (by omega)]at this
      refine⟨els.flatten,?_,?_,?_,hl⟩
      ·simp only[I1,hu]
       refine⟨els,x1,rfl,fun x hx=> ?_⟩
       obtain⟨i,hi⟩:=List.mem_iff_getElem?.1 hx
       have:=Bj hi
       exact(hp i x (ys[i]'(by omega)) hi (List.getElem?_eq_getElem (by omega))).1
      ·have:=Bi.flat (VU (C:=⟨φ,[],w⟩) (by rw[x1,y1]) fun i x y hi hy=>(hp i x y hi hy).2.1)
       rwa [hfl]at this
      ·refine N1 fun x hx=> ?_
       obtain⟨i,hi⟩:=List.mem_iff_getElem?.1 hx
       have:=Bj hi
       exact(hp i x (ys[i]'(by omega)) hi (List.getElem?_eq_getElem (by omega))).2.2.1
     ·cases hx
end
end Go.Proofs.YtobejhpigbllpaaGreatDoor.Am
namespace Go.Proofs.YtobejhpigbllpaaGreatDoor.Am
section
variable{T:H6→Oper→Bool}{P:Program}{tb:Dh}
def TJ(P:Program)(n:Nat)(t:TypeId)(x:AV):Prop:=if GQ P t=true then∃cs,x= .agg cs∧I1 P n t cs else I1 P n t [x]
theorem cG{φ:Nat→Place}{w:World}{D:DP}(X:KU ⟨φ,[],w⟩ D):Go.RowKit.Below w.heap.size w D.w:=
 ⟨X.rest.1,X.rest.2.1,X.rest.2.2,X.size,fun k hk=>(X.same k hk (eH φ w k)).1⟩
theorem rF(φ:Nat→Place)(w:World)(hg: ∀g cs,tb.gl g=some cs→g<w.heap.size∧cs.all scal=true∧ ∃vs,En w g 0 vs∧B0 ⟨φ,[],w⟩ cs vs)(hi: ∀g∈tb.it,∃m:Int,w.cell? ⟨g,0,none⟩=some (.int .i64 m)):Inv tb ⟨φ,[],w⟩:=
 ⟨fun id o h=>by simp at h,fun i j h=>absurd h (Nat.not_lt_zero _),fun i h=>absurd h (Nat.not_lt_zero _),fun g cs h=>by
  obtain⟨h1,h2,h3⟩:=hg g cs h
  exact⟨h1,eH φ w g,h2,h3⟩,fun g h=>⟨eH φ w g,hi g h⟩⟩
theorem pH{H:Type}{enc:TypeId×Value→H}{W:World}{base:Nat}{spare:Nat→Bool}{held:Bool}{n:Nat}{t:TypeId}(hp:Jk P n t=true){v:Value}{d:DataW H}{ps:List MemPlace}(hv:Value.okWide P W .any base t v)
  (h:DataW.Trod enc P W 0 spare held t v d ps) (φ:Nat→Place): ∃x:AV,TJ P n t x∧HA ⟨φ,[],W⟩ x v:=by
 obtain⟨fuel,h⟩:=h
 obtain⟨cs1,t1,r1,s1,l1⟩:=Pa φ n t hp fuel _ _ h
 cases ha:GQ P t with
 |true=>
  have hc: ∃cs,v= .agg cs:=by
   unfold Value.okWide at hv
   simp only[GQ]at ha
   split at hv
   ·obtain⟨cs,e,_⟩:=hv;exact⟨cs,e⟩
   ·obtain⟨cs,e,_⟩:=hv;exact⟨cs,e⟩
   ·rename_i h1 h2
    split at ha
    ·rename_i fs hu;exact absurd hu (h1 fs)
    ·rename_i m e hu;exact absurd hu (h2 m e)
    ·cases ha
  obtain⟨cs,rfl⟩:=hc
  exact⟨.agg cs1,by simp only[TJ,ha,if_true];exact⟨cs1,rfl,t1⟩,cs.toList,by simp,s1,by simpa [Value.cells]using r1⟩
 |false=>
  have hna: ∀cs,v≠ .agg cs:=by
   rintro cs rfl
   simp only[GQ]at ha
   unfold Value.okWide at hv
   cases n with
   |zero=>simp[Jk]at hp
   |succ n=>
    simp only[Jk]at hp
    split at hp<;>rename_i hu<;>simp only[hu]at hv ha<;>first
     |(simp only[Cell.okWide,Cell.ok,hu]at hv;done)
     |(cases ha;done)
     |(cases hp;done)
  have hc:v.cells.toList=[v]:=by
   cases v<;>first
    |rfl
    |exact absurd rfl (hna _)
  rw[hc]at r1
  have hl:=r1.length
  obtain⟨x,rfl⟩: ∃x,cs1=[x]:=by
   match cs1,hl with
   |[x],_=>exact⟨x,rfl⟩
  obtain⟨u,q,e,h1,h2⟩:=r1
  simp only[List.cons.injEq]at e
  obtain⟨rfl,_⟩:=e
  exact⟨x,by simp only[TJ,ha,Bool.false_eq_true,if_false];exact t1,h1⟩
def Qq(P:Program)(n:Nat):List TypeId→List AV→Prop
 |[],xs=>xs=[]
 |t::ts,xs=> ∃x r,xs=x::r∧TJ P n t x∧Qq P n ts r
theorem Vz{H:Type}{enc:TypeId×Value→H}{W:World}{base:Nat}{spare:Nat→Bool}{held:Bool}{n:Nat}(φ:Nat→Place): ∀{ts:List TypeId} {vs:List Value} {ds:List (DataW H)} {ps:List MemPlace},ts.all (Jk P n)=true→
  (∀(j:Nat) t v,ts[j]? =some t→vs[j]? =some v→Value.okWide P W .any base t v)→DataW.TrodAll enc P W 0 spare held ts vs ds ps→ ∃xs:List AV,Qq P n ts xs∧B0 ⟨φ,[],W⟩ xs vs∧ds.length=ts.length
 |[],[],[],_,_,_,_=>⟨[],rfl,rfl,rfl⟩
 |[],[],_::_,_,_,_,h=>h.elim
 |[],_::_,_,_,_,_,h=>by cases ‹List (DataW H)› <;>exact h.elim
 |_::_,[],_,_,_,_,h=>by cases ‹List (DataW H)› <;>exact h.elim
 |_::_,_::_,[],_,_,_,h=>h.elim
 |t::ts,v::vs,d::ds,ps,hp,hv,⟨p,q,h1,h2,_⟩=>by
  simp only[List.all_cons,Bool.and_eq_true]at hp
  obtain⟨x,t1,r1⟩:=pH hp.1 (hv 0 t v rfl rfl) h1 φ
  obtain⟨xs,t2,r2,l2⟩:=Vz φ hp.2 (fun j t v ht hv'=>hv (j+1) t v (by simpa using ht) (by simpa using hv')) h2
  exact⟨x::xs,⟨x,xs,rfl,t1,t2⟩,⟨v,vs,rfl,r1,r2⟩,by simp[l2]⟩
theorem QB{H:Type}{enc:TypeId×Value→H}(hl:laidOutB P=true){W W':World}(hb:Go.RowKit.Below W.heap.size W W'): ∀{ts:List TypeId} {vs:List Value} {ds:List (DataW H)} {ps:List MemPlace},
  ts.all (fun t=>P.readableRec t&&decide (t<P.types.size))=true→DataW.TrodAll enc P W 0 (fun _=>true) true ts vs ds ps→(∀x∈ps,x.block<W.heap.size)→DataW.TrodAll enc P W' 0 (fun b=>decide (b<W.heap.size)) true ts vs ds ps
 |[],[],[],_,_,h,_=>h
 |[],[],_::_,_,_,h,_=>h.elim
 |[],_::_,_,_,_,h,_=>by cases ‹List (DataW H)› <;>exact h.elim
 |_::_,[],_,_,_,h,_=>by cases ‹List (DataW H)› <;>exact h.elim
 |_::_,_::_,[],_,_,h,_=>h.elim
 |t::ts,v::vs,d::ds,ps,hp,⟨p,q,h1,h2,e⟩,hlt=>by
  simp only[List.all_cons,Bool.and_eq_true,decide_eq_true_eq]at hp
  subst e
  exact⟨p,q,Go.RowKit.Below.trod hl hp.1.1 hp.1.2 h1 hb fun x hx=>hlt x (List.mem_append_left _ hx),QB hl hb hp.2 h2 fun x hx=>hlt x (List.mem_append_right _ hx),rfl⟩
theorem xF(ft:AaZ T P tb){k:FuncId}{f:Func}{bt:TypeId}{n:Nat}(hl:laidOutB P=true)(hr:f.resultTypes= #[bt])(hb:P.underlying bt=some .bool)(hp:f.params.toList.all (Jk P n)=true)
  (hrd:f.params.toList.all (fun t=>P.readableRec t&&decide (t<P.types.size))=true) {H:Type} {enc:TypeId×Value→H} {s:ChangeSpec} (hs0:s.vars=[]) (hs: ∀ds:List (DataW H),ds.length=f.params.size→s.fn H ds={results:=[.lit (.bool true)],args:=ds})
  {W:World} {base:Nat} {args:Array Value} {ds gs:List (DataW H)} {before:List MemPlace} (hval: ∀(j:Nat) t v,f.params[j]? =some t→args[j]? =some v→Value.okWide P W .any base t v)
  (hW:DataW.Whole enc P f.params.toList s.vars false W args.toList ds gs before)
  (hgl: ∀g cs,tb.gl g=some cs→g<W.heap.size∧cs.all scal=true∧ ∃vs,En W g 0 vs∧B0 ⟨fun _=>⟨0,0,0⟩,[],W⟩ cs vs)
  (hit: ∀g∈tb.it,∃m:Int,W.cell? ⟨g,0,none⟩=some (.int .i64 m))
  (law: ∀xs:List AV,Qq P n f.params.toList xs→B0 ⟨fun _=>⟨0,0,0⟩,[],W⟩ xs args.toList→ ∃h,C5 tb k xs []=some (.b true,h)):
  Calls P k args W fun e W'=> ∃v,e= .returned v∧s.post enc P f false true false false W args v W':=by
 have hW':=hW
 obtain⟨p,q,hA,hV,rfl,hfz,hnd⟩:=hW
 rw[hs0]at hV
 obtain⟨rfl,rfl⟩:=Go.ChangeShapes.trodVars_none hV
 obtain⟨xs,t1,r1,l1⟩:=Vz (fun _=>⟨0,0,0⟩) hp (fun j t v ht hv=>hval j t v (by simpa using ht) (by simpa using hv)) hA
 obtain⟨h,hd⟩:=law xs t1 r1
 have I:Inv tb ⟨fun _=>⟨0,0,0⟩,[],W⟩:=rF _ W hgl hit
 have hc:=sA ft (C:=⟨fun _=>⟨0,0,0⟩,[],W⟩) I r1 hd
 refine hc.mono fun e W' ⟨v,D,he,X,ID,hw,hH,hv⟩=> ?_
 subst he
 subst hw
 obtain rfl:v= .bool true:=hv
 have hbl:=cG X
 have hlt: ∀x∈p,x.block<W.heap.size:=fun x hx=>hW'.lt x (by simpa using hx)
 have hfn:=hs (ds++[]) (by simpa using l1)
 refine⟨_,rfl,ds,[],p++[],[],p,[],hW',?_,?_,?_,hbl.frame _,fun e=>by cases e⟩
 ·rw[hfn,hr]
  refine⟨[],[],⟨1,?_⟩,rfl,rfl⟩
  simp[DataW.trod,hb,Value.cells]
 ·rw[hfn]
  simpa using QB hl hbl hrd hA hlt
 ·rw[hs0,hfn]
  rfl
def eT{H:Type}:DataW H→Option AV
 | .lit (.int k n)=>some (.i k n)
 | .lit (.string l)=>some (.s l)
 | .lit (.bool b)=>some (.b b)
 | .iface _ _=>some (.ifc 0 .junk)
 |_=>none
def qT{α β:Type}(F:α→Option β):List α→Option (List β)
 |[]=>some []
 |x::r=>(F x).bind fun x=>(qT F r).map (x:: ·)
theorem eL{α β:Type}{F:α→Option β}: ∀{l:List α} {r:List β},qT F l=some r→l.length=r.length∧ ∀(i:Nat) x,l[i]? =some x→ ∃y,r[i]? =some y∧F x=some y
 |[],_,h=>by simp only[qT,Option.some.injEq]at h;subst h;simp
 |x::l,_,h=>by
  simp only[qT]at h
  obtain⟨y,hy,h⟩:=Option.bind_eq_some_iff.1 h
  obtain⟨r,hr,rfl⟩:=Option.map_eq_some_iff.1 h
  obtain⟨h1,h2⟩:=eL hr
  refine⟨by simp[h1],fun i z hz=> ?_⟩
  cases i with
  |zero=>simp only[List.getElem?_cons_zero,Option.some.injEq]at hz ⊢;subst hz;exact⟨y,rfl,hy⟩
  |succ i=>simp only[List.getElem?_cons_succ]at hz ⊢;exact h2 i z hz
theorem nU{C:DP}: ∀{xs:List AV} {ys:List Value},xs.length=ys.length→(∀(i:Nat) x y,xs[i]? =some x→ys[i]? =some y→HA C x y)→B0 C xs ys
 |[],[],_,_=>rfl
 |[],_::_,h,_=>by simp at h
 |_::_,[],h,_=>by simp at h
 |x::xs,y::ys,h,g=>⟨y,ys,rfl,g 0 x y rfl rfl,nU (by simpa using h) fun i x y hx hy=>g (i+1) x y (by simpa using hx) (by simpa using hy)⟩
theorem dD{H:Type}{enc:TypeId×Value→H}{W:World}{spare:Nat→Bool}{held:Bool}{C:DP}{fuel:Nat}{t:TypeId}{v:Value}{x:DataW H}{p:List MemPlace}{a:AV}(h:DataW.trod enc P W 0 spare held fuel t [v]=some (x,p))(ha:eT x=some a):HA C a v∧scal a=true:=by
 cases fuel with
 |zero=>simp[DataW.trod]at h
 |succ fuel=>
  cases hu:P.underlying t with
  |none=>simp[DataW.trod,hu]at h
  |some d=>
   have hx:(∃k n,x= .lit (.int k n)∧a= .i k n)∨(∃l,x= .lit (.string l)∧a= .s l)∨(∃b,x= .lit (.bool b)∧a= .b b)∨ ∃n d,x= .iface n d∧a= .ifc 0 .junk:=by
    unfold eT at ha
    split at ha<;>simp only[Option.some.injEq,reduceCtorEq]at ha<;>subst ha<;>simp
   unfold DataW.trod at h
   rw[hu]at h
   rcases hx with ⟨k,n,rfl,rfl⟩|⟨l,rfl,rfl⟩|⟨b,rfl,rfl⟩|⟨n,y,rfl,rfl⟩
   all_goals (split at h<;>(try split at h)<;>(try split at h)<;>simp_all [HA,scal,Option.map_eq_some_iff,Option.bind_eq_some_iff])
   obtain⟨rfl,_⟩:=h
   simp
theorem yK{H:Type}{enc:TypeId×Value→H}{W:World}{spare:Nat→Bool}{held:Bool}{C:DP}{fuel:Nat}{t e:TypeId}{m:Nat}{cs:List Value}{ds:List (DataW H)}{p:List MemPlace}{cs1:List AV}
  (hu:P.underlying t=some (.array m e)) (hc:P.cellsOf e=1) (hct:P.cellsOf t=m) (h:DataW.trod enc P W 0 spare held fuel t cs=some (.agg ds,p)) (ha:qT eT ds=some cs1):B0 C cs1 cs∧cs1.all scal=true:=by
 cases fuel with
 |zero=>simp[DataW.trod]at h
 |succ fuel=>
  simp only[DataW.trod,hu,hc,hct]at h
  split at h
  ·rename_i hl
   obtain⟨xs,hxs,h⟩:=Option.map_eq_some_iff.1 h
   simp only[Prod.mk.injEq,DataW.agg.injEq]at h
   obtain⟨rfl,_⟩:=h
   have hxl:=mapM_some_length hxs
   simp only[List.length_range]at hxl
   obtain⟨g1,g2⟩:=eL ha
   simp only[List.length_map]at g1
   have key: ∀(i:Nat) a,cs1[i]? =some a→ ∃v,cs[i]? =some v∧HA C a v∧scal a=true:=fun i a hi=>by
    have hi':=Bj hi
    have:=mapM_some_get hxs i i (by rw[List.getElem?_range (by omega)])
    have hd:(cs.drop (i*1)).take 1=[cs[i]'(by omega)]:=by
     rw[Nat.mul_one,List.drop_eq_getElem_cons (by omega)];rfl
    rw[hd,List.getElem?_eq_getElem (by omega)]at this
    obtain⟨y,hy,hf⟩:=g2 i (xs[i]'(by omega)).1 (by rw[List.getElem?_map,List.getElem?_eq_getElem (by omega)];rfl)
    rw[hi]at hy
    cases hy
    exact⟨_,List.getElem?_eq_getElem (by omega),dD this hf⟩
   refine⟨nU (by omega) fun i x y hx hy=> ?_,?_⟩
   ·obtain⟨v,h1,h2,_⟩:=key i x hx
    rw[hy]at h1;cases h1;exact h2
   ·rw[List.all_eq_true]
    intro x hx
    obtain⟨i,hi⟩:=List.mem_iff_getElem?.1 hx
    obtain⟨v,_,_,h⟩:=key i x hi
    exact h
  ·cases h
theorem Wt{W:World}{n:String}{d:DataW Unit}: ∀{l:List (String×DataW Unit)} {ps:List MemPlace},DataW.LaidVars P W l ps→(n,d)∈l→ ∃g t cs fuel p,P.globalNamed n=some g∧(P.globals[g]?).map (·.type)=some t∧W.var? P n=some cs∧
  DataW.trod (fun _=>()) P W 0 (fun _=>true) false fuel t cs.toList=some (d,p)
 |[],_,_,hm=>by cases hm
 |(n',d')::r,ps,⟨g,t,cs,fuel,p,q,h1,h2,h3,h4,h5,_⟩,hm=>by
  rcases List.mem_cons.1 hm with e|hm
  ·simp only[Prod.mk.injEq]at e
   obtain⟨rfl,rfl⟩:=e
   exact⟨g,t,cs,fuel,p,h1,h2,h3,h4⟩
  ·exact Wt h5 hm
theorem Ub{W:World}{l:List (String×DataW Unit)}(hL:laidMet P l W){n:String}{d:DataW Unit}{a:AV}{g:Nat}{t:TypeId}(hm:(n,d)∈l)(hg:P.globalNamed n=some g)(ht:(P.globals[g]?).map (·.type)=some t)
  (hu: ∃m,P.underlying t=some (.interface m)) (ha:eT d=some a):
  g<W.heap.size∧[a].all scal=true∧ ∃vs,En W g 0 vs∧B0 ⟨fun _=>⟨0,0,0⟩,[],W⟩ [a] vs:=by
 obtain⟨ps,hv,_,_⟩:=hL
 obtain⟨g',t',cs,fuel,p,h1,h2,h3,h4⟩:=Wt hv hm
 rw[hg]at h1;cases h1
 rw[ht]at h2;cases h2
 obtain⟨m,hu⟩:=hu
 have hc: ∃v,cs.toList=[v]:=by
  cases fuel with
  |zero=>simp[DataW.trod]at h4
  |succ fuel=>
   unfold DataW.trod at h4
   rw[hu]at h4
   split at h4<;>first
    |(rename_i e;exact⟨_,e⟩)
    |(rename_i e _;exact⟨_,e⟩)
    |(cases h4;done)
    |simp_all
 obtain⟨v,hc⟩:=hc
 rw[hc]at h4
 obtain⟨r1,r2⟩:=dD (C:=⟨fun _=>⟨0,0,0⟩,[],W⟩) h4 ha
 simp only[World.var?,hg,Option.bind_some]at h3
 have hlt:g<W.heap.size:=by
  rcases Nat.lt_or_ge g W.heap.size with h|h
  ·exact h
  ·rw[Array.getElem?_eq_none h]at h3;cases h3
 refine⟨hlt,by simp[r2],cs.toList,fun j v hj=> ?_,by rw[hc];exact⟨v,[],rfl,r1,rfl⟩⟩
 split at h3
 ·rename_i cs' ty fr hh
  cases h3
  simp only[World.cell?,hh,Nat.zero_add]
  simpa using hj
 ·cases h3
theorem lN{W:World}{l:List (String×DataW Unit)}(hL:laidMet P l W){n:String}{d:DataW Unit}{ds:List (DataW Unit)}{cs1:List AV}{g:Nat}{t e:TypeId}{m:Nat}(hm:(n,d)∈l)(hg:P.globalNamed n=some g)(ht:(P.globals[g]?).map (·.type)=some t)
  (hu:P.underlying t=some (.array m e)) (hc:P.cellsOf e=1) (hct:P.cellsOf t=m) (hd:d= .agg ds) (ha:qT eT ds=some cs1):
  g<W.heap.size∧cs1.all scal=true∧ ∃vs,En W g 0 vs∧B0 ⟨fun _=>⟨0,0,0⟩,[],W⟩ cs1 vs:=by
 obtain⟨ps,hv,_,_⟩:=hL
 obtain⟨g',t',cs,fuel,p,h1,h2,h3,h4⟩:=Wt hv hm
 rw[hg]at h1;cases h1
 rw[ht]at h2;cases h2
 subst hd
 obtain⟨r1,r2⟩:=yK (C:=⟨fun _=>⟨0,0,0⟩,[],W⟩) hu hc hct h4 ha
 simp only[World.var?,hg,Option.bind_some]at h3
 have hlt:g<W.heap.size:=by
  rcases Nat.lt_or_ge g W.heap.size with h|h
  ·exact h
  ·rw[Array.getElem?_eq_none h]at h3;cases h3
 refine⟨hlt,r2,cs.toList,fun j v hj=> ?_,r1⟩
 split at h3
 ·rename_i cs' ty fr hh
  cases h3
  simp only[World.cell?,hh,Nat.zero_add]
  simpa using hj
 ·cases h3
end
end Go.Proofs.YtobejhpigbllpaaGreatDoor.Am
namespace Go.Proofs.YtobejhpigbllpaaGreatDoor.Am
def mY(P:Program)(t:TypeId)(u:T)(I:u.α→Prop):Prop:= ∀n cs,I1 P n t cs→ ∃x,u.R (fun _=>False) [] cs x∧I x
section
variable{P:Program}{t e:TypeId}
theorem xS(hu:P.underlying t=some .string):mY P t Ak fun _=>True:=by
 intro n cs h
 cases n with
 |zero=>exact h.elim
 |succ n=>
  simp only[I1,hu]at h
  obtain⟨x,rfl⟩:=h
  exact⟨x,rfl,trivial⟩
end
theorem nL{P:Program}{n:Nat}{t:TypeId}{u:T}{I:u.α→Prop}{v:AV}(ha:GQ P t=u.agg)(h:mY P t u I)(k:TJ P n t v): ∃x,u.V (fun _=>False) [] v x∧I x:=by
 unfold TJ at k
 cases hu:u.agg with
 |true=>
  rw[ha,hu,if_pos rfl]at k
  obtain⟨cs,rfl,k⟩:=k
  obtain⟨x,r,i⟩:=h n cs k
  exact⟨x, .inl ⟨hu,cs,rfl,r⟩,i⟩
 |false=>
  rw[ha,hu,if_neg (by simp)]at k
  obtain⟨x,r,i⟩:=h n [v] k
  exact⟨x, .inr ⟨hu,r⟩,i⟩
def Tys(P:Program):List TypeId→(us:List T)→(CG us→Prop)→Prop
 |[],[],_=>True
 |[t],[u],I=>GQ P t=u.agg∧mY P t u I
 |t::t'::ts,u::u'::us,I=> ∃(J:u.α→Prop) (K:CG (u'::us)→Prop),(GQ P t=u.agg∧mY P t u J)∧Tys P (t'::ts) (u'::us) K∧ ∀x y,J x→K y→I (x,y)
 |_,_,_=>False
theorem Tys.one{P:Program}{t:TypeId}{u:T}{I:u.α→Prop}(ha:GQ P t=u.agg)(h:mY P t u I):Tys P [t] [u] I:=⟨ha,h⟩
theorem dB{P:Program}{n:Nat}: ∀{ts:List TypeId} {us:List T} {I:CG us→Prop} {xs:List AV},(us=[]→ ∀x,I x)→Tys P ts us I→Qq P n ts xs→ ∃a:CG us,R8 (fun _=>False) [] us xs a∧I a
 |[],[],_,xs,h0,_,h=>⟨(),h,h0 rfl ()⟩
 |[t],[u],I,xs,_,hT,⟨x,r,e,h,k⟩=>by
  obtain rfl:r=[]:=k
  obtain⟨a,h1,h2⟩:=nL hT.1 hT.2 h
  exact⟨a,⟨x,e,h1⟩,h2⟩
 |t::t'::ts,u::u'::us,I,xs,_,⟨J,K,hT,hR,hI⟩,⟨x,r,e,h,k⟩=>by
  obtain⟨a,h1,h2⟩:=nL hT.1 hT.2 h
  obtain⟨b,h3,h4⟩:=dB (fun e=>by cases e) hR k
  exact⟨(a,b),⟨x,r,e,h1,h3⟩,hI a b h2 h4⟩
 |[],_::_,_,_,_,h,_=>h.elim
 |_::_,[],_,_,_,h,_=>by cases ‹List TypeId› <;>exact h.elim
 |[_],_::_::_,_,_,_,h,_=>h.elim
 |_::_::_,[_],_,_,_,h,_=>h.elim
theorem xT{P:Program}{tb:Dh}{g n:Nat}{ts:List TypeId}{As:List T}{F:CG As→Option Bool}{I:CG As→Prop}(S:Spec tb g As [T.b] F)(hp:tb.prim g=none)(h0:As=[]→ ∀x,I x)(hT:Tys P ts As I)(hF: ∀a,I a→F a=some true)
  {xs:List AV} (h:Qq P n ts xs): ∃h,C5 tb g xs []=some (.b true,h):=by
 obtain⟨a,ha,hi⟩:=dB h0 hT h
 obtain⟨v,u,hc,_,vs,hv,w,hw,hb⟩:=(S (fun _=>False) [] xs a (fun _ h=>h.elim) (by simp[Ds]) ha true (hF a hi)).call
 simp only[B8,hp]at hc
 obtain rfl:w= .b true:=F3.1 hb
 subst hw
 exact⟨u,by rw[hc,hv];rfl⟩
end Go.Proofs.YtobejhpigbllpaaGreatDoor.Am
namespace Go.Proofs.YtobejhpigbllpaaGreatDoor.Am
abbrev Vn:Nat→Prop:=fun _=>False
def Ml(t:T):T where
 α:=t.α
 sz:=t.sz
 agg:=t.agg
 dep:=t.dep
 R:=fun _ H cs x=>t.R Vn H cs x
 zc:=t.zc
 z:=t.z
 hz:=fun _ H=>t.hz _ H
 one:=t.one
 len:=t.len
 sca:=t.sca
 men:=fun h _=>t.men h fun _ hi=>hi.elim
 mono:=fun _ h=>t.mono (fun _ hi=>hi.elim) h
 cut:=fun h a b _=>t.cut h a b fun _ hi=>hi.elim
 frz:=fun h a b c _=>t.frz (Q:=Vn) h a b c fun _ hi=>hi.elim
def T.Un0(t:T):Prop:= ∀{H G:Ay} {cs ds:List AV} {x:t.α},t.R Vn H cs x→t.R Vn G ds x→cs=ds
theorem Qr{t:T}(h:t.Uni):t.Un0:=fun r r'=>h r r'
theorem iY{t:T}(h:t.Un0):(Ml t).Uni:=fun r r'=>h r r'
theorem jG{t:T}(h:t.Un0){H G:Ay}: ∀{c d:List (List AV)} {x:List t.α},CT t Vn H c x→CT t Vn G d x→c=d
 |[],[],[],_,_=>rfl
 |_::_,_::_,_::_,h1,h2=>by rw[h h1.1 h2.1,jG h h1.2 h2.2]
 |[],_::_,[],_,h2=>h2.elim
 |_::_,_,[],h1,_=>h1.elim
 |[],_,_::_,h1,_=>h1.elim
 |_::_,[],_::_,_,h2=>h2.elim
theorem AaV{t:T}(h:t.Un0){H G:Ay}{v w:AV}: ∀{g:GS t.α},Qs t Vn H v g→Qs t Vn G w g→v=w
 | .nil,e,e'=>e.trans e'.symm
 | .mk l,⟨b,els,e,r⟩,⟨b',els',e',r'⟩=>by
  cases v<;>first|exact(show False from b).elim|skip
  case sl sz l1=>
   cases w<;>first|exact(show False from b').elim|skip
   case sl sz' l2=>
    simp only[ER]at e e'
    split at e
    ·split at e'
     ·rename_i h1 h2
      cases e;cases e'
      rw[jG h r r']
      subst h1 h2
      rfl
     ·cases e'
    ·cases e
theorem T.Un0.sl{t:T}(h:t.Un0):(T.sl t).Un0:=by
 rintro H G cs ds x ⟨v,e,r⟩ ⟨w,e',r'⟩
 rw[e,e',AaV h r r']
def T.NP(t:T):Prop:= ∀{P:Nat→Prop} {H:Ay} {cs:List AV} {x:t.α},t.R P H cs x→t.R Vn H cs x
theorem CA{α:Type}{c:α→AV}{z:α}{hs hm}:(SI α c z hs hm).NP:=fun h=>h
theorem T.NP.V{t:T}(h:t.NP){P:Nat→Prop}{H:Ay}{v:AV}{x:t.α}(r:t.V P H v x):t.V Vn H v x:=by
 rcases r with ⟨a,cs,e,r⟩|⟨a,r⟩
 ·exact .inl ⟨a,cs,e,h r⟩
 ·exact .inr ⟨a,h r⟩
theorem iX{t:T}{P:Nat→Prop}{H:Ay}{v:AV}{x:t.α}(r:(Ml t).V P H v x):t.V P H v x:=by
 rcases r with ⟨a,cs,e,r⟩|⟨a,r⟩
 ·exact .inl ⟨a,cs,e,t.mono (fun _ hi=>hi.elim) (show t.R Vn H cs x from r)⟩
 ·exact .inr ⟨a,t.mono (fun _ hi=>hi.elim) (show t.R Vn H [v] x from r)⟩
theorem X1{t:T}{P:Nat→Prop}{H:Ay}{v:AV}{x:t.α}(r:t.V Vn H v x):(Ml t).V P H v x:=by
 rcases r with ⟨a,cs,e,r⟩|⟨a,r⟩
 ·exact .inl ⟨a,cs,e,r⟩
 ·exact .inr ⟨a,r⟩
section
variable{tb:Dh}{Γ:Cx}
theorem Dp{a:AO}{t:T}{x:t.α}(h:Cq tb Γ a (.val (Ml t) x)):Cq tb Γ a (.val t x):=fun E rv fp f H I=>iX (h E rv fp f H I)
end
theorem jZ{Γ:Cx}{n:Nat}{t:T}{x:t.α}(h:BG Γ.ts n=some (.val (Ml t) x)):sL Γ (.tmp n) t x:=by
 intro E rv fp f H I r vs hr
 exact⟨_,by simp[results,hr],iX (I.temps n _ h)⟩
theorem NE{tb:Dh}{Γ:Cx}{a:AO}{t:T}(h:Cq tb Γ a (.val (T.sl t) .nil)):Cq tb Γ a (.val (Ml (T.sl t)) .nil):=fun E rv fp f H I=>by
 have:=IP.1 (h E rv fp f H I)
 exact X1 (IP.2 this)
noncomputable def adr(t:T)(x:t.α):AV:=open Classical in if h: ∃cs,t.R Vn [] cs x then .ip h.choose 0 else .agg []
theorem mU{t:T}(hu:t.Un0){H:Ay}{cs:List AV}{x:t.α}(h:t.R Vn H cs x):adr t x= .ip cs 0:=by
 have h0:t.R Vn [] cs x:=t.mono (fun _ hi=>hi.elim) h
 have he: ∃cs,t.R Vn [] cs x:=⟨cs,h0⟩
 simp only[adr,dif_pos he]
 rw[hu he.choose_spec h0]
theorem AaU{t:T}{x:t.α}(h:scal (adr t x)=true): ∃cs,adr t x= .ip cs 0∧t.R Vn [] cs x:=by
 by_cases he: ∃cs,t.R Vn [] cs x
 ·exact⟨he.choose,by simp only[adr,dif_pos he],he.choose_spec⟩
 ·simp only[adr,dif_neg he]at h
  cases h
section
variable{tb:Dh}{Γ:Cx}{a b:AO}
theorem vZ{t:T}{g:GS t.α}{k:IntKind}{i:Int}{sz:Nat}(hu:t.Un0)(hs:sz=t.sz)(ha:Cq tb Γ a (.val (Ml (T.sl t)) g))(hb:Cq tb Γ b (.val (T.int k) i)):EY tb Γ (.ias sz a b) (DC g.l i) fun x=> .con (adr t x):=by
 intro E rv fp f H R x hx
 simp only[DC]at hx
 split at hx
 ·rename_i h0
  have hv:Qs t Vn H (eval tb f a) g:=by
   rcases ha E rv fp f H R with ⟨h,_⟩|⟨_,h⟩
   ·cases h
   ·obtain⟨v,e,h⟩: ∃v,[eval tb f a]=[v]∧Qs t Vn H v g:=h
    cases e;exact h
  cases g with
  |nil=>simp[GS.l]at hx
  |mk l=>
   obtain⟨bp,els,he,r⟩:=hv
   generalize hv0:eval tb f a=v at bp he
   cases v<;>simp only[Ll]at bp
   ·rename_i sz' els'
    simp only[ER]at he
    split at he
    ·rename_i hsz
     simp only[Option.some.injEq]at he
     subst he
     subst hsz hs
     obtain⟨cs,hc,hr⟩:=r.get hx
     have hlt:i.toNat<els'.length:=by
      rcases Nat.lt_or_ge i.toNat els'.length with h|h
      ·exact h
      ·rw[List.getElem?_eq_none h]at hc;cases hc
     refine⟨.ip cs 0,none,?_,rfl,?_⟩
     ·simp only[B6,BY.1 (hb E rv fp f H R),Io,Option.bind_some,if_pos h0,QP,hv0,ER,if_true,hlt,hc,Option.map_some,val]
     ·refine⟨(mU hu hr).symm,?_,?_⟩
      ·rw[mU hu hr]
       have:=t.men (m:=0) hr (fun _ hi=>hi.elim)
       simp only[BR];omega
      ·rw[mU hu hr];rfl
    ·cases he
   all_goals exact bp.elim
 ·cases hx
theorem h_ldP{t:T}{x:t.α}{ag:Bool}{n:Nat}(hag:ag=t.agg)(hn:n=t.sz)(ha:Cq tb Γ a (.con (adr t x))):EY tb Γ (.ld ag n a) (some ()) fun _=> .val t x:=by
 rintro E rv fp f H R z ⟨⟩
 obtain⟨e,_,hs⟩:=ha E rv fp f H R
 obtain⟨cs,h1,h2⟩:=AaU hs
 subst hag hn
 obtain⟨v,g1,g2⟩:=T.V.of h2
 have hl:=t.len h2
 have hsub:sub cs 0 t.sz=cs:=by simp only[sub,List.drop_zero];exact List.take_of_length_le (by omega)
 refine⟨v,none,?_,rfl,g2.mono fun _ hi=>hi.elim⟩
 simp only[B6,e,h1,load,place,Option.bind_some,Nat.zero_add,hl,Nat.le_refl,if_true,hsub,g1,val,Option.map_some]
end
def NPs:List T→Prop
 |[]=>True
 |t::l=>t.NP∧NPs l
theorem R8.np{P:Nat→Prop}{H:Ay}: ∀{l:List T} {vs:List AV} {x:CG l},NPs l→R8 P H l vs x→R8 Vn H l vs x
 |[],_,_,_,h=>h
 |[_],_,_,n,⟨v,e,h⟩=>⟨v,e,T.NP.V n.1 h⟩
 |_::_::_,_,_,n,⟨v,w,e,h,r⟩=>⟨v,w,e,T.NP.V n.1 h,R8.np n.2 r⟩
theorem ND{tb:Dh}{g:Nat}{As:List T}{t:T}{F:CG As→Option (CG [t])}(n:NPs As)(sp:Spec tb g As [t] F):Spec tb g As [Ml t] F:=by
 intro P h args xs _ hwf hargs r hr
 obtain⟨v,u,h1,h2,vs,e,w,e2,h3⟩:=(sp Vn h args xs (fun _ hi=>hi.elim) hwf (hargs.np n) r hr).call
 exact⟨v,u,h1,h2,vs,e,w,e2,X1 h3⟩
theorem I2{tb:Dh}{g:Nat}{As:List T}{t u:T}{F:CG As→Option (CG [t,u])}(n:NPs As)(m:u.NP)(sp:Spec tb g As [t,u] F):Spec tb g As [Ml t,u] F:=by
 intro P h args xs _ hwf hargs r hr
 obtain⟨v,u',h1,h2,vs,e,w,w',e2,h3,h4⟩:=(sp Vn h args xs (fun _ hi=>hi.elim) hwf (hargs.np n) r hr).call
 exact⟨v,u',h1,h2,vs,e,w,w',e2,X1 h3,R8.mono (fun _ hi=>hi.elim) h4⟩
end Go.Proofs.YtobejhpigbllpaaGreatDoor.Am
section
set_option linter.unusedVariables false
set_option maxRecDepth 100000
set_option maxHeartbeats 4000000
namespace Go.Proofs.YtobejhpigbllpaaGreatDoor.Am
structure Bf where
 V:Int
 B:(Ar UInt8 16)
 deriving DecidableEq
def Aw:T:=X0 (Lj (T.int .i64) (T.arr 16 T.u8)) Bf (fun x=>(x.V,x.B)) (fun p=>⟨p.1,p.2⟩) (fun _=>rfl)
def Fa:AM Aw (T.int .i64) 0:=IC (KR (An _))
def GR:AM Aw (T.arr 16 T.u8) 1:=IC (E0 (An _))
def OA:=jF (g:=fun p=>⟨p.1,p.2⟩) (hfg:=fun _=>rfl) (Z8 (F5.int .i64) (F5.arr 16 F5.u8)) (fun(x y:Bf)=>inferInstance) (f:=fun x=>(x.V,x.B)) (by rintro⟨⟩ ⟨⟩ h;cases h;rfl)
structure AI where
 A:Bf
 Port:Int
 deriving DecidableEq
def At:T:=X0 (Lj Aw (T.int .i64)) AI (fun x=>(x.A,x.Port)) (fun p=>⟨p.1,p.2⟩) (fun _=>rfl)
def Fl:AM At Aw 0:=IC (KR (An _))
def ES:AM At (T.int .i64) 17:=IC (E0 (An _))
def HS:=jF (g:=fun p=>⟨p.1,p.2⟩) (hfg:=fun _=>rfl) (Z8 OA (F5.int .i64)) (fun(x y:AI)=>inferInstance) (f:=fun x=>(x.A,x.Port)) (by rintro⟨⟩ ⟨⟩ h;cases h;rfl)
structure Al where
 Kind:Int
 Bytes:(GS UInt8)
 To:AI
 Key:(Ar UInt8 32)
 Why:Int
 deriving DecidableEq
def Ae:T:=X0 (Lj (T.int .i64) (Lj (Ml (T.sl T.u8)) (Lj At (Lj (T.arr 32 T.u8) (T.int .i64))))) Al (fun x=>(x.Kind,x.Bytes,x.To,x.Key,x.Why)) (fun p=>⟨p.1,p.2.1,p.2.2.1,p.2.2.2.1,p.2.2.2.2⟩) (fun _=>rfl)
def AT:AM Ae (T.int .i64) 0:=IC (KR (An _))
def Bv:AM Ae (Ml (T.sl T.u8)) 1:=IC (E0 (KR (An _)))
def CP:AM Ae At 2:=IC (E0 (E0 (KR (An _))))
def Dq:AM Ae (T.arr 32 T.u8) 20:=IC (E0 (E0 (E0 (KR (An _)))))
def CO:AM Ae (T.int .i64) 52:=IC (E0 (E0 (E0 (E0 (An _)))))
structure A5 where
 g_:(Ar UInt16 8)
 n_:Int
 gap_:Int
 deriving DecidableEq
def A7:T:=X0 (Lj (T.arr 8 T.u16) (Lj (T.int .i64) (T.int .i64))) A5 (fun x=>(x.g_,x.n_,x.gap_)) (fun p=>⟨p.1,p.2.1,p.2.2⟩) (fun _=>rfl)
def Db:AM A7 (T.arr 8 T.u16) 0:=IC (KR (An _))
def AU:AM A7 (T.int .i64) 8:=IC (E0 (KR (An _)))
def CS:AM A7 (T.int .i64) 9:=IC (E0 (E0 (An _)))
abbrev Fx:AH:=[48,48,48,49,48,50,48,51,48,52,48,53,48,54,48,55,48,56,48,57,49,48,49,49,49,50,49,51,49,52,49,53,49,54,49,55,49,56,49,57,50,48,50,49,50,50,50,51,50,52,50,53,50,54,50,55,50,56,50,57,51,48,51,49,51,50,51,51,51,52,51,53,51,54,51,55,51,56,51,57,52,48,52,49,52,50,52,51,52,52,52,53,52,54,52,55,52,56,52,57,53,48,53,49,53,50,53,51,53,52,53,53,53,54,53,55,53,56,53,57,54,48,54,49,54,50,54,51,54,52,54,53,54,54,54,55,54,56,54,57,55,48,55,49,55,50,55,51,55,52,55,53,55,54,55,55,55,56,55,57,56,48,56,49,56,50,56,51,56,52,56,53,56,54,56,55,56,56,56,57,57,48,57,49,57,50,57,51,57,52,57,53,57,54,57,55,57,56,57,57]
abbrev str_1:AH:=[0,1,2,2,3,3,3,3,4,4,4,4,4,4,4,4,5,5,5,5,5,5,5,5,5,5,5,5,5,5,5,5,6,6,6,6,6,6,6,6,6,6,6,6,6,6,6,6,6,6,6,6,6,6,6,6,6,6,6,6,6,6,6,6,7,7,7,7,7,7,7,7,7,7,7,7,7,7,7,7,7,7,7,7,7,7,7,7,7,7,7,7,7,7,7,7,7,7,7,7,7,7,7,7,7,7,7,7,7,7,7,7,7,7,7,7,7,7,7,7,7,7,7,7,7,7,7,7,8,8,8,8,8,8,8,8,8,8,8,8,8,8,8,8,8,8,8,8,8,8,8,8,8,8,8,8,8,8,8,8,8,8,8,8,8,8,8,8,8,8,8,8,8,8,8,8,8,8,8,8,8,8,8,8,8,8,8,8,8,8,8,8,8,8,8,8,8,8,8,8,8,8,8,8,8,8,8,8,8,8,8,8,8,8,8,8,8,8,8,8,8,8,8,8,8,8,8,8,8,8,8,8,8,8,8,8,8,8,8,8,8,8,8,8,8,8,8,8,8,8,8,8,8,8,8,8]
end Go.Proofs.YtobejhpigbllpaaGreatDoor.Am
end
