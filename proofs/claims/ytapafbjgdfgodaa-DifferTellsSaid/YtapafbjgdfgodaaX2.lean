/-
  A call of the machine's is the model's.
  Functions that the machine takes as they are said: those that the model knows as entries of its own.
  Entries of the model's that the machine takes as they are said: a byte's place in bytes, how often it is there.
  What operations come to, on typed values: calls, equality, arrays.
  What operations come to, on typed values: pointers that are only read through.
  A text's runes, one behind another one.
  Regions whose order is drawn, where each operation that reads memory has one place.
  strings.Builder: what its methods come to, on a builder in memory of its own.
  strings.Builder: a builder in memory of its own as one thing, its bytes.
  Values that are kept: functions, structures with functions; calls whose code is walked in place.
  Calls whose code is walked in place.
  What operations come to, on kept values: rows of them, variables with parts, loops that are unrolled.
  Tests that wait for others, by cases; slices of arrays; literals of arrays; tables.
  Tests that wait inside regions whose order is drawn; tables; maps.
  Ways that meet again, each walked once: what comes behind them is told apart from them.
  strings.Builder's grow as a function that the machine takes as it is said.
  strings.Builder: room from the start.
  Variables in parts; what is cleared of a row.
  Slices of one's own cells that are handed on as they are; a slice as an array; tests that write.
  strconv.ParseUint(s, 10, 64) as a function that the machine takes as it is said.
  Functions that the machine takes as they are said, as typed ones.
  What a law is given, as the machine's values: a reading is a value of the type, all of it memory that nobody writes.
  A law's row, out of what the machine comes to.
  From the model's values to typed ones; a law that answers true.
  Values that lead to no memory: which value it is, is told by what it says.
  Structures, as Lean's and as types of the machine's. Printed by mkwalk.py.
  The functions: their numbers, their codes. Printed by mkwalk.py.
  Each code is the program's. Printed by mkwalk.py.
  Plain laws: numbers, pieces of lists, a text split at a byte.
-/
import Derived.Laws.Sem
import GoSem.Extern.Table
import Derived.Lib.Bytealg
import Derived.Lib.MakeNoZero
import Derived.Below
import Derived.Lib.ParseIntBCases
import Derived.Lib.Index
import Derived.ProofKit
import Derived.Deep.Slices
import Derived.DataReads
import Derived.Carry
import Derived.Test.YtapafbjgdfgodaaProg
import Derived.KernelRfl
import Derived.Test.YtapafbjgdfgodaaX1
namespace Go.Proofs.Ytapafbjgdfgodaa.Am
section
variable{T:Eu→Oper→Bool}{P:Program}{tb:Ce}{cl:Nat→List AV→A3→GU}{nt:Nat}
theorem LZ{D:Cy}(I:Inv tb D){n id:Nat}(hid:id<D.H.length)(h: ¬id<n): ¬(D.cut n).own (D.φ id).blk:=by
 rintro⟨j,hj,e⟩
 simp only[Cy.cut,List.length_take]at hj
 have:=I.inj j id (by omega) hid e
 omega
theorem RC{D:Cy}{n:Nat}{v:AV}{x:Value}(h:B8 v≤n)(r:DT D v x):DT (D.cut n) v x∧(scal v=true→scal v=true):=⟨r.cut h,fun h=>h⟩
def W8(D:Cy)(n:Nat)(F:AV→Option AV):Prop:= ∀(v v':AV) (x:Value),F v=some v'→DT D v x→DT (D.cut n) v' x∧(scal v=true→scal v'=true)
theorem G3{D:Cy}{n:Nat}{F:AV→Option AV}(hF:W8 D n F): ∀{l l':List AV} {xs:List Value},Cz F l=some l'→AW D l xs→AW (D.cut n) l' xs∧(l.all scal=true→l'.all scal=true)∧l'.length=l.length
 |[],_,_,h,r=>by
  simp only[Cz,Option.some.injEq]at h
  subst h
  exact⟨r,fun h=>h,rfl⟩
 |v::l,_,_,h,⟨x,q,e,r,rr⟩=>by
  simp only[Cz]at h
  obtain⟨v',hv,h⟩:=Option.bind_eq_some_iff.1 h
  obtain⟨l',hl,rfl⟩:=Option.map_eq_some_iff.1 h
  obtain⟨h1,h2⟩:=hF _ _ _ hv r
  obtain⟨h3,h4,h5⟩:=G3 hF hl rr
  refine⟨⟨x,q,e,h1,h3⟩,fun hs=> ?_,by simp[h5]⟩
  simp only[List.all_cons,Bool.and_eq_true]at hs ⊢
  exact⟨h2 hs.1,h4 hs.2⟩
theorem Ig{D:Cy}{n sz:Nat}{F:AV→Option AV}(hF:W8 D n F): ∀{l l':List (List AV)} {xs:List (List Value)},Cz (Cz F) l=some l'→AS D l xs→(∀e∈l,e.length=sz∧e.all scal=true)→
  AS (D.cut n) l' xs∧(∀e∈l',e.length=sz∧e.all scal=true)∧l'.length=l.length
 |[],_,_,h,r,_=>by
  simp only[Cz,Option.some.injEq]at h
  subst h
  exact⟨r,fun e h=>(by cases h),rfl⟩
 |v::l,_,_,h,⟨x,q,e,r,rr⟩,hs=>by
  simp only[Cz]at h
  obtain⟨v',hv,h⟩:=Option.bind_eq_some_iff.1 h
  obtain⟨l',hl,rfl⟩:=Option.map_eq_some_iff.1 h
  obtain⟨h1,h2,h6⟩:=G3 hF hv r
  obtain⟨h3,h4,h5⟩:=Ig hF hl rr fun e he=>hs e (List.mem_cons_of_mem _ he)
  refine⟨⟨x,q,e,h1,h3⟩,fun e he=> ?_,by simp[h5]⟩
  have h0:=hs v List.mem_cons_self
  rcases List.mem_cons.1 he with rfl|he
  ·exact⟨h6.trans h0.1,h2 h0.2⟩
  ·exact h4 e he
theorem Qw{D:Cy}(I:Inv tb D){n:Nat}: ∀d,W8 D n (frz D.H n d)
 |0=>fun v v' x h r=>by
  simp only[frz]at h
  split at h
  ·rename_i hm
   obtain rfl:=Option.some.inj h
   exact RC hm r
  ·cases h
 |d+1=>fun v v' x h r=>by
  simp only[frz]at h
  split at h
  ·rename_i hm
   obtain rfl:=Option.some.inj h
   exact RC hm r
  ·rename_i hm
   have ih:=Qw I (n:=n) d
   split at h
   ·rename_i id k lo len
    have hid: ¬id<n:=by simp only[B8]at hm;omega
    obtain⟨_,fz,sz,els,hg,hle,q⟩:=r
    simp only[hg,Option.bind_some]at h
    split at h
    ·rename_i hc
     obtain⟨hk,hlo⟩:=hc
     obtain⟨els',he,rfl⟩:=Option.map_eq_some_iff.1 h
     refine⟨?_,fun _=>rfl⟩
     obtain⟨_,off,cap,rfl,hlc,hoff,_,_⟩:=q hk
     obtain⟨tl,hg',hlab⟩:=FG hg
     obtain⟨vss,arr,et,fr,⟨h1,_⟩,h2,h3,h4,h5,h6,h7,h8,h9⟩:=I.obj id _ hg'
     have hlens:=AS.lens (fun x hx=>(h4 x hx).1) h5
     have hlen:((els.drop lo).take len).length=len:=by simp only[List.length_take,List.length_drop];omega
     obtain⟨q1,q2,q3⟩:=Ig (sz:=sz) ih he (h5.drop.take) fun e he=>h4 e (List.mem_of_mem_drop (List.mem_of_mem_take he))
     refine .inl ⟨(D.φ id).blk,off,cap,(vss.drop lo).take len,by rw[q3,hlen],by rw[q3,hlen];exact hlc,I.lt id (Bj hg'),LZ I (Bj hg') hid,?_,q2,q1⟩
     intro j v hj
     have hpos:0<len:=by
      rcases Nat.eq_zero_or_pos len with h|h
      ·subst h;simp at hj
      ·exact h
     rw[hoff hpos]
     have hh:=h7.sub (lo*sz) (len*sz)
     refine hh j v ?_
     rw[CU (sz:=sz) _ _ (fun x hx=>hlens x (List.mem_of_mem_drop hx)),Dl (sz:=sz) _ _ hlens]at hj
     exact hj
    ·cases h
   ·rename_i sz id off len
    have hid: ¬id<n:=by simp only[B8]at hm;omega
    obtain⟨_,o,cap,rfl,hlc,hoff,hsz⟩:=r
    obtain⟨cs,hc,h⟩:=Option.bind_eq_some_iff.1 h
    split at h
    ·rename_i hcond
     obtain⟨els',he,rfl⟩:=Option.map_eq_some_iff.1 h
     refine⟨?_,fun _=>rfl⟩
     obtain⟨tl,hg,hlab⟩:=LJ hc
     obtain⟨vs,arr,et,fr,⟨h1,_⟩,h2,h3,h4,h5,h6⟩:=I.obj id _ hg
     obtain⟨c1,c2,vss,c3,c4⟩:=Mm (C:=D) sz len (cs.drop off) (vs.drop off) D.w (D.φ id).blk off (by
      simp only[List.all_eq_true]at h3 ⊢
      exact fun x hx=>h3 x (List.mem_of_mem_drop hx)) h4.drop (by
      have:=h5.sub off (vs.drop off).length
      rw[Nat.zero_add]at this
      rwa [List.take_of_length_le (Nat.le_refl _)]at this) (by simp only[List.length_drop];omega)
     obtain⟨q1,q2,q3⟩:=Ig (sz:=sz) ih he c4 c2
     refine .inl ⟨(D.φ id).blk,o,cap,vss,by rw[q3,c1],by rw[q3,c1];exact hlc,I.lt id (Bj hg),LZ I (Bj hg) hid,?_,q2,q1⟩
     intro j v hj
     have hpos:0<len:=by
      rcases Nat.eq_zero_or_pos len with h|h
      ·subst h
       simp only[B6]at c4
       rw[show vss=[]from c4]at hj
       simp at hj
      ·exact h
     rw[hoff hpos]
     exact c3 j v hj
    ·cases h
   ·rename_i sz els
    obtain⟨els',he,rfl⟩:=Option.map_eq_some_iff.1 h
    refine⟨?_,fun _=>rfl⟩
    rcases r with ⟨b,base,cap,vss,rfl,hlc,hlt,hown,hh,hs,hr⟩|⟨rfl,p,cap,rfl⟩
    ·obtain⟨q1,q2,q3⟩:=Ig (sz:=sz) ih he hr hs
     exact .inl ⟨b,base,cap,vss,by rw[q3],by rw[q3];exact hlc,hlt,J5 hown,hh,q2,q1⟩
    ·simp only[Cz,Option.some.injEq]at he
     subst he
     exact .inr ⟨rfl,p,cap,rfl⟩
   ·rename_i cs
    obtain⟨vs,e,s,q⟩:=r
    obtain⟨cs',hc,rfl⟩:=Option.map_eq_some_iff.1 h
    obtain⟨h1,h2,_⟩:=G3 ih hc q
    exact⟨⟨vs,e,h2 s,h1⟩,fun h=>by simp[scal]at h⟩
   ·rename_i cs
    obtain⟨vs,e,q⟩:=r
    obtain⟨cs',hc,rfl⟩:=Option.map_eq_some_iff.1 h
    exact⟨⟨vs,e,(G3 ih hc q).1⟩,fun h=>by simp[scal]at h⟩
   ·cases h
theorem VT{D:Cy}(I:Inv tb D){n:Nat}{l l':List AV}{xs:List Value}(h:VU D.H n l=some l')(r:AW D l xs):AW (D.cut n) l' xs∧(l.all scal=true→l'.all scal=true):=
 ⟨(G3 (Qw I 12) h r).1,(G3 (Qw I 12) h r).2.1⟩
theorem Rn{C D:Cy}(X:Gd C D)(I:Inv tb D)(hg: ∀g cs,tb.gl g=some cs→Bl cs=0){vs:List AV}{xs:List Value}(h:AW D vs xs):
  ∃D':Cy,Gd C D'∧Inv tb D'∧D'.w=D.w∧D'.H=(Ro C.H.length D.H vs).2.getD C.H∧DT D' (Ro C.H.length D.H vs).1 (QZ xs):=by
 unfold Ro
 split
 ·rename_i vs' hf
  split
  ·rename_i hm
   exact⟨D.cut C.H.length,X.cut (Nat.le_refl _),I.cut hm hg,rfl,rfl,Ic (VT I hf h).1⟩
  ·exact⟨D,X,I,rfl,rfl,Ic h⟩
 ·exact⟨D,X,I,rfl,rfl,Ic h⟩
theorem S4{C D:Cy}(X:Gd C D)(I:Inv tb D)(hg: ∀g cs,tb.gl g=some cs→Bl cs=0){warm:Bool}{vs:List AV}{xs:List Value}(h:AW D vs xs):
  ∃D':Cy,Gd C D'∧Inv tb D'∧D'.w=D.w∧D'.H=(S5 warm C.H.length D.H vs).2.getD C.H∧DT D' (S5 warm C.H.length D.H vs).1 (QZ xs):=by
 cases warm
 ·exact Rn X I hg h
 ·exact⟨D,X,I,rfl,rfl,Ic h⟩
theorem RB: ∀(l:List AV) (k t:Nat),get ((l.zipIdx k).map fun p=>(p.2,p.1)) t=if k≤t then l[t-k]?.getD .junk else .junk
 |[],k,t=>by simp[get]
 |v::l,k,t=>by
  simp only[List.zipIdx_cons,List.map_cons,get]
  rw[RB l (k+1) t]
  by_cases h:k=t
  ·subst h;simp
  ·rw[if_neg h]
   by_cases h1:k≤t
   ·rw[if_pos (show k+1≤t by omega),if_pos h1,show t-k=(t-(k+1))+1 by omega]
    simp
   ·rw[if_neg (by omega),if_neg h1]
theorem Xt{C:Cy}{args:List AV}{vs:List Value}(h:AW C args vs){m:Nat}(hm:args.length≤m):
  Bx C (args.zipIdx.map fun p=>(p.2,p.1)) {tmps:=vs.toArray++Array.replicate (m-vs.toArray.size) undef,defers:=[]} m:=by
 have hl:=h.length
 refine⟨fun t=> ?_,by simp;omega,rfl⟩
 rw[RB,if_pos (Nat.zero_le _),Nat.sub_zero]
 cases ht:args[t]? with
 |none=>trivial
 |some v=>
  obtain⟨x,hx,r⟩:=h.get ht
  have:t<vs.length:=Bj hx
  simp only[Option.getD_some,Array.getD_eq_getD_getElem?]
  rw[Array.getElem?_append_left (by simpa using this)]
  simpa [hx]using r
theorem Pk{fn:EP}{g:Nat}(h:C8 T P fn g=true): ∃(F:Func) (c:Code),P.funcs[g]? =some F∧F.body=some c∧Kp T fn.nt fn.body c=true∧(F.name== "runtime.NumGoroutine")=false∧fn.nt=F.ntmps∧fn.np≤fn.nt∧
  IQ P fn.res F.results.toList=true:=by
 unfold C8 at h
 split at h
 ·rename_i F hF
  simp only[Bool.and_eq_true,Bool.not_eq_true',beq_iff_eq,decide_eq_true_eq]at h
  obtain⟨⟨⟨⟨h1,h2⟩,h3⟩,h4⟩,h5⟩:=h
  split at h1
  ·rename_i c hc
   exact⟨F,c,hF,hc,h1,h2,h3,h4,h5⟩
  ·cases h1
 ·cases h
theorem Oi(hm:P.follows .mixedOrders=true)(hT: ∀ao o,T ao o=true→Dx P tb ao o)(hcl:E9 P tb fun g args h=>C2 tb cl h g args)(hg: ∀g cs,tb.gl g=some cs→Bl cs=0)
  {fn:EP} {g:Nat} (hok:C8 T P fn g=true) {C:Cy} {args:List AV} {vs:List Value} {r:AV×Option A3} (I:Inv tb C) (hr:AW C args vs) (h:body tb cl fn args C.H=some r):
  Calls P g vs.toArray C.w (Ua tb C r):=by
 obtain⟨F,c,hF,hc,h1,h2,h3,h4,h5⟩:=Pk hok
 simp only[body]at h
 split at h
 ·rename_i hnp
  obtain⟨⟨e,f,h'⟩,he,h⟩:=Option.bind_eq_some_iff.1 h
  refine calls_of_wp hF hc ?_
  rw[←h3]
  refine Tf hm hT hcl hg fn.body c h1 he I (Xt hr (by omega)) fun D a' N=> ?_
  obtain⟨X,ID,hH,FD⟩:=N
  have fin: ∀us,results f h' fn.res=some us→S5 fn.warm C.H.length h' us=r→ ∃v,(Go.results F a'.tmps).run P D.w= .ok v D.w∧Ua tb C r (.returned v) D.w:=by
   intro us hus hl
   rw[←hH]at hus hl
   obtain⟨xs,hx,rx⟩:=QT ID FD h5 hus
   obtain⟨D',X',I',hw,hH',r'⟩:=S4 (warm:=fn.warm) X ID hg rx
   rw[hl]at hH' r'
   exact⟨_,hx,_,D',rfl,X',I',hw,hH',r'⟩
  cases e with
  |exit id=>simp at h
  |normal=>
   obtain⟨us,hus,hl⟩:=Option.map_eq_some_iff.1 h
   exact⟨FD.defers,fin us hus hl⟩
  |ret=>
   obtain⟨us,hus,hl⟩:=Option.map_eq_some_iff.1 h
   exact⟨FD.defers,fin us hus hl⟩
 ·cases h
structure XG(T:Eu→Oper→Bool)(P:Program)(tb:Ce):Prop where
 mixed:P.follows .mixedOrders=true
 ops: ∀ao o,T ao o=true→Dx P tb ao o
 prims:TX P tb
 gl: ∀g cs,tb.gl g=some cs→Bl cs=0
 fns: ∀g fn,tb.fns g=some fn→C8 T P fn g=true
theorem Sb{fn:EP}{g:Nat}(hok:C8 T P fn g=true)(vs:Array Value)(w:World):(callFunc g vs).run P w= .ok (.enter g vs) w:=by
 obtain⟨F,c,hF,hc,_,h2,_⟩:=Pk hok
 have h2': ¬F.name= "runtime.NumGoroutine" :=by simpa using h2
 simp[callFunc,hF,hc,h2']
theorem OZ(ft:XG T P tb): ∀n,E9 P tb (run tb n)
 |0=>fun g C args vs r I hr h=>by simp[run]at h
 |n+1=>fun g C args vs r I hr h=>by
  simp only[run]at h
  obtain⟨fn,hfn,h⟩:=Option.bind_eq_some_iff.1 h
  have hok:=ft.fns g fn hfn
  exact .inr ⟨g,vs.toArray,Sb hok _ _,Oi ft.mixed ft.ops (I8 ft.prims (OZ ft n)) ft.gl hok I hr h⟩
theorem UB(ft:XG T P tb){g:Nat}{C:Cy}{args:List AV}{vs:List Value}{r:AV×Option A3}(I:Inv tb C)(hr:AW C args vs)(h:CF tb g args C.H=some r):Calls P g vs.toArray C.w (Ua tb C r):=by
 unfold CF at h
 split at h
 ·generalize Classical.choose _=n at h
  cases n with
  |zero=>simp[run]at h
  |succ n=>
   simp only[run]at h
   obtain⟨fn,hfn,h⟩:=Option.bind_eq_some_iff.1 h
   exact Oi ft.mixed ft.ops (I8 ft.prims (OZ ft n)) ft.gl (ft.fns g fn hfn) I hr h
 ·cases h
end
end Go.Proofs.Ytapafbjgdfgodaa.Am
namespace Go.Proofs.Ytapafbjgdfgodaa.Am
def Xu(P:Program)(g:Nat):Option (Array Value→Sem Value):=
 match P.funcs[g]? with
 |some fn=>if !(fn.name== "runtime.NumGoroutine")&&fn.body.isNone&&(Extern.findNext fn).isNone then Extern.find fn else none
 |none=>none
def LM(h:A3):AV→Option (List UInt8)
 | .s l=>some l
 |v=>(Dg h 1 v).bind Fu
def IN:List AV→A3→Option (AV×Option A3)
 |[x,y],h=>(LM h x).bind fun a=>(LM h y).map fun b=>(.i .i64 (Extern.BytealgCompare.cmp ⟨a.toArray⟩ ⟨b.toArray⟩),none)
 |_,_=>none
section
variable{P:Program}{tb:Ce}{C:Cy}
theorem Xa{g:Nat}{e:Array Value→Sem Value}(he:Xu P g=some e){vs:Array Value}{v:Value}{w:World}(h:(e vs).run P w= .ok v w):(callFunc g vs).run P w= .ok (.value v) w:=by
 unfold Xu at he
 split at he
 ·rename_i fn hf
  split at he
  ·rename_i hc
   simp only[Bool.and_eq_true,Bool.not_eq_true',Option.isNone_iff_eq_none]at hc
   obtain⟨⟨h1,h2⟩,h3⟩:=hc
   have h2':fn.body.isNone=true:=by rw[h2];rfl
   simp only[callFunc,Sem.run_bind,run_program,Result.andThen_ok,hf,h1,Bool.false_eq_true,if_false,h2',if_true,run_mark,h3,he,h,Sem.run_pure]
  ·cases he
 ·cases he
theorem UI{e:List AV}{r:List (List AV)}{l:List UInt8}(h:Fu (e::r)=some l): ∃n q,e=[.i .u8 n]∧Fu r=some q∧l=UInt8.ofNat n.toNat::q:=by
 unfold Fu at h
 split at h
 ·rename_i he;cases he
 ·rename_i n r' he
  cases he
  obtain⟨q,hq,rfl⟩:=Option.map_eq_some_iff.1 h
  exact⟨n,q,rfl,hq,rfl⟩
 ·cases h
theorem Ve(w:World)(b:Nat): ∀(els:List (List AV)) (vss:List (List Value)) (l:List UInt8) (o:Nat) (acc:ByteArray),AS C els vss→Fu els=some l→CO w b o vss.flatten→
  (Extern.Bytes.loadBytes ⟨b,o,none⟩ els.length acc).run P w= .ok ⟨acc.data++l.toArray⟩ w
 |[],_,l,o,acc,_,h,_=>by
  simp only[Fu,Option.some.injEq]at h
  subst h
  simp[Extern.Bytes.loadBytes]
 |e::els,vss,l,o,acc,⟨v,q,e1,r1,r2⟩,h,hh=>by
  subst e1
  obtain⟨n,l',rfl,hl,rfl⟩:=UI h
  obtain⟨u,us,e2,ru,e3⟩:=r1
  have e3':us=[]:=e3
  have ru':u= .int .u8 n:=ru
  subst e3';subst e2;subst ru'
  have h0:w.cell? ⟨b,o,none⟩=some (.int .u8 n):=by
   have:=hh 0 (.int .u8 n) (by simp)
   simpa using this
  have hn:(⟨b,o,none⟩:Addr).add 1=⟨b,o+1,none⟩:=rfl
  have ih:=Ve w b els q l' (o+1) (acc.push n.toNat.toUInt8) r2 hl (fun j v hj=>by
   have:=hh (j+1) v (by simpa using hj)
   rw[show o+1+j=o+(j+1) by omega]
   exact this)
  simp only[List.length_cons,Extern.Bytes.loadBytes,Sem.run_bind,run_load,h0,Result.andThen_ok,hn,ih]
  congr 1
  apply ByteArray.ext
  simp[ByteArray.push,Nat.toUInt8]
theorem Pa(I:Inv tb C){x:AV}{v:Value}{l:List UInt8}(r:DT C x v)(h:LM C.H x=some l):(Extern.Bytes.bytesOf v).run P C.w= .ok ⟨l.toArray⟩ C.w:=by
 have slc:(Dg C.H 1 x).bind Fu=some l→(Extern.Bytes.bytesOf v).run P C.w= .ok ⟨l.toArray⟩ C.w:=by
  intro h
  obtain⟨els,he,hl⟩:=Option.bind_eq_some_iff.1 h
  rcases TM I (by omega) r he with ⟨rfl,e⟩|⟨q,cap,vss,e,hlc,hh,hs,hr⟩
  ·subst e
   simp only[Fu,Option.some.injEq]at hl
   subst hl
   rfl
  ·subst e
   by_cases hne:els=[]
   ·subst hne
    simp only[Fu,Option.some.injEq]at hl
    subst hl
    rfl
   ·obtain⟨b,base,rfl,hh2⟩:=hh hne
    have:=Ve (P:=P) (C:=C) C.w b els vss l base .empty hr hl hh2
    simp only[Extern.Bytes.bytesOf,this]
    congr 1
    apply ByteArray.ext
    show(#[]:Array UInt8)++l.toArray=l.toArray
    simp
 cases x<;>simp only[LM]at h<;>try exact slc h
 obtain rfl:=Option.some.inj h
 have e:v= .string ⟨_⟩:=r
 subst e
 rfl
theorem Qc{g:Nat}(he:Xu P g=some Extern.BytealgCompare.compare):E9 P tb fun g' args h=>if g'=g then IN args h else none:=by
 intro g' D args vs r I hr h
 dsimp only at h
 split at h
 ·rename_i hg
  subst hg
  unfold IN at h
  split at h
  ·rename_i x y h'
   obtain⟨v,vs',e1,r1,v2,vs2,e2,r2,e3⟩:=hr
   have e3':vs2=[]:=e3
   subst e3';subst e2;subst e1
   obtain⟨a,ha,h⟩:=Option.bind_eq_some_iff.1 h
   obtain⟨b,hb,rfl⟩:=Option.map_eq_some_iff.1 h
   refine .inl (A7 I (v:= .int .i64 (Extern.BytealgCompare.cmp ⟨a.toArray⟩ ⟨b.toArray⟩)) (Xa he ?_) rfl)
   change Sem.run P (do pure (goInt (Extern.BytealgCompare.cmp (←Extern.Bytes.bytesOf v) (←Extern.Bytes.bytesOf v2)))) D.w=_
   simp only[Sem.run_bind,Pa I r1 ha,Pa I r2 hb,Result.andThen_ok,Sem.run_pure,goInt]
  ·cases h
 ·cases h
end
end Go.Proofs.Ytapafbjgdfgodaa.Am
namespace Go.Proofs.Ytapafbjgdfgodaa.Am
section
variable{P:Program}{tb:Ce}
end
end Go.Proofs.Ytapafbjgdfgodaa.Am
namespace Go.Proofs.Ytapafbjgdfgodaa.Am
section
variable{tb:Ce}{Γ:Cx}{a b:AO}
inductive QG(tb:Ce)(Γ:Cx):(As:List T)→List AO→CP As→Prop where
 |nil:QG tb Γ [] [] ()
 |one {a:AO} {t:T} {x:t.α} (h:BB tb Γ a (.val t x)):QG tb Γ [t] [a] x
 |cons {a:AO} {t u:T} {x:t.α} {As:List T} {l:List AO} {y:CP (u::As)} (h:BB tb Γ a (.val t x)) (k:QG tb Γ (u::As) l y):QG tb Γ (t::u::As) (a::l) (x,y)
theorem QG.spec{E:JL}{rv:Nat→AV}{fp:Fp}{f:Fr}{H:A3}(R:Bn E Γ rv fp f H): ∀{As:List T} {l:List AO} {x:CP As},QG tb Γ As l x→MG (Pf E Γ.ss fp H) H As (l.map (eval tb f)) x
 |_,_,_, .nil=>rfl
 |_,_,_, .one h=>⟨_,rfl,h E rv fp f H R⟩
 |_,_,_, .cons h k=>⟨_,_,rfl,h E rv fp f H R,k.spec R⟩
def WF:(Rs:List T)→CP Rs→List (Σ t:T,t.α)
 |[],_=>[]
 |[a],x=>[⟨a,x⟩]
 |a::b::r,x=>⟨a,x.1⟩::WF (b::r) x.2
theorem QM{P:Nat→Prop}{H:A3}: ∀{Rs:List T} {vs:List AV} {x:CP Rs},MG P H Rs vs x→Lr P H vs (WF Rs x)
 |[],_,_,h=>by rw[show _=[]from h];trivial
 |[a],_,_,⟨v,e,h⟩=>by rw[e];exact⟨h,trivial⟩
 |a::b::r,_,_,⟨v,q,e,h,g⟩=>by rw[e];exact⟨h,QM g⟩
def Xe:(Rs:List T)→CP Rs→AI
 |[a],x=> .val a x
 |Rs,x=> .tup (WF Rs x)
theorem Rb{rv:Nat→AV}{ss:Ss}{P:Nat→Prop}{H:A3}{v:AV}: ∀{Rs:List T} {x:CP Rs},Z5 P H Rs v x→FR rv ss P H (Xe Rs x) v
 |[],_,⟨vs,e,h⟩=>by rw[e,show vs=[]from h];exact⟨[],rfl,trivial⟩
 |[a],_,⟨vs,e,v,e',h⟩=>by rw[e,e'];exact h
 |a::b::r,_,⟨vs,e,h⟩=>by
  have hh:=h
  obtain⟨v1,q,e1,h1,h2⟩:=h
  have: ∃v2 q2,q=v2::q2:=by
   cases r with
   |nil=>obtain⟨v2,e2,_⟩:=h2;exact⟨v2,[],e2⟩
   |cons c r=>obtain⟨v2,q2,e2,_⟩:=h2;exact⟨v2,q2,e2⟩
  obtain⟨v2,q2,e2⟩:=this
  refine⟨vs,?_,QM hh⟩
  rw[e,e1,e2];rfl
theorem VS{g:Nat}{As Rs:List T}{F:CP As→Option (CP Rs)}{l:List AO}{x:CP As}(sp:Spec tb g As Rs F)(hx:QG tb Γ As l x):El tb Γ (.call g l) (F x) fun r=>Xe Rs r:=by
 intro E rv fp f H R r hr
 obtain⟨v,u,h1,h2,h3⟩:=(sp (Pf E Γ.ss fp H) H _ x R.ltP R.wf (hx.spec R) r hr).call
 exact⟨v,u,by simp only[B7];exact h1,h2,Rb h3⟩
theorem AN{g:Nat}{As:List T}{t:T}{F:CP As→Option (CP [t])}{l:List AO}{x:CP As}(sp:Spec tb g As [t] F)(hx:QG tb Γ As l x):El tb Γ (.call g l) (F x) fun r:t.α=> .val t r:=VS sp hx
theorem TJ{g:Nat}{As:List T}{t u:T}{Rs:List T}{F:CP As→Option (CP (t::u::Rs))}{l:List AO}{x:CP As}(sp:Spec tb g As (t::u::Rs) F)(hx:QG tb Γ As l x):El tb Γ (.call g l) (F x) fun r=> .tup (WF (t::u::Rs) r):=VS sp hx
theorem Gh{l:List (Σ t:T,t.α)}{i:Nat}{t:T}{x:t.α}(ha:BB tb Γ a (.tup l))(h:l[i]? =some ⟨t,x⟩):El tb Γ (.ext a i) (some ()) fun _=> .val t x:=by
 rintro E rv fp f H R _ ⟨⟩
 obtain⟨vs,e,hv⟩:=ha E rv fp f H R
 have: ∀{vs:List AV} {l:List (Σ t:T,t.α)} {i:Nat} {p: Σ t:T,t.α},Lr (Pf E Γ.ss fp H) H vs l→l[i]? =some p→ ∃v,vs[i]? =some v∧p.1.V (Pf E Γ.ss fp H) H v p.2:=by
  intro vs
  induction vs with
  |nil=>intro l i p h e;cases l with|nil=>simp at e|cons=>exact h.elim
  |cons v vs ih=>
   intro l i p h e
   cases l with
   |nil=>exact h.elim
   |cons q l=>
    cases i with
    |zero=>simp only[List.getElem?_cons_zero,Option.some.injEq]at e;subst e;exact⟨v,rfl,h.1⟩
    |succ i=>simp only[List.getElem?_cons_succ]at e;obtain⟨w,h1,h2⟩:=ih h.2 e;exact⟨w,by simpa using h1,h2⟩
 obtain⟨v,h1,h2⟩:=this hv h
 exact⟨v,none,by simp only[B7,e,h1,val,Option.map_some],rfl,h2⟩
end
structure Bg(t:T)(l:List CK) where
 d:(x y:t.α)→Decidable (x=y)
 h: ∀{P Q:Nat→Prop} {H G:A3} {c c':List AV} {x y:t.α},t.R P H c x→t.R Q G c' y→G6 l c c'=some (@decide (x=y) (d x y))
theorem TL{l m:List CK}: ∀{c d c' d':List AV} {p q:Bool},G6 l c c'=some p→G6 m d d'=some q→G6 (l++m) (c++d) (c'++d')=some (p&&q):=by
 induction l with
 |nil=>
  intro c d c' d' p q h g
  match c,c',h with
  |[],[],h=>simp only[G6,Option.some.injEq]at h;subst h;simpa using g
 |cons k l ih=>
  intro c d c' d' p q h g
  match c,c',h with
  |[],[],h=>simp[G6]at h
  |[],_::_,h=>simp[G6]at h
  |_::_,[],h=>simp[G6]at h
  |x::c,y::c',h=>
   simp only[G6]at h
   obtain⟨e,he,h⟩:=Option.bind_eq_some_iff.1 h
   obtain⟨e',he',rfl⟩:=Option.map_eq_some_iff.1 h
   simp only[List.cons_append,G6,he,Option.bind_some,ih he' g,Option.map_some,Bool.and_assoc]
theorem TN{p q:Prop}{d:Decidable p}{e:Decidable q}(h:p↔q): @decide p d= @decide q e:=by
 rw[Bool.eq_iff_iff];simp only[decide_eq_true_eq];exact h
theorem YP{p:Prop}{d:Decidable p}{q:Bool}(h:q=true↔p):q= @decide p d:=by
 rw[Bool.eq_iff_iff];simp only[decide_eq_true_eq];exact h
def QF{α:Type}{c:α→AV}{z:α}{hs: ∀x,scal (c x)=true}{hm: ∀x,B8 (c x)=0}(k:CK)(d:(x y:α)→Decidable (x=y))(h: ∀x y,UR k (c x) (c y)=some (@decide (x=y) (d x y))):Bg (OR α c z hs hm) [k]:=
 ⟨d,fun{P Q H G c' d' x y} h1 h2=>by
  rw[show c'=_ from h1,show d'=_ from h2]
  show(UR k (c x) (c y)).bind (fun a=>(some true).map fun b=>a&&b)=_
  rw[h x y]
  simp only[Option.bind_some,Option.map_some,Bool.and_true]
  rfl⟩
def Bg.b:Bg T.b [.b]:=QF .b (fun x y=>inferInstance) fun x y=>by cases x<;>cases y<;>rfl
def Bg.int(k:IntKind):Bg (T.int k) [.i k]:=QF (.i k) (fun x y=>inferInstance) fun x y=>by simp only[UR,and_self,if_true];rfl
theorem YM{x y:Nat}:((x:Int)==(y:Int))=decide (x=y):=by
 rw[Bool.eq_iff_iff];simp only[beq_iff_eq,decide_eq_true_eq];omega
def Bg.u8:Bg T.u8 [.i .u8]:=QF (.i .u8) (fun x y=>inferInstance) fun x y=>by
 simp only[UR,and_self,if_true,YM];congr 1;exact TN UInt8.toNat_inj
def Bg.prod{s t:T}{l m:List CK}(p:Bg s l)(q:Bg t m):Bg (T.prod s t) (l++m):=
 ⟨fun x y=> @decidable_of_iff _ (x.1=y.1∧x.2=y.2) ⟨fun h=>Prod.ext h.1 h.2,fun h=>by rw[h];exact⟨rfl,rfl⟩⟩ (have:=p.d x.1 y.1;have:=q.d x.2 y.2;inferInstance),fun{P Q H G c c' x y} ⟨c1,d1,e1,h1,g1⟩ ⟨c2,d2,e2,h2,g2⟩=>by
  rw[e1,e2,TL (p.h h1 h2) (q.h g1 g2)]
  congr 1
  rw[Bool.eq_iff_iff]
  simp only[Bool.and_eq_true,decide_eq_true_eq]
  exact⟨fun h=>Prod.ext h.1 h.2,fun h=>by rw[h];exact⟨rfl,rfl⟩⟩⟩
def Bg.iso{t:T}{l:List CK}{β:Type}{f:β→t.α}{g:t.α→β}{hfg: ∀y,f (g y)=y}(p:Bg t l)(d:(x y:β)→Decidable (x=y))(hi: ∀x y,f x=f y→x=y):Bg (T.iso t β f g hfg) l:=
 ⟨d,fun{P Q H G c c' x y} h1 h2=>by
  have:=p.h (x:=f x) (y:=f y) h1 h2
  rw[this]
  congr 1
  exact TN ⟨hi x y,fun h=>by rw[h]⟩⟩
def Xb(l:List CK):Nat→List CK
 |0=>[]
 |n+1=>l++Xb l n
theorem Bg.all{t:T}{l:List CK}(p:Bg t l){P Q:Nat→Prop}{H G:A3}: ∀{c c':List (List AV)} {x y:List t.α},x.length=y.length→BE t P H c x→BE t Q G c' y→ ∃q,G6 (Xb l x.length) c.flatten c'.flatten=some q∧(q=true↔x=y):=by
 intro c
 induction c with
 |nil=>
  intro c' x y hl h1 h2
  match x,h1 with
  |[],_=>
   match c',y,h2,hl with
   |[],[],_,_=>exact⟨true,rfl,by simp⟩
   |_::_,_::_,_,hl=>simp at hl
 |cons a c ih=>
  intro c' x y hl h1 h2
  match x,h1 with
  |u::x,h1=>
   match c',y,h2 with
   |[],[],_=>simp at hl
   |a'::c',v::y,h2=>
    obtain⟨q,e,hq⟩:=ih (by simpa using hl) h1.2 h2.2
    refine⟨_,by rw[List.length_cons,Xb,List.flatten_cons,List.flatten_cons];exact TL (p.h h1.1 h2.1) e,?_⟩
    simp only[Bool.and_eq_true,decide_eq_true_eq,hq,List.cons.injEq]
def Ba{t:T}{l:List CK}(n:Nat)(p:Bg t l):Bg (A1 n t) (Xb l n):=
 ⟨fun(x y:Ar t.α n)=> @decidable_of_iff _ (x.l=y.l) ⟨fun h=>Ar.ext h,fun h=>by rw[h]⟩ (have:DecidableEq t.α:=p.d;inferInstance),fun{P Q H G c c' x y} ⟨cs,e,h⟩ ⟨ds,e',h'⟩=>by
  obtain⟨q,hq,hi⟩:=p.all (x.len.trans y.len.symm) h h'
  rw[x.len]at hq
  rw[e,e',hq]
  congr 1
  exact YP (hi.trans ⟨fun h=>Ar.ext h,fun h=>by rw[h]⟩)⟩
section
variable{tb:Ce}{Γ:Cx}{a b:AO}
theorem Fy{t:T}{l l':List CK}{x y:t.α}{neg:Bool}(p:Bg t l)(ht:t.agg=true)(hl:l'=l)(ha:BB tb Γ a (.val t x))(hb:BB tb Γ b (.val t y)):El tb Γ (.eq neg (.agg l') a b) (some (if neg then !(@decide (x=y) (p.d x y))else @decide (x=y) (p.d x y))) fun z=> .val T.b z:=by
 rintro E rv fp f H R z ⟨⟩
 subst hl
 rcases ha E rv fp f H R with ⟨_,c,e,r⟩|⟨e,_⟩
 ·rcases hb E rv fp f H R with ⟨_,c',e',r'⟩|⟨e',_⟩
  ·exact⟨_,none,by simp only[B7,e,e',NN,p.h r r',Option.map_some,val],rfl,F0.2 rfl⟩
  ·rw[ht]at e';cases e'
 ·rw[ht]at e;cases e
theorem I6{x y:Bool}{neg:Bool}(ha:BB tb Γ a (.val T.b x))(hb:BB tb Γ b (.val T.b y)):El tb Γ (.eq neg (.one .b) a b) (some (if neg then !decide (x=y)else decide (x=y))) fun z=> .val T.b z:=by
 rintro E rv fp f H R z ⟨⟩
 have h:UR .b (.b x) (.b y)=some (decide (x=y)):=by cases x<;>cases y<;>rfl
 exact⟨_,none,by simp only[B7,F0.1 (ha E rv fp f H R),F0.1 (hb E rv fp f H R),NN,h,Option.map_some,val],rfl,F0.2 rfl⟩
theorem XX{s t:T}{x:s.α}{y:t.α}{n j o o' m k N:Nat}{ps:List (Nat×AI)}(F:AB s (A1 n t) o')(hk:k=t.sz)(ha:BB tb Γ a (.cp j (o+m*t.sz)))(hb:BB tb Γ b (.val t y))(hj:AA Γ.ss j=some (.cells ps))(hp:EY ps o=some (N, .val s x,o')):
  Mr tb Γ none (.st k a b) (if m<n then some (F.put x ((F.get x).set m y))else none) fun x'=>Γ.setS j (.cells (Kl ps o (.val s x'))):=by
 intro E rv fp f H R x' hx'
 split at hx'
 ·rename_i hlt
  cases hx'
  obtain⟨l,id,e,hv⟩:=ha E rv fp f H R
  obtain⟨cs,h0,h2,h3⟩:=Fj R hj e
  obtain⟨b',c,e0,e1,e2,e3,e4,e5,e6⟩:=Dv h3 hp
  let G:=GR F (AB.at n t m hlt)
  have hle:=G.le
  have hl:=s.len e4
  have hy:=T.V.cells (hb E rv fp f H R)
  have hyl:=t.len hy
  have hput:=G.putR e4 hy
  have hpr:=e6 (o'+m*t.sz) (cellsOf (eval tb f b)) (.val s (G.put x y)) (by omega) hput
  rw[show b'+(o'+m*t.sz)=o+m*t.sz by omega]at hpr
  have hmen:=PR.men R.ltP R.rvlt h3
  have hym:=t.men hy R.ltP
  subst hk
  have hlt':=(R.fplt j id l ((h0 id).2 rfl)).1
  obtain⟨rv',fp',_,_,R'⟩:=R.set (j:=j) (S:= .cells (Kl ps o (.val s (G.put x y)))) (v:=rv j) (o:= .cells (CN H id) (Bm cs (o+m*t.sz) (cellsOf (eval tb f b)))) (by rw[hj];rfl) l h0 (by simp only[EA];exact Id hmen hym) rfl (R.rvlt j l) (.inl rfl) (R.scal j l) fun rv' fp' e1 e2 hP hs=>
   ⟨id,_,by rw[e1,e],e2,by simp[BD,hlt'],PR.mono hP (by simp) (fun p _=>hs p.2 (.inl rfl)) hpr⟩
  refine⟨.junk,some (H.set id (Ca.cells (CN H id) (Bm cs (o+m*t.sz) (cellsOf (eval tb f b))))),?_,rv',fp',R'⟩
  simp only[B7,hv,store,h2,Option.bind_some]
  rw[if_pos ⟨hyl,by omega⟩]
  rfl
 ·cases hx'
theorem FN{s t:T}{x:s.α}{n j o o' N m:Nat}{ag:Bool}{ps:List (Nat×AI)}(h:B4 Γ.ts n=some (.cp j o))(hj:AA Γ.ss j=some (.cells ps))(hp:EY ps o=some (N, .val s x,o'))(F:AB s t o')(hag:ag=t.agg)(hm:m=t.sz):XD Γ (.cell ag m n) t (F.get x):=by
 intro E rv fp f H R r vs hr
 obtain⟨v,u,h1,_,h3⟩:=Ax (tb:=⟨fun _=>none,fun _=>none,fun _=>none,[]⟩) (IE h) hj hp F hag hm E rv fp f H R () rfl
 refine⟨v,?_,h3⟩
 simp only[B7,eval,val]at h1
 obtain⟨w,hw,e⟩:=Option.map_eq_some_iff.1 h1
 cases e
 simp only[results,hw,Option.bind_some,hr,Option.map_some]
theorem W5{t:T}{zero:List (List AV)}{d t0 sz n:Nat}{ps:List (Nat×AO)}{l:List t.α}(j:Nat)(hs:sz=t.sz)(hz:zero=List.replicate n t.zc)(h:Sp tb Γ t ps (List.replicate n t.z) l)(hj:AA Γ.ss j=none):
  Mr tb Γ (some d) (.bls t0 sz zero ps) (some l) fun l=>⟨(d, .own j)::Γ.ts,(j, .row t (.mk l))::Γ.ss⟩:=by
 intro E rv fp f H R l' hl'
 cases hl'
 subst hz hs
 obtain⟨ds,h1,h2⟩:=h.spec R (BE.rep (t.hz _ _) n)
 have hm:=h2.men R.ltP
 obtain⟨rv',fp',g1,g2,g3⟩:=R.more (j:=j) (S:= .row t (.mk l)) (v:= .orow H.length ds.length 0 ds.length) (o:= .row (some t0) false t.sz ds) (ER hj) (by simp only[EA];omega) rfl (by simp[B8]) rfl fun rv' fp' e1 e2 hP hs=>
  ⟨_,ds,e1,e2,by simp[rowAt],h2.mono hP⟩
 exact⟨.orow H.length ds.length 0 ds.length,some (H++[Ca.row (some t0) false t.sz ds]),by simp only[B7,h1,Option.map_some],rv',fp',g3.push (φ:= .own j) ⟨g2,g1.symm⟩⟩
end
def look{α:Type}(n:Nat):List (Nat×α)→Option α
 |[]=>none
 |(k,v)::r=>if Nat.beq n k then some v else look n r
theorem Nx{α:Type}{n:Nat}{v:α}: ∀{l:List (Nat×α)},look n l=some v→(n,v)∈l
 |[],h=>by simp[look]at h
 |(k,u)::r,h=>by
  simp only[look]at h
  split at h
  ·rename_i e
   obtain rfl:=Option.some.inj h
   obtain rfl:=Nat.eq_of_beq_eq_true e
   exact List.mem_cons_self
  ·exact List.mem_cons_of_mem _ (Nx h)
end Go.Proofs.Ytapafbjgdfgodaa.Am
namespace Go.Proofs.Ytapafbjgdfgodaa.Am
section
variable{tb:Ce}{Γ:Cx}{a b:AO}
theorem LC{j o:Nat}(ha:BB tb Γ a (.cp j o)):El tb Γ (.nilc a) (some ()) fun _=> .cp j o:=by
 rintro E rv fp f H R z ⟨⟩
 obtain⟨l,id,e,hv⟩:=ha E rv fp f H R
 exact⟨.ptr id o,none,by simp only[B7,hv],rfl,l,id,e,rfl⟩
def T.Flat(t:T):Prop:= ∀{P Q:Nat→Prop} {H G:A3} {cs:List AV} {x:t.α},t.R P H cs x→t.R Q G cs x
theorem VX{k:IntKind}:(T.int k).Flat:=fun h=>h
theorem T.Flat.V{t:T}(h:t.Flat){P Q:Nat→Prop}{H G:A3}{v:AV}{x:t.α}(r:t.V P H v x):t.V Q G v x:=by
 rcases r with ⟨a,cs,e,r⟩|⟨a,r⟩
 ·exact .inl ⟨a,cs,e,h r⟩
 ·exact .inr ⟨a,h r⟩
inductive Ow:List T→Prop where
 |nil:Ow []
 |cons {t:T} {l:List T}:t.Flat→Ow l→Ow (t::l)
theorem MG.flat{P Q:Nat→Prop}{H G:A3}: ∀{l:List T} {vs:List AV} {x:CP l},Ow l→MG P H l vs x→MG Q G l vs x
 |[],_,_,_,h=>h
 |[a],_,_, .cons k _,⟨v,e,h⟩=>⟨v,e,k.V h⟩
 |_::_::_,_,_, .cons k l,⟨v,q,e,h,g⟩=>⟨v,q,e,k.V h,MG.flat l g⟩
def YV(tb:Ce)(Γ:Cx)(a:AO)(t:T)(x:t.α):Prop:= ∀E rv fp f H,Bn E Γ rv fp f H→t.V (fun i=>i<H.length) H (eval tb f a) x
inductive Sq(tb:Ce)(Γ:Cx):(As:List T)→List AO→CP As→Prop where
 |one {a:AO} {t:T} {x:t.α} (h:YV tb Γ a t x):Sq tb Γ [t] [a] x
 |cons {a:AO} {t u:T} {x:t.α} {As:List T} {l:List AO} {y:CP (u::As)} (h:YV tb Γ a t x) (k:Sq tb Γ (u::As) l y):Sq tb Γ (t::u::As) (a::l) (x,y)
theorem Sq.spec{E:JL}{rv:Nat→AV}{fp:Fp}{f:Fr}{H:A3}(R:Bn E Γ rv fp f H): ∀{As:List T} {l:List AO} {x:CP As},Sq tb Γ As l x→MG (fun i=>i<H.length) H As (l.map (eval tb f)) x
 |_,_,_, .one h=>⟨_,rfl,h E rv fp f H R⟩
 |_,_,_, .cons h k=>⟨_,_,rfl,h E rv fp f H R,k.spec R⟩
theorem Xs{g:Nat}{As Rs:List T}{F:CP As→Option (CP Rs)}{l:List AO}{x:CP As}(sp:Spec tb g As Rs F)(fl:Ow Rs)(hx:Sq tb Γ As l x):El tb Γ (.call g l) (F x) fun r=>Xe Rs r:=by
 intro E rv fp f H R r hr
 obtain⟨v,u,h1,h2,vs,h3,h4⟩:=(sp (fun i=>i<H.length) H _ x (fun _ h=>h) R.wf (hx.spec R) r hr).call
 exact⟨v,u,by simp only[B7];exact h1,h2,Rb ⟨vs,h3,h4.flat fl⟩⟩
end
end Go.Proofs.Ytapafbjgdfgodaa.Am
namespace Go.Proofs.Ytapafbjgdfgodaa.Am
section
variable{tb:Ce}{Γ:Cx}{a b:AO}
variable{ks:List Kf}{ρ:Type}{Q:H6 ρ}
end
end Go.Proofs.Ytapafbjgdfgodaa.Am
namespace Go.Proofs.Ytapafbjgdfgodaa.Am
def J8:Eu→Bool
 | .mv _=>true
 | .pick _ _ _=>true
 | .bld _ _=>true
 | .bll _ _ _=>true
 | .fa _ _=>true
 | .nilc _=>true
 | .bin _ _ _=>true
 | .eq _ _ _ _=>true
 | .un _ _=>true
 | .cvi _ _=>true
 | .cvid _=>true
 | .cvc _=>true
 | .mkf _ _ _=>true
 | .sls _ _ _=>true
 | .fld _ _ _ _=>true
 | .iaa _ _ _ _=>true
 | .ixa _ _ _ _ _=>true
 | .ixs _ _=>true
 | .ext _ _=>true
 | .mkif _ _=>true
 | .len _=>true
 | .lens _=>true
 | .mnx _ _ _=>true
 | .isni _ _=>true
 | .capn _=>true
 |_=>false
structure Ox where
 o:Eu
 v:AV
 c:Nat
def RD(d:Option Nat)(o:Eu):Bool:=
 match d with
 |some d=>(YW o).all fun t=> !Nat.beq d t
 |none=>true
def Jd(d:Option Nat):List Ox→Bool
 |[]=>true
 |m::r=>RD d m.o&&Jd d r
def Q3:List Ox→List Ox
 |[]=>[]
 |m::r=>match m.c with
  |0=>Q3 r
  |1=>Q3 r
  |c+2=>{m with c:=c+1}::Q3 r
def Kn(N k lo hi:Nat)(o:Eu):Bool:=(Nat.beq lo k&&Nat.beq hi k)||(J8 o&&Nat.ble hi N)
def Tq(N k lo hi:Nat)(o:Eu)(v:AV)(ms:List Ox):List Ox:=
 bif Kn N k lo hi o then ms else⟨o,v,hi-k⟩::ms
def Rp(N k lo hi:Nat)(d:Option Nat)(o:Eu):Bool:=Nat.beq lo k&&(Nat.ble hi N&&RD d o)
structure XH where
 ag:Bool
 n:Nat
 a:AV
 v:AV
 lo:Nat
def IP(tb:Ce)(cl:Nat→List AV→A3→GU)(N:Nat):Nat→List Ox→List XH→List AZ→List (Option (Nat×Nat))→Fr→A3→Fr×A3→Prop
 |k,_,_,[],[],f,h,p=>k=N∧p=(f,h)
 |k,ms,es,⟨d,g,o⟩::l,none::w,f,h,p=>(wanted f g=some true∧ ∃q es',B7 tb cl (eval tb f) h o=some q∧Jd d ms=true∧
   (∀m∈ms,0<m.c→ ∃u,B7 tb cl (eval tb (put f d q.1)) (q.2.getD h) m.o=some (m.v,u)∧u.getD (q.2.getD h)=q.2.getD h)∧
   (∀e∈es',(e∈es∨e.lo=k)∧load h e.ag e.n e.a=some e.v)∧IP tb cl N (k+1) (Q3 ms) es' l w (put f d q.1) (q.2.getD h) p)∨
   (wanted f g=some false∧ms=[]∧IP tb cl N (k+1) [] [] l w (put f d (.tup [])) h p)
 |k,ms,es,⟨d,g,o⟩::l,some (lo,hi)::w,f,h,p=>(wanted f g=some true∧ ∃q,B7 tb cl (eval tb f) h o=some q∧q.2.getD h=h∧Jd d ms=true∧
   (((Kn N k lo hi o||Rp N k lo hi d o)=true∧IP tb cl N k (Tq N k lo hi o q.1 ms) es l w (put f d q.1) h p)∨
    (hi=k∧(∃e∈es,∃t,o= .ld e.ag e.n (.t t)∧get f t=e.a∧q.1=e.v∧e.lo≤lo)∧IP tb cl N k ms es l w (put f d q.1) h p)))∨
   (wanted f g=some false∧Jd d ms=true∧IP tb cl N k ms es l w (put f d (.tup [])) h p)
 |_,_,_,_,_,_,_,_=>False
section
variable{tb:Ce}{cl:Nat→List AV→A3→GU}
theorem UK{o:Eu}(ho:J8 o=true){rho:AO→AV}{h h':A3}:B7 tb cl rho h o=B7 tb cl rho h' o:=by
 cases o<;>first|(simp only[J8,Bool.false_eq_true]at ho;done)|rfl
theorem EC{x:Option AV}{p:AV×Option A3}(e:val x=some p):p.2=none:=by
 obtain⟨v,_,rfl⟩:=Option.map_eq_some_iff.1 e;rfl
theorem map_none{α:Type}{x:Option α}{f:α→AV}{p:AV×Option A3}(e:x.map (fun a=>(f a,(none:Option A3)))=some p):p.2=none:=by
 obtain⟨v,_,rfl⟩:=Option.map_eq_some_iff.1 e;rfl
theorem bind_none{α:Type}{x:Option α}{f:α→GU}{p:AV×Option A3}(h: ∀a,f a=some p→p.2=none)(e:x.bind f=some p):p.2=none:=by
 obtain⟨v,_,e⟩:=Option.bind_eq_some_iff.1 e;exact h v e
theorem Wv{o:Eu}(ho:J8 o=true){rho:AO→AV}{h:A3}{p:AV×Option A3}(e:B7 tb cl rho h o=some p):p.2=none:=by
 cases o<;>first|(simp only[J8,Bool.false_eq_true]at ho;done)|skip
 case mv=>simp only[B7,Option.some.injEq]at e;subst e;rfl
 case pick=>simp only[B7]at e;split at e<;>first|(cases e;rfl)|cases e
 case bld=>exact EC e
 case bll=>exact EC e
 case nilc=>simp only[B7]at e;split at e<;>first|(cases e;rfl)|cases e
 case bin=>exact EC e
 case eq=>exact EC e
 case un=>exact EC e
 case cvi=>simp only[B7]at e;split at e<;>first|(cases e;rfl)|cases e
 case cvid=>simp only[B7]at e;split at e<;>first|(cases e;rfl)|cases e
 case cvc=>simp only[B7]at e;split at e<;>first|(cases e;rfl)|cases e
 case mkf=>simp only[B7,Option.some.injEq]at e;subst e;rfl
 case sls=>simp only[B7]at e;split at e<;>first|exact map_none e|cases e
 case fa=>exact EC e
 case fld=>simp only[B7]at e;split at e<;>first|cases e|(split at e<;>first|exact EC e|cases e)
 case iaa=>exact bind_none (fun a e=>by split at e<;>first|exact EC e|cases e) e
 case ixa=>exact bind_none (fun a e=>by split at e<;>first|cases e|(split at e<;>first|exact EC e|cases e)) e
 case ixs=>exact bind_none (fun a e=>by split at e<;>first|cases e|(split at e<;>first|exact map_none e|cases e)) e
 case ext=>simp only[B7]at e;split at e<;>first|exact EC e|cases e
 case mkif=>simp only[B7,Option.some.injEq]at e;subst e;rfl
 case len=>exact map_none e
 case lens=>simp only[B7]at e;split at e<;>first|(cases e;rfl)|cases e
 case isni=>simp only[B7]at e;split at e<;>first|(cases e;rfl)|cases e
 case capn=>simp only[B7]at e;split at e<;>first|(cases e;rfl)|cases e
 case mnx=>simp only[B7]at e;split at e<;>first|cases e|(split at e<;>first|(cases e;rfl)|cases e)
theorem Tl{o:Eu}(ho:J8 o=true){rho:AO→AV}{h h':A3}{p:AV×Option A3}(e:B7 tb cl rho h o=some p):B7 tb cl rho h' o=some (p.1,none):=by
 rw[UK ho (h':=h),e]
 have:=Wv ho e
 obtain⟨a,b⟩:=p
 simp only at this
 rw[this]
theorem Ol{d:Option Nat}{f:Fr}{v:AV}{o:Eu}(h:RD d o=true):Alike tb (put f d v) f (YW o):=by
 intro t ht
 cases d with
 |none=>rfl
 |some d=>
  have:=List.all_eq_true.1 h t ht
  simp only[Bool.not_eq_true']at this
  simp only[put,get]
  rw[if_neg fun e=>by rw[e,Nat.beq_refl]at this;cases this]
theorem FT{d:Option Nat}{f:Fr}{v:AV}: ∀{ms:List Ox},Jd d ms=true→ ∀m∈ms,Alike tb (put f d v) f (YW m.o)
 |[],_,m,hm=>by cases hm
 |q::r,h,m,hm=>by
  simp only[Jd,Bool.and_eq_true]at h
  rcases List.mem_cons.1 hm with rfl|hm
  ·exact Ol h.1
  ·exact FT h.2 m hm
def W7(tb:Ce)(cl:Nat→List AV→A3→GU)(f:Fr)(tl:List A3)(m:Ox):Prop:= ∀i h',i<m.c→tl[i]? =some h'→ ∃u,B7 tb cl (eval tb f) h' m.o=some (m.v,u)∧u.getD h'=h'
theorem Sc: ∀{ms:List Ox} {m:Ox},m∈ms→1<m.c→{m with c:=m.c-1}∈Q3 ms
 |q::r,m,hm,hc=>by
  rcases List.mem_cons.1 hm with rfl|hm
  ·obtain⟨o,v,c⟩:=m
   match c,hc with
   |c+2,_=>simp[Q3]
  ·have:=Sc hm hc
   simp only[Q3]
   split
   ·exact this
   ·exact this
   ·exact List.mem_cons_of_mem _ this
theorem Wy{N k lo hi:Nat}{o:Eu}{v:AV}{ms:List Ox}{m:Ox}(h:m∈ms):m∈Tq N k lo hi o v ms:=by
 simp only[Tq]
 cases Kn N k lo hi o with
 |true=>exact h
 |false=>simp only[cond_false];simp[h]
theorem SL{N k lo hi:Nat}{d:Option Nat}{o:Eu}(h:Rp N k lo hi d o=true):lo=k∧hi≤N∧RD d o=true:=by
 simp only[Rp,Bool.and_eq_true]at h
 exact⟨Nat.eq_of_beq_eq_true h.1,Nat.le_of_ble_eq_true h.2.1,h.2.2⟩
open Classical in
theorem G2{N:Nat}: ∀{l:List AZ} {k:Nat} {ms:List Ox} {es:List XH} {w:List (Option (Nat×Nat))} {f:Fr} {h:A3} {f':Fr} {h':A3},IP tb cl N k ms es l w f h (f',h')→
  ∃tl,EB tb cl l w f h=some (h::tl)∧(h::tl).getLast?=some h'∧k+tl.length=N∧(∀m∈ms,W7 tb cl f tl m)∧ ∀(pre:List A3),pre.length=k→(∀e∈es,∀j g,e.lo≤j→pre[j]? =some g→load g e.ag e.n e.a=some e.v)→Fx tb cl (pre++h::tl) l w k f=some f'
 |[],k,ms,es,w,f,h,f',h',e=>by
  cases w with
  |nil=>
   simp only[IP,Prod.mk.injEq]at e
   obtain⟨hk,rfl,rfl⟩:=e
   exact⟨[],by simp[EB],rfl,by simpa using hk,fun m _ i h' _ hi=>by simp at hi,fun pre hp _=>by simp[Fx,hp]⟩
  |cons=>simp[IP]at e
 |⟨d,g,o⟩::l,k,ms,es,[],f,h,f',h',e=>by simp[IP]at e
 |⟨d,gd,o⟩::l,k,ms,es,none::w,f,h,f',h',e=>by
  simp only[IP]at e
  rcases e with ⟨hwt,p,es',hp,hc1,hc2,hc3,e⟩|⟨hwt,rfl,e⟩
  rotate_left
  ·obtain⟨tl,h1,h2,h3,h4,h5⟩:=G2 e
   refine⟨h::tl,?_,?_,by simp;omega,(fun m hm=>absurd hm (by simp)),fun pre hpre hes=> ?_⟩
   ·simp[EB,hwt,h1]
   ·simpa using h2
   ·have h6:=h5 (pre++[h]) (by simp[hpre]) (fun x hx=>absurd hx (by simp))
    simp only[List.append_assoc,List.singleton_append]at h6
    have g0:(pre++h::h::tl)[k]? =some h:=by rw[←hpre,List.getElem?_append_right (Nat.le_refl _),Nat.sub_self];rfl
    have g1:(pre++h::h::tl)[k+1]? =some h:=by rw[←hpre,List.getElem?_append_right (by omega),Nat.add_sub_cancel_left];rfl
    simp only[Fx,hwt,Option.bind_some,Bool.false_eq_true,if_false,g0,g1,if_true]
    exact h6
  obtain⟨tl,h1,h2,h3,h4,h5⟩:=G2 e
  refine⟨p.2.getD h::tl,?_,?_,by simp;omega,?_,fun pre hpre hes=> ?_⟩
  ·simp[EB,hwt,hp,h1]
  ·simpa using h2
  ·intro m hm i h' hi hg
   have he:=FT (tb:=tb) (f:=f) (v:=p.1) hc1 m hm
   rw[←F9 he]
   cases i with
   |zero=>
    simp only[List.getElem?_cons_zero,Option.some.injEq]at hg
    subst hg
    exact hc2 m hm (by omega)
   |succ i=>
    simp only[List.getElem?_cons_succ]at hg
    exact h4 _ (Sc hm (by omega)) i h' (by simp only;omega) hg
  ·have h6:=h5 (pre++[h]) (by simp[hpre]) (fun x hx j g hj hg=>by
    rcases Nat.lt_or_ge j pre.length with hlt|hge
    ·rw[List.getElem?_append_left hlt]at hg
     rcases(hc3 x hx).1 with hx'|hx'
     ·exact hes x hx' j g hj hg
     ·omega
    ·rw[List.getElem?_append_right hge]at hg
     have:j-pre.length=0:=by
      rcases Nat.eq_zero_or_pos (j-pre.length)with h|h
      ·exact h
      ·rw[List.getElem?_eq_none (by simp;omega)]at hg;cases hg
     rw[this]at hg
     simp only[List.getElem?_cons_zero,Option.some.injEq]at hg
     subst hg
     exact(hc3 x hx).2)
   simp only[List.append_assoc,List.singleton_append]at h6
   have g0:(pre++h::p.2.getD h::tl)[k]? =some h:=by rw[←hpre,List.getElem?_append_right (Nat.le_refl _),Nat.sub_self];rfl
   have g1:(pre++h::p.2.getD h::tl)[k+1]? =some (p.2.getD h):=by rw[←hpre,List.getElem?_append_right (by omega),Nat.add_sub_cancel_left];rfl
   simp only[Fx,hwt,Option.bind_some,if_true,g0,hp,g1]
   exact h6
 |⟨d,gd,o⟩::l,k,ms,es,some (lo,hi)::w,f,h,f',h',e=>by
  simp only[IP]at e
  rcases e with ⟨hwt,p,hp,hu,hfr,e⟩|⟨hwt,hfr,e⟩
  rotate_left
  ·obtain⟨tl,h1,h2,h3,h4,h5⟩:=G2 e
   refine⟨tl,?_,h2,h3,fun m hm i h' hi hg=> ?_,fun pre hpre hes=> ?_⟩
   ·simp[EB,hwt,h1]
   ·have he:=FT (tb:=tb) (f:=f) (v:= .tup []) hfr m hm
    rw[←F9 he]
    exact h4 m hm i h' hi hg
   ·have h6:=h5 pre hpre hes
    simp only[Fx,hwt,Option.bind_some,Bool.false_eq_true,if_false]
    exact h6
  rcases e with ⟨hpl,e⟩|⟨hhi0,⟨x,hx,t0,hxo,hxa,hxv,hxl⟩,e⟩
  ·obtain⟨tl,h1,h2,h3,h4,h5⟩:=G2 e
   have hms: ∀m∈ms,W7 tb cl f tl m:=fun m hm i h' hi hg=>by
    have he:=FT (tb:=tb) (f:=f) (v:=p.1) hfr m hm
    rw[←F9 he]
    exact h4 m (Wy hm) i h' hi hg
   refine⟨tl,?_,h2,h3,hms,fun pre hpre hes=> ?_⟩
   ·simp[EB,hwt,hp,hu,h1]
   ·have h6:=h5 pre hpre hes
    have g0:(pre++h::tl)[k]? =some h:=by rw[←hpre,List.getElem?_append_right (Nat.le_refl _),Nat.sub_self];rfl
    have hlen:(pre++h::tl).length=N+1:=by simp[hpre];omega
    have hk: ∀j,lo≤j→j<lo+(hi+1-lo)→ ∃u,((pre++h::tl)[j]?).bind (fun h=>B7 tb cl (eval tb f) h o)=some (p.1,u)∧some (u.getD ((pre++h::tl)[j]?.getD []))=(pre++h::tl)[j]? :=by
     intro j hj1 hj2
     simp only[Bool.or_eq_true]at hpl
     cases hP:Kn N k lo hi o with
     |true=>
      have hP':=hP
      simp only[Kn,Bool.or_eq_true,Bool.and_eq_true]at hP'
      rcases hP' with ⟨hlo,hhi⟩|⟨hb,hle⟩
      ·have hlo:=Nat.eq_of_beq_eq_true hlo
       have hhi:=Nat.eq_of_beq_eq_true hhi
       obtain rfl:j=k:=by omega
       exact⟨p.2,by rw[g0,Option.bind_some,hp],by rw[g0];simp[hu]⟩
      ·have hle:=Nat.le_of_ble_eq_true hle
       have hj:j<(pre++h::tl).length:=by omega
       rw[List.getElem?_eq_getElem hj]
       exact⟨none,by rw[Option.bind_some];exact Tl hb hp,rfl⟩
     |false=>
      have hL:Rp N k lo hi d o=true:=hpl.resolve_left (by rw[hP];simp)
      obtain⟨hlo,hhi,hd⟩:=SL hL
      rcases Nat.lt_or_ge k j with hkj|hkj
      ·have hm:(⟨o,p.1,hi-k⟩:Ox)∈Tq N k lo hi o p.1 ms:=by
        simp only[Tq,hP,cond_false];simp
       have hj:j<(pre++h::tl).length:=by omega
       have hjt:(pre++h::tl)[j]? =tl[j-k-1]? :=by
        rw[List.getElem?_append_right (by omega),hpre,show j-k=(j-k-1)+1 by omega,List.getElem?_cons_succ];rfl
       have hjl:j-k-1<tl.length:=by simp[hpre]at hlen;omega
       rw[hjt,List.getElem?_eq_getElem hjl]
       have:=h4 _ hm (j-k-1) _ (by simp only;omega) (List.getElem?_eq_getElem hjl)
       obtain⟨u,e1,e2⟩:=this
       rw[F9 (Ol hd)]at e1
       exact⟨u,by rw[Option.bind_some];exact e1,congrArg some e2⟩
      ·obtain rfl:j=k:=by omega
       exact⟨p.2,by rw[g0,Option.bind_some,hp],by rw[g0];simp[hu]⟩
    simp only[Fx,hwt,Option.bind_some,if_true,g0,hp]
    rw[if_pos (by
     rw[List.all_eq_true]
     intro j hj
     rw[List.mem_range'_1]at hj
     exact decide_eq_true (hk j hj.1 hj.2))]
    exact h6
  ·obtain⟨tl,h1,h2,h3,h4,h5⟩:=G2 e
   have hms: ∀m∈ms,W7 tb cl f tl m:=fun m hm i h' hi hg=>by
    have he:=FT (tb:=tb) (f:=f) (v:=p.1) hfr m hm
    rw[←F9 he]
    exact h4 m hm i h' hi hg
   refine⟨tl,?_,h2,h3,hms,fun pre hpre hes=> ?_⟩
   ·simp[EB,hwt,hp,hu,h1]
   ·have h6:=h5 pre hpre hes
    have g0:(pre++h::tl)[k]? =some h:=by rw[←hpre,List.getElem?_append_right (Nat.le_refl _),Nat.sub_self];rfl
    have hk: ∀j,lo≤j→j<lo+(hi+1-lo)→ ∃u,((pre++h::tl)[j]?).bind (fun h=>B7 tb cl (eval tb f) h o)=some (p.1,u)∧some (u.getD ((pre++h::tl)[j]?.getD []))=(pre++h::tl)[j]? :=by
     intro j hj1 hj2
     rcases Nat.lt_or_ge j k with hjk|hjk
     ·have hjp:j<pre.length:=by omega
      rw[List.getElem?_append_left hjp,List.getElem?_eq_getElem hjp]
      have:=hes x hx j pre[j] (by omega) (List.getElem?_eq_getElem hjp)
      refine⟨none,?_,rfl⟩
      rw[Option.bind_some,hxo,hxv]
      simp only[B7,eval,hxa,this,val,Option.map_some]
     ·obtain rfl:j=k:=by omega
      exact⟨p.2,by rw[g0,Option.bind_some,hp],by rw[g0];simp[hu]⟩
    simp only[Fx,hwt,Option.bind_some,if_true,g0,hp]
    rw[if_pos (by
     rw[List.all_eq_true]
     intro j hj
     rw[List.mem_range'_1]at hj
     exact decide_eq_true (hk j hj.1 hj.2))]
    exact h6
theorem U7{l:List AZ}{w:List (Option (Nat×Nat))}{f:Fr}{h:A3}{n:Nat}{p:Fr×A3}(e:IP tb cl n 0 [] [] l w f h p):
  Bd tb cl (.regd l w) f h=some (.normal,p.1,p.2):=by
 obtain⟨tl,h1,h2,h3,h4,h5⟩:=G2 (f':=p.1) (h':=p.2) e
 have h6:=h5 [] rfl (fun e he=>by cases he)
 simp only[List.nil_append]at h6
 simp only[Bd,h1,Option.bind_some,List.tail_cons,h6,h2,Option.map_some]
end
structure Ob where
 o:Eu
 d:Nat
 φ:AI
 c:Nat
def Th:List Ob→List Ob
 |[]=>[]
 |m::r=>match m.c with
  |0=>Th r
  |1=>Th r
  |c+2=>{m with c:=c+1}::Th r
def H5(d:Option Nat):List Ob→Bool
 |[]=>true
 |m::r=>(RD d m.o&&match d with|some d=> !Nat.beq d m.d|none=>true)&&H5 d r
def T.Uni(t:T):Prop:= ∀{P Q:Nat→Prop} {H G:A3} {cs ds:List AV} {x:t.α},t.R P H cs x→t.R Q G ds x→cs=ds
theorem Ls{α:Type}{c:α→AV}{z:α}{hs hm}:(OR α c z hs hm).Uni:=fun h g=>h.trans g.symm
theorem EE{k:IntKind}:(T.int k).Uni:=Ls
theorem HT:T.u8.Uni:=Ls
theorem T0:T.u32.Uni:=Ls
theorem Tz:T.u64.Uni:=Ls
theorem T.Uni.prod{a b:T}(h:a.Uni)(g:b.Uni):(T.prod a b).Uni:=by
 rintro P Q H G cs ds x ⟨c,d,e,h1,h2⟩ ⟨c',d',e',h1',h2'⟩
 rw[e,e',h h1 h1',g h2 h2']
theorem T.Uni.iso{t:T}{β:Type}{f:β→t.α}{g:t.α→β}{hfg: ∀y,f (g y)=y}(h:t.Uni):(T.iso t β f g hfg).Uni:=fun r r'=>h r r'
theorem BE.uni{t:T}(h:t.Uni){P Q:Nat→Prop}{H G:A3}: ∀{c d:List (List AV)} {x:List t.α},BE t P H c x→BE t Q G d x→c=d
 |[],[],[],_,_=>rfl
 |_::_,_::_,_::_,h1,h2=>by rw[h h1.1 h2.1,BE.uni h h1.2 h2.2]
 |[],_::_,[],_,h2=>h2.elim
 |_::_,_,[],h1,_=>h1.elim
 |[],_,_::_,h1,_=>h1.elim
 |_::_,[],_::_,_,h2=>h2.elim
theorem HQ{n:Nat}{t:T}(h:t.Uni):(A1 n t).Uni:=by
 rintro P Q H G cs ds x ⟨c,e,h1⟩ ⟨c',e',h1'⟩
 rw[e,e',h1.uni h h1']
theorem T.Uni.V{t:T}(h:t.Uni){P Q:Nat→Prop}{H G:A3}{v w:AV}{x:t.α}(r:t.V P H v x)(r':t.V Q G w x):v=w:=by
 rcases r with ⟨ha,cs,rfl,r⟩|⟨ha,r⟩
 ·rcases r' with ⟨_,ds,rfl,r'⟩|⟨hb,_⟩
  ·rw[h r r']
  ·rw[ha]at hb;cases hb
 ·rcases r' with ⟨hb,_⟩|⟨_,r'⟩
  ·rw[ha]at hb;cases hb
  ·have:=h r r'
   simpa using this
def UO:List (Σ t:T,t.α)→Prop
 |[]=>True
 |p::r=>p.1.Uni∧UO r
theorem UO.eq{P Q:Nat→Prop}{H G:A3}: ∀{l:List (Σ t:T,t.α)} {v w:List AV},UO l→Lr P H v l→Lr Q G w l→v=w
 |[],[],[],_,_,_=>rfl
 |_::_,_::_,_::_,h,r,r'=>by rw[T.Uni.V h.1 r.1 r'.1,UO.eq h.2 r.2 r'.2]
 |[],_::_,_,_,r,_=>r.elim
 |[],[],_::_,_,_,r=>r.elim
 |_::_,[],_,_,r,_=>r.elim
 |_::_,_::_,[],_,_,r=>r.elim
def AI.Uni:AI→Prop
 | .val t _=>t.Uni
 | .tup l=>UO l
 | .own _=>True
 | .cp _ _=>True
 | .ep _ _ _=>True
 | .oc _ _ _ _=>True
 | .con _=>True
 | .kv _=>True
 | .fnv _ _ _=>True
 |_=>False
theorem AI.Uni.eq{φ:AI}(h:φ.Uni){rv:Nat→AV}{ss:Ss}{P Q:Nat→Prop}{H G:A3}{v w:AV}(r:FR rv ss P H φ v)(r':FR rv ss Q G φ w):v=w:=by
 cases φ<;>simp only[AI.Uni]at h
 case val t x=>exact T.Uni.V h r r'
 case tup l=>
  obtain⟨vs,e,h1⟩:=r
  obtain⟨ws,e',h2⟩:=r'
  rw[e,e',UO.eq h h1 h2]
 case own j=>exact r.2.trans r'.2.symm
 case cp j o=>
  obtain⟨_,id,e,rfl⟩:=r
  obtain⟨_,id',e',rfl⟩:=r'
  rw[e]at e';cases e';rfl
 case ep j i o=>
  obtain⟨_,id,n,e,_,rfl⟩:=r
  obtain⟨_,id',n',e',_,rfl⟩:=r'
  rw[e]at e';cases e';rfl
 case oc j o s n=>
  obtain⟨_,id,e,rfl⟩:=r
  obtain⟨_,id',e',rfl⟩:=r'
  rw[e]at e';cases e';rfl
 case con c=>exact r.1.trans r'.1.symm
 case kv j=>exact r.2.trans r'.2.symm
 case fnv f js ks=>exact r.2.trans r'.2.symm
inductive OS(tb:Ce)(Γ:Cx):List Ob→Prop where
 |nil:OS tb Γ []
 |cons {o:Eu} {d c:Nat} {φ:AI} {l:List Ob} (h:El tb Γ o (some ()) fun _=>φ) (hd:BB tb Γ (.t d) φ) (hu:φ.Uni) (r:OS tb Γ l):OS tb Γ (⟨o,d,φ,c⟩::l)
inductive Tw(f:Fr):List Ob→List Ox→Prop where
 |nil:Tw f [] []
 |cons {o:Eu} {d c:Nat} {φ:AI} {v:AV} {l:List Ob} {ms:List Ox} (h:get f d=v) (r:Tw f l ms):Tw f (⟨o,d,φ,c⟩::l) (⟨o,v,c⟩::ms)
theorem Tw.dec{f:Fr}: ∀{l:List Ob} {ms:List Ox},Tw f l ms→Tw f (Th l) (Q3 ms)
 |_,_, .nil=> .nil
 |_,_, .cons (c:=c) h r=>by
  match c with
  |0=>exact r.dec
  |1=>exact r.dec
  |c+2=>exact .cons h r.dec
theorem Tw.fresh{d:Option Nat}{f:Fr}: ∀{l:List Ob} {ms:List Ox},Tw f l ms→H5 d l=true→Jd d ms=true
 |_,_, .nil,_=>rfl
 |_,_, .cons h r,e=>by
  simp only[H5,Bool.and_eq_true]at e
  simp only[Jd,Bool.and_eq_true]
  exact⟨e.1.1,r.fresh e.2⟩
theorem Tw.put{d:Option Nat}{f:Fr}{w:AV}: ∀{l:List Ob} {ms:List Ox},Tw f l ms→H5 d l=true→Tw (put f d w) l ms
 |_,_, .nil,_=> .nil
 |_,_, .cons h r,e=>by
  simp only[H5,Bool.and_eq_true]at e
  refine .cons ?_ (r.put e.2)
  cases d with
  |none=>exact h
  |some d=>
   have:=e.1.2
   simp only[Bool.not_eq_true']at this
   simp only[Am.put,get]
   rw[if_neg fun e=>by rw[e,Nat.beq_refl]at this;cases this]
   exact h
theorem OS.spec{tb:Ce}{Γ:Cx}{E:JL}{rv:Nat→AV}{fp:Fp}{f:Fr}{H:A3}(I:Bn E Γ rv fp f H): ∀{l:List Ob} {ms:List Ox},OS tb Γ l→Tw f l ms→ ∀m∈ms,0<m.c→ ∃u,B7 tb (CF tb) (eval tb f) H m.o=some (m.v,u)∧u.getD H=H
 |_,_, .nil, .nil,m,hm,_=>by cases hm
 |_,_, .cons h hd hu r, .cons h' r',m,hm,hc=>by
  rcases List.mem_cons.1 hm with rfl|hm
  ·obtain⟨v,u,h1,h2,h3⟩:=h E rv fp f H I () rfl
   have:=hu.eq h3 (hd E rv fp f H I)
   subst this
   exact⟨u,by rw[h1,←h'];rfl,h2⟩
  ·exact OS.spec I r r' m hm hc
structure Cb where
 ag:Bool
 n:Nat
 t:Nat
 off:Nat
 lo:Nat
 u:T
 x:u.α
def Je(d:Option Nat):List Cb→Bool
 |[]=>true
 |m::r=>(match d with|some d=> !Nat.beq d m.t|none=>true)&&Je d r
inductive CR(f:Fr):List Cb→List XH→Prop where
 |nil:CR f [] []
 |cons {ag:Bool} {n t off lo id o:Nat} {u:T} {x:u.α} {v a:AV} {l:List Cb} {es:List XH} {P:Nat→Prop} {H:A3} (h0:get f t= .ptr id o) (ha:a= .ptr id (o+off)) (h:u.V P H v x) (r:CR f l es):
   CR f (⟨ag,n,t,off,lo,u,x⟩::l) (⟨ag,n,a,v,lo⟩::es)
theorem CR.put{d:Option Nat}{f:Fr}{w:AV}: ∀{l:List Cb} {es:List XH},CR f l es→Je d l=true→CR (put f d w) l es
 |_,_, .nil,_=> .nil
 |_,_, .cons h0 ha h r,e=>by
  simp only[Je,Bool.and_eq_true]at e
  refine .cons ?_ ha h (r.put e.2)
  cases d with
  |none=>exact h0
  |some d=>
   have:=e.1
   simp only[Bool.not_eq_true']at this
   simp only[Am.put,get]
   rw[if_neg fun e=>by rw[e,Nat.beq_refl]at this;cases this]
   exact h0
theorem CR.find{f:Fr}: ∀{l:List Cb} {es:List XH} {i:Nat} {c:Cb},CR f l es→l[i]? =some c→ ∃e∈es,e.ag=c.ag∧e.n=c.n∧e.lo=c.lo∧(∃id o,get f c.t= .ptr id o∧e.a= .ptr id (o+c.off))∧ ∃P H,c.u.V P H e.v c.x
 |_,_,i,c, .nil,h=>by simp at h
 |_,_,0,c, .cons h0 ha h r,hc=>by
  simp only[List.getElem?_cons_zero,Option.some.injEq]at hc
  subst hc
  exact⟨_,List.mem_cons_self,rfl,rfl,rfl,⟨_,_,h0,ha⟩,_,_,h⟩
 |_,_,i+1,c, .cons h0 ha h r,hc=>by
  simp only[List.getElem?_cons_succ]at hc
  obtain⟨e,he,g⟩:=r.find hc
  exact⟨e,List.mem_cons_of_mem _ he,g⟩
def Tx(Γ:Cx)(c:Cb):Prop:= ∃j o ps N s y o',B4 Γ.ts c.t=some (.cp j o)∧AA Γ.ss j=some (.cells ps)∧EY ps (o+c.off)=some (N, .val s y,o')∧ ∃F:AB s c.u o',F.get y=c.x∧c.ag=c.u.agg∧c.n=c.u.sz
theorem W6{Γ:Cx}{ag:Bool}{n t off lo j o N o':Nat}{ps:List (Nat×AI)}{s u:T}{y:s.α}(F:AB s u o')(h1:B4 Γ.ts t=some (.cp j o))(h2:AA Γ.ss j=some (.cells ps))(h3:EY ps (o+off)=some (N, .val s y,o'))(h4:ag=u.agg)(h5:n=u.sz):Tx Γ ⟨ag,n,t,off,lo,u,F.get y⟩:=
 ⟨j,o,ps,N,s,y,o',h1,h2,h3,F,rfl,h4,h5⟩
theorem Tx.spec{Γ:Cx}{c:Cb}{E:JL}{rv:Nat→AV}{fp:Fp}{f:Fr}{H:A3}(h:Tx Γ c)(R:Bn E Γ rv fp f H): ∃id o v,get f c.t= .ptr id o∧load H c.ag c.n (.ptr id (o+c.off))=some v∧c.u.V (Pf E Γ.ss fp H) H v c.x:=by
 obtain⟨j,o,ps,N,s,y,o',h1,hj,hp,F,hx,hag,hn⟩:=h
 obtain⟨l,id,e,hv⟩:=R.temps _ _ h1
 obtain⟨cs,h0,h2,h3⟩:=Fj R hj e
 obtain⟨b',c',e0,e1,e2,e3,e4,e5,_⟩:=Dv h3 hp
 have hle:=F.le
 have hl:=s.len e4
 have hr:=F.getR e4
 rw[←e5 o' c.u.sz (by omega),←e1]at hr
 obtain⟨v,g1,g2⟩:=T.V.of hr
 refine⟨id,o,v,hv,?_,by rw[←hx];exact g2⟩
 rw[hag,hn]
 simp only[Am.load,place,h2,Option.map_some,Option.bind_some,if_pos (show o+c.off+c.u.sz≤cs.length by omega),g1]
inductive GT(Γ:Cx)(k:Nat)(C:List Cb):List Cb→Prop where
 |nil:GT Γ k C []
 |new {c:Cb} {l:List Cb} (hk:c.lo=k) (h:Tx Γ c) (r:GT Γ k C l):GT Γ k C (c::l)
 |old {c:Cb} {l:List Cb} (i:Nat) (hi:C[i]? =some c) (hu:c.u.Uni) (h:Tx Γ c) (r:GT Γ k C l):GT Γ k C (c::l)
theorem GT.spec{Γ:Cx}{k:Nat}{C:List Cb}{es:List XH}{E:JL}{rv:Nat→AV}{fp:Fp}{f:Fr}{H:A3}(R:Bn E Γ rv fp f H)(hC:CR f C es): ∀{l:List Cb},GT Γ k C l→ ∃es',CR f l es'∧ ∀e∈es',(e∈es∨e.lo=k)∧load H e.ag e.n e.a=some e.v
 |_, .nil=>⟨[], .nil,fun _ h=>by cases h⟩
 |_, .new (c:=c) hk h r=>by
  obtain⟨es',h1,h2⟩:=r.spec R hC
  obtain⟨id,o,v,g1,g2,g3⟩:=h.spec R
  refine⟨⟨c.ag,c.n, .ptr id (o+c.off),v,c.lo⟩::es', .cons g1 rfl g3 h1,fun e he=> ?_⟩
  rcases List.mem_cons.1 he with rfl|he
  ·exact⟨.inr hk,g2⟩
  ·exact h2 e he
 |_, .old (c:=c) i hi hu h r=>by
  obtain⟨es',h1,h2⟩:=r.spec R hC
  obtain⟨id,o,v,g1,g2,g3⟩:=h.spec R
  obtain⟨e,he,e1,e2,e3,⟨id',o',e4,e5⟩,P,H',e6⟩:=hC.find hi
  have hv:v=e.v:=hu.V g3 e6
  rw[g1]at e4
  cases e4
  refine⟨⟨c.ag,c.n, .ptr id (o+c.off),v,c.lo⟩::es', .cons g1 rfl g3 h1,fun x hx=> ?_⟩
  rcases List.mem_cons.1 hx with rfl|hx
  ·refine⟨.inl ?_,g2⟩
   obtain⟨ag,n,a,v',lo⟩:=e
   simp only at e1 e2 e3 e5 hv
   subst e1 e2 e3 e5 hv
   exact he
  ·exact h2 x hx
structure AM(tb:Ce)(Γ:Cx)(N k:Nat)(B:List Ob)(C:List Cb)(l:List AZ)(w:List (Option (Nat×Nat)))(ks:List Kf){ρ:Type}(Q:H6 ρ) where
 m:Option ρ
 ok: ∀E f H,Rel E Γ f H→ ∀ms,Tw f B ms→ ∀es,CR f C es→ ∀r,m=some r→ ∃p e f' H',IP tb (CF tb) N k ms es l w f H p∧Fa tb ks (.normal,p.1,p.2)=some (e,f',H')∧Q E r e f' H'
section
variable{tb:Ce}{Γ:Cx}{ks:List Kf}{ρ:Type}{Q:H6 ρ}{w:List (Option (Nat×Nat))}{N k:Nat}{B:List Ob}{C C':List Cb}
def Aa.regd{l:List AZ}(n:Nat)(s:AM tb Γ n 0 [] [] l w ks Q):Aa tb Γ (.regd l w) ks Q:=
 ⟨s.m,fun E f H R r hr=>by
  obtain⟨p,e,f',H',h1,h2,h3⟩:=s.ok E f H R [] .nil [] .nil r hr
  exact⟨e,f',H',by rw[U7 h1];exact h2,h3⟩⟩
def Dk(s:Aa tb Γ (rg false []) ks Q):AM tb Γ N N B C [] [] ks Q:=
 ⟨s.m,fun E f H R ms _ es _ r hr=>by
  obtain⟨e,f',H',h1,h2⟩:=s.ok E f H R r hr
  rw[Cr]at h1
  exact⟨(f,H),e,f',H',⟨rfl,rfl⟩,h1,h2⟩⟩
def AM.turn{l:List AZ}{Γ':Cx}(h: ∀E f H,Rel E Γ f H→Rel E Γ' f H)(s:AM tb Γ' N k B C l w ks Q):AM tb Γ N k B C l w ks Q:=
 ⟨s.m,fun E f H R ms hms es hes r hr=>s.ok E f H (h E f H R) ms hms es hes r hr⟩
def AM.frzRow{l:List AZ}(j:Nat){t:T}{g:GS t.α}(h:AA Γ.ss j=some (.row t g))(hn:Nat.blt j Ul=true)(s:AM tb (Γ.turn j (Vg t g)) N k B C l w ks Q):AM tb Γ N k B C l w ks Q:=
 s.turn fun _ _ _ ⟨rv,fp,I⟩=>⟨rv,fp,I.frzRow h hn⟩
variable{o:Eu}{l:List AZ}{y:Nat×Nat}
def Q7(N k:Nat)(B:List Ob)(C:List Cb)(y:Nat×Nat)(d:Option Nat)(o:Eu):Bool:=Kn N k y.1 y.2 o&&(H5 d B&&Je d C)
theorem Ze{cl:Nat→List AV→A3→GU}{d:Option Nat}{ms:List Ox}{es:List XH}{f:Fr}{H:A3}{v:AV}{u:Option A3}{p:Fr×A3}(hq:Q7 N k B C y d o=true)(hms:Tw f B ms)(h1:B7 tb cl (eval tb f) H o=some (v,u))(h2:u.getD H=H)
  (g:IP tb cl N k ms es l w (put f d v) H p):IP tb cl N k ms es (⟨d,none,o⟩::l) (some y::w) f H p:=by
 obtain⟨lo,hi⟩:=y
 simp only[Q7,Bool.and_eq_true]at hq
 refine .inl ⟨rfl,(v,u),h1,h2,hms.fresh hq.2.1, .inl ⟨by rw[hq.1];rfl,?_⟩⟩
 simp only[Tq,hq.1,cond_true]
 exact g
theorem NT{d:Option Nat}(hq:Q7 N k B C y d o=true):H5 d B=true∧Je d C=true:=by
 simp only[Q7,Bool.and_eq_true]at hq;exact hq.2
def UF(B:List Ob)(C':List Cb)(d:Option Nat):Bool:=H5 d B&&Je d C'
theorem Zd{Γ':Cx}{E:JL}{rv rv':Nat→AV}{fp fp':Fp}{d:Option Nat}{ms:List Ox}{es:List XH}{f:Fr}{H:A3}{v:AV}{u:Option A3}(hq:UF B C' d=true)(hb:OS tb Γ' B)(hc:GT Γ k C C')(hms:Tw f B ms)(hes:CR f C es)(I0:Bn E Γ rv fp f H)(h1:B7 tb (CF tb) (eval tb f) H o=some (v,u))(I:Bn E Γ' rv' fp' (put f d v) (u.getD H)):
  ∃es',CR (put f d v) C' es'∧ ∀p,IP tb (CF tb) N (k+1) (Q3 ms) es' l w (put f d v) (u.getD H) p→IP tb (CF tb) N k ms es (⟨d,none,o⟩::l) (none::w) f H p:=by
 simp only[UF,Bool.and_eq_true]at hq
 obtain⟨es',g1,g2⟩:=hc.spec I0 hes
 exact⟨es',g1.put hq.2,fun p g=> .inl ⟨rfl,(v,u),es',h1,hms.fresh hq.1,hb.spec I (hms.put hq.1),g2,g⟩⟩
def AM.op{d:Nat}{β:Type}{a:Option β}{φ:β→AI}(hq:Q7 N k B C y (some d) o=true)(h:El tb Γ o a φ)(s:(b:β)→AM tb (Γ.push d (φ b)) N k B C l w ks Q):AM tb Γ N k B C (⟨some d,none,o⟩::l) (some y::w) ks Q:=
 ⟨a.bind fun b=>(s b).m,fun E f H ⟨rv,fp,I⟩ ms hms es hes r hr=>by
  obtain⟨b,hb,hr⟩:=Option.bind_eq_some_iff.1 hr
  obtain⟨v,u,h1,h2,h3⟩:=h E rv fp f H I b hb
  obtain⟨p,e,f',H',g,g'⟩:=(s b).ok E (put f (some d) v) H ⟨rv,fp,I.push h3⟩ ms (hms.put (NT hq).1) es (hes.put (NT hq).2) r hr
  exact⟨p,e,f',H',Ze hq hms h1 h2 g,g'⟩⟩
def AL{d:Nat}{φ:AI}(hq:Q7 N k B C y (some d) o=true)(h:El tb Γ o (some ()) fun _=>φ)(s:AM tb (Γ.push d φ) N k B C l w ks Q):AM tb Γ N k B C (⟨some d,none,o⟩::l) (some y::w) ks Q:=
 ⟨s.m,(AM.op hq h fun _=>s).ok⟩
def DE{d:Nat}{t:T}{x:t.α}(hq:Q7 N k B C y (some d) o=true)(h:El tb Γ o (some ()) fun _=> .val t x)(s:(y:t.α)→AM tb (Γ.push d (.val t y)) N k B C l w ks Q):AM tb Γ N k B C (⟨some d,none,o⟩::l) (some y::w) ks Q:=
 AL hq h (s x)
def Sj{d:Nat}{t:T}{x:t.α}(hq:Q7 N k B C y (some d) o=true)(h:El tb Γ o (some ()) fun _=> .rp t x)(s:(y:t.α)→AM tb (Γ.push d (.rp t y)) N k B C l w ks Q):AM tb Γ N k B C (⟨some d,none,o⟩::l) (some y::w) ks Q:=
 AL hq h (s x)
def YQ(N k:Nat)(B:List Ob)(C:List Cb)(lo hi d:Nat)(o:Eu):Bool:= !Kn N k lo hi o&&(Rp N k lo hi (some d) o&&(H5 (some d) B&&Je (some d) C))
def XP{α γ:Type}(a:Option α)(F:(b:α)→a=some b→Option γ):Option γ:=
 match a,F with
 |some b,F=>F b rfl
 |none,_=>none
theorem SG{α γ:Type}{a:Option α}{F:(b:α)→a=some b→Option γ}{r:γ}(h:XP a F=some r): ∃b e,F b e=some r:=by
 cases a with
 |none=>cases h
 |some b=>exact⟨b,rfl,h⟩
def Tt{d lo hi:Nat}{β:Type}{a:Option β}{φ:β→AI}(hq:YQ N k B C lo hi d o=true)(h:El tb Γ o a φ)
  (s:(b:β)→a=some b→AM tb (Γ.push d (φ b)) N k (⟨o,d,φ b,hi-k⟩::B) C l w ks Q):AM tb Γ N k B C (⟨some d,none,o⟩::l) (some (lo,hi)::w) ks Q:=
 ⟨XP a fun b e=>(s b e).m,fun E f H ⟨rv,fp,I⟩ ms hms es hes r hr=>by
  obtain⟨b,hb,hr⟩:=SG hr
  obtain⟨v,u',h1,h2,h3⟩:=h E rv fp f H I b hb
  simp only[YQ,Bool.and_eq_true,Bool.not_eq_true']at hq
  obtain⟨p,e,f',H',h4,h5⟩:=(s b hb).ok E (put f (some d) v) H ⟨rv,fp,I.push h3⟩ (⟨o,v,hi-k⟩::ms) (.cons (by simp[put,get]) (hms.put hq.2.2.1)) es (hes.put hq.2.2.2) r hr
  refine⟨p,e,f',H', .inl ⟨rfl,(v,u'),h1,h2,hms.fresh hq.2.2.1, .inl ⟨by rw[hq.2.1];simp,?_⟩⟩,h5⟩
  simp only[Tq,hq.1,cond_false]
  exact h4⟩
def FE{d lo hi:Nat}{φ:AI}(hq:YQ N k B C lo hi d o=true)(h:El tb Γ o (some ()) fun _=>φ)
  (s:AM tb (Γ.push d φ) N k (⟨o,d,φ,hi-k⟩::B) C l w ks Q):AM tb Γ N k B C (⟨some d,none,o⟩::l) (some (lo,hi)::w) ks Q:=
 ⟨s.m,(Tt hq h fun _ _=>s).ok⟩
def Tu{d n t lo hi t0 off lo0:Nat}{ag:Bool}{u:T}{x:u.α}(i:Nat){j o o0:Nat}(hi0:C[i]? =some ⟨ag,n,t0,off,lo0,u,x⟩)(ht:B4 Γ.ts t=some (.cp j o))(ht0:B4 Γ.ts t0=some (.cp j o0))(ho:o=o0+off)
  (hq:(Nat.beq hi k&&(Nat.ble lo0 lo&&(H5 (some d) B&&Je (some d) C)))=true) (hu:u.Uni) (h:El tb Γ (.ld ag n (.t t)) (some ()) fun _=> .val u x)
  (s:AM tb (Γ.push d (.val u x)) N k B C l w ks Q):AM tb Γ N k B C (⟨some d,none, .ld ag n (.t t)⟩::l) (some (lo,hi)::w) ks Q:=
 ⟨s.m,fun E f H ⟨rv,fp,I⟩ ms hms es hes r hr=>by
  obtain⟨v,u',h1,h2,h3⟩:=h E rv fp f H I () rfl
  simp only[Bool.and_eq_true]at hq
  obtain⟨p,e,f',H',h4,h5⟩:=s.ok E (put f (some d) v) H ⟨rv,fp,I.push h3⟩ ms (hms.put hq.2.2.1) es (hes.put hq.2.2.2) r hr
  obtain⟨x',hx,e1,e2,e3,⟨id,o',e4,e5⟩,P,H0,e6⟩:=hes.find hi0
  have hv:v=x'.v:=hu.V h3 e6
  obtain⟨_,id1,g1,g2⟩:=I.temps _ _ ht
  obtain⟨_,id2,g3,g4⟩:=I.temps _ _ ht0
  rw[g1]at g3;cases g3
  have e4':get f t0= .ptr id o':=e4
  rw[g4]at e4';cases e4'
  refine⟨p,e,f',H', .inl ⟨rfl,(v,u'),h1,h2,hms.fresh hq.2.2.1, .inr ⟨Nat.eq_of_beq_eq_true hq.1,⟨x',hx,t,?_,?_,hv,?_⟩,h4⟩⟩,h5⟩
  ·rw[e1,e2]
  ·rw[g2,e5,ho]
  ·have e3':x'.lo=lo0:=e3
   rw[e3'];exact Nat.le_of_ble_eq_true hq.2.1⟩
def HR{d:Option Nat}{β:Type}{a:Option β}{Γ':β→Cx}(hq:UF B C' d=true)(hb: ∀b,OS tb (Γ' b) B)(hc:GT Γ k C C')(h:Mr tb Γ d o a Γ')(s:(b:β)→AM tb (Γ' b) N (k+1) (Th B) C' l w ks Q):AM tb Γ N k B C (⟨d,none,o⟩::l) (none::w) ks Q:=
 ⟨a.bind fun b=>(s b).m,fun E f H ⟨rv,fp,I⟩ ms hms es hes r hr=>by
  obtain⟨b,hb',hr⟩:=Option.bind_eq_some_iff.1 hr
  obtain⟨v,u,h1,rv',fp',h3⟩:=h E rv fp f H I b hb'
  obtain⟨es',g1,g2⟩:=Zd (l:=l) (w:=w) (N:=N) hq (hb b) hc hms hes I h1 h3
  have hq':=hq;simp only[UF,Bool.and_eq_true]at hq'
  obtain⟨p,e,f',H',g,g'⟩:=(s b).ok E _ _ ⟨rv',fp',h3⟩ _ (hms.put hq'.1).dec _ g1 r hr
  exact⟨p,e,f',H',g2 p g,g'⟩⟩
end
end Go.Proofs.Ytapafbjgdfgodaa.Am
namespace Go.Proofs.Ytapafbjgdfgodaa.Am
section
variable{tb:Ce}{tB te ncc nne nws nwb nbs:Nat}{h:A3}{id:Nat}{a b:AV}
theorem X4{fn:EP}{args vs:List AV}{f f':Fr}{G:A3}{e:Ex}(hn:args.length=fn.np)(hf:(args.zipIdx.map fun p=>(p.2,p.1))=f)(he:Bd tb (CF tb) fn.body f h=some (e,f',G))(hex:e= .ret∨e= .normal)(hr:results f' G fn.res=some vs):
  body tb (CF tb) fn args h=some (S5 fn.warm h.length G vs):=by
 simp only[body,if_pos hn,hf,he,Option.bind_some]
 rcases hex with rfl|rfl<;>simp[hr]
end
end Go.Proofs.Ytapafbjgdfgodaa.Am
namespace Go.Proofs.Ytapafbjgdfgodaa.Am
section
variable{tb:Ce}{tB te ncc nne nws nwb nbs:Nat}
variable{Γ:Cx}{a b:AO}
theorem Bn.dom{E:JL}{rv:Nat→AV}{fp:Fp}{f:Fr}{H G:A3}(R:Bn E Γ rv fp f H){j:Nat}{S:D1}{D:ZK}{y:D.α}(hnk:Ck (AA Γ.ss j)=false)(hl:AT Γ.ss j){F':Nat→Prop}(hlen:H.length≤G.length)(hG: ∀i,i<H.length→ ¬fp j i→G[i]? =H[i]?)
  (hF: ∀i,F' i→fp j i∨(H.length≤i∧i<G.length)) (hw:CB G≤G.length) (hS:S= .dom D y) (hR: ∀Q,D.R F' Q G (rv j) y):
  ∃rv' fp',rv' j=rv j∧AT ((j,S)::Γ.ss) j∧Bn E ⟨Γ.ts,(j,S)::Γ.ss⟩ rv' fp' f G:=by
 subst hS
 exact R.chg (j:=j) (S:= .dom D y) (v:=rv j) (F:=F') (G:=G) hnk rfl hlen (fun i hi hn=>hG i hi (hn hl)) (fun i hi=>(hF i hi).imp (fun h=>⟨hl,h⟩) id) (fun _=> .inl rfl) hw (Nat.le_trans (R.rvlt j hl) hlen) (.inr ((R.scal j hl).resolve_left (by rw[hnk];simp)))
  fun rv' fp' e1 e2 _ _=>by
   show D.R (fp' j) _ G (rv' j) y
   rw[e1,e2];exact hR _
end
end Go.Proofs.Ytapafbjgdfgodaa.Am
namespace Go.Proofs.Ytapafbjgdfgodaa.Am
section
variable{tb:Ce}{Γ:Cx}{a b:AO}{E:JL}{rv:Nat→AV}{fp:Fp}{f:Fr}{H:A3}
theorem VA{v:AV}(h:B8 v=0)(hs:scal v=true):BB tb Γ (.k v) (.con v):=fun _ _ _ _ _ _=>⟨rfl,h,hs⟩
theorem Bn.keepNew(I:Bn E Γ rv fp f H){j:Nat}{φ:AI}{v:AV}(hj:AA Γ.ss j=none)(h:FR rv Γ.ss (Pf E Γ.ss fp H) H φ v)(hv:B8 v≤H.length):
  ∃rv' fp',rv' j=v∧(∀k,k≠j→rv' k=rv k)∧Bn E ⟨Γ.ts,(j, .keep φ)::Γ.ss⟩ rv' fp' f H∧ ∀ψ w,FR rv Γ.ss (Pf E Γ.ss fp H) H ψ w→FR rv' ((j, .keep φ)::Γ.ss) (Pf E ((j, .keep φ)::Γ.ss) fp' H) H ψ w:=by
 have hnl:=ER hj
 let rv':Nat→AV:=fun k=>if k=j then v else rv k
 let fp':Fp:=fun k=>if k=j then fun _=>False else fp k
 have hrj:rv' j=v:=if_pos rfl
 have hfj: ∀i,¬fp' j i:=fun i h=>by simp only[fp',if_true]at h
 have hr: ∀k,k≠j→rv' k=rv k:=fun k hk=>if_neg hk
 have hf: ∀k,k≠j→fp' k=fp k:=fun k hk=>if_neg hk
 have hlv: ∀k,k≠j→(AT ((j, .keep φ)::Γ.ss) k↔AT Γ.ss k):=fun k hk=>L8 hk
 have hne: ∀k,AT Γ.ss k→k≠j:=fun k l e=>hnl (e▸l)
 have hfind: ∀k,k≠j→AA ((j, .keep φ)::Γ.ss) k=AA Γ.ss k:=fun k hk=>by simp only[AA,if_neg (Ne.symm hk)]
 have hP: ∀i,Pf E Γ.ss fp H i→Pf E ((j, .keep φ)::Γ.ss) fp' H i:=by
  rintro i (h|⟨h1,h2,h3⟩)
  ·exact .inl h
  ·refine .inr ⟨h1,h2,fun k l e=> ?_⟩
   by_cases hk:k=j
   ·subst hk;exact hfj i e
   ·rw[hf k hk]at e;exact h3 k ((hlv k hk).1 l) e
 have hsame: ∀ψ,LQ rv rv' Γ.ss ((j, .keep φ)::Γ.ss) ψ:=fun ψ k _ l=>⟨⟨(hlv k (hne k l)).2 l,fun e=>by rw[hfind k (hne k l)];exact e⟩,hr k (hne k l)⟩
 have hFR: ∀ψ w,FR rv Γ.ss (Pf E Γ.ss fp H) H ψ w→FR rv' ((j, .keep φ)::Γ.ss) (Pf E ((j, .keep φ)::Γ.ss) fp' H) H ψ w:=fun ψ w k=>k.mono (fun i hi=>⟨hP i hi,rfl⟩) (hsame ψ)
 refine⟨rv',fp',hrj,hr,⟨I.le,I.base,I.wf,?_,?_,?_,?_,?_,fun t ψ e=>hFR ψ _ (I.temps t ψ e),?_⟩,hFR⟩
 ·intro k i l e
  by_cases hk:k=j
  ·subst hk;exact absurd e (hfj i)
  ·rw[hf k hk]at e;exact I.fplt k i ((hlv k hk).1 l) e
 ·intro k l
  by_cases hk:k=j
  ·subst hk;rw[hrj];exact hv
  ·rw[hr k hk];exact I.rvlt k ((hlv k hk).1 l)
 ·intro k l
  by_cases hk:k=j
  ·subst hk;exact .inl (by simp only[AA,if_true];rfl)
  ·rw[hr k hk,hfind k hk];exact I.scal k ((hlv k hk).1 l)
 ·intro k k' i l l' e e'
  by_cases hk:k=j
  ·subst hk;exact absurd e (hfj i)
  ·by_cases hk':k'=j
   ·subst hk';exact absurd e' (hfj i)
   ·rw[hf k hk]at e
    rw[hf k' hk']at e'
    exact I.inj k k' i ((hlv k hk).1 l) ((hlv k' hk').1 l') e e'
 ·intro k S e
  by_cases hk:k=j
  ·subst hk
   simp only[AA,if_true,Option.some.injEq]at e
   subst e
   exact⟨by rw[hrj];exact hFR φ v h,hfj⟩
  ·rw[hfind k hk]at e
   exact(I.slots k S e).keep (hr k hk) (hf k hk) (fun i hi=>⟨hP i hi,rfl⟩) (Nat.le_refl _) (fun _ _=>rfl) (fun ps _ p _=>hsame p.2) (fun ψ _=>hsame ψ) fun _ _ _=>hsame _
 ·intro k ψ e
  by_cases hk:k=j
  ·subst hk;simp only[AA,if_true]at e;cases e
  ·rw[hfind k hk]at e;exact hFR ψ _ (I.gh k ψ e)
def Tr:Nat→List AI→Ss→Ss
 |_,[],ss=>ss
 |j,φ::l,ss=>Tr (j+1) l ((j, .keep φ)::ss)
def NF(ss:Ss):Nat→List AI→Prop
 |_,[]=>True
 |j,_::l=>AA ss j=none∧NF ss (j+1) l
def TZ(rv:Nat→AV)(ss:Ss)(P:Nat→Prop)(H:A3):List AI→List AV→Prop
 |[],[]=>True
 |φ::l,v::r=>FR rv ss P H φ v∧TZ rv ss P H l r
 |_,_=>False
theorem Mg{ss:Ss}{S:D1}{k:Nat}: ∀{l:List AI} {j:Nat},k<j→NF ss j l→NF ((k,S)::ss) j l
 |[],_,_,_=>trivial
 |_::_,j,hk,h=>⟨by simp only[AA,if_neg (show¬k=j by omega)];exact h.1,Mg (by omega) h.2⟩
theorem Sh{k:Nat}: ∀{l:List AI} {j:Nat} {ss:Ss},k<j→AA (Tr j l ss) k=AA ss k
 |[],_,_,_=>rfl
 |φ::l,j,ss,hk=>by
  rw[Tr,Sh (by omega)]
  simp only[AA,if_neg (show¬j=k by omega)]
theorem Bn.keepL: ∀{l:List AI} {vs:List AV} {Γ:Cx} {rv:Nat→AV} {fp:Fp} {j:Nat},Bn E Γ rv fp f H→NF Γ.ss j l→TZ rv Γ.ss (Pf E Γ.ss fp H) H l vs→(∀v∈vs,B8 v≤H.length)→
  ∃rv' fp',(List.range' j l.length).map rv'=vs∧Ja (Tr j l Γ.ss) (List.range' j l.length)∧(∀k,k<j→rv' k=rv k)∧Bn E ⟨Γ.ts,Tr j l Γ.ss⟩ rv' fp' f H
 |[],[],Γ,rv,fp,j,I,_,_,_=>⟨rv,fp,rfl,fun _ h=>(by cases h),fun _ _=>rfl,I⟩
 |φ::l,v::vs,Γ,rv,fp,j,I,hf,hv,hm=>by
  obtain⟨rv1,fp1,h1,h2,h3,h4⟩:=I.keepNew hf.1 hv.1 (hm v List.mem_cons_self)
  have key: ∀{l:List AI} {vs:List AV},TZ rv Γ.ss (Pf E Γ.ss fp H) H l vs→TZ rv1 ((j, .keep φ)::Γ.ss) (Pf E ((j, .keep φ)::Γ.ss) fp1 H) H l vs:=by
   intro l
   induction l with
   |nil=>intro vs h;cases vs<;>exact h
   |cons ψ l ih=>
    intro vs h
    cases vs with
    |nil=>exact h
    |cons w vs=>exact⟨h4 ψ w h.1,ih h.2⟩
  obtain⟨rv2,fp2,g1,g2,g3,g4⟩:=Bn.keepL (l:=l) (vs:=vs) (j:=j+1) h3 (Mg (by omega) hf.2) (key hv.2) (fun w hw=>hm w (List.mem_cons_of_mem _ hw))
  refine⟨rv2,fp2,?_,fun k hk=> ?_,fun k hk=>by rw[g3 k (by omega),h2 k (by omega)],g4⟩
  ·rw[List.length_cons,List.range'_succ,List.map_cons,g1,g3 j (by omega),h1]
  ·rw[List.length_cons,List.range'_succ]at hk
   rcases List.mem_cons.1 hk with rfl|hk
   ·rw[Tr,Sh (by omega)];simp only[AA,if_true];rfl
   ·exact g2 k hk
inductive LR(tb:Ce)(Γ:Cx):List AO→List AI→Prop where
 |nil:LR tb Γ [] []
 |cons {a:AO} {φ:AI} {l:List AO} {r:List AI}:BB tb Γ a φ→LR tb Γ l r→LR tb Γ (a::l) (φ::r)
theorem LR.spec(I:Bn E Γ rv fp f H): ∀{l:List AO} {r:List AI},LR tb Γ l r→TZ rv Γ.ss (Pf E Γ.ss fp H) H r (l.map (eval tb f))
 |_,_, .nil=>trivial
 |_,_, .cons h k=>⟨h E rv fp f H I,k.spec I⟩
theorem LR.length: ∀{l:List AO} {r:List AI},LR tb Γ l r→r.length=l.length
 |_,_, .nil=>rfl
 |_,_, .cons _ k=>by simp[k.length]
theorem LR.app: ∀{l m:List AO} {r q:List AI},LR tb Γ l r→LR tb Γ m q→LR tb Γ (l++m) (r++q)
 |_,_,_,_, .nil,k=>k
 |_,_,_,_, .cons h k,g=> .cons h (k.app g)
def Qj:AI→Bool
 | .junk=>false
 |_=>true
theorem TZ.men(hp: ∀i,Pf E Γ.ss fp H i→i<H.length)(hi: ∀j,AT Γ.ss j→B8 (rv j)≤H.length): ∀{l:List AI} {vs:List AV},l.all Qj=true→TZ rv Γ.ss (Pf E Γ.ss fp H) H l vs→ ∀v∈vs,B8 v≤H.length
 |[],[],_,_,v,hv=>by cases hv
 |φ::l,w::vs,hj,h,v,hv=>by
  simp only[List.all_cons,Bool.and_eq_true]at hj
  rcases List.mem_cons.1 hv with rfl|hv
  ·exact FR.men hp hi (by rintro rfl;simp[Qj]at hj) h.1
  ·exact TZ.men hp hi hj.2 h.2 v hv
def ZS(tb:Ce)(Γ:Cx)(d:Option Nat)(o:Eu)(Γ':Cx):Prop:=
 ∀E rv fp f H,Bn E Γ rv fp f H→ ∃v u,B7 tb (CF tb) (eval tb f) H o=some (v,u)∧u.getD H=H∧ ∃rv' fp',Bn E Γ' rv' fp' (put f d v) H
theorem XY{d:Nat}{fn:Fn}{xs ys:List AO}{φs ψs:List AI}(j:Nat)(hx:LR tb Γ xs φs)(hy:LR tb Γ ys ψs)(hn:(φs++ψs).all Qj=true)(hf:NF Γ.ss j (φs++ψs)){js ks:List Nat}(hjs:js=List.range' j φs.length)(hks:ks=List.range' (j+φs.length) ψs.length):
  ZS tb Γ (some d) (.mkf fn xs ys) ⟨(d, .fnv fn js ks)::Γ.ts,Tr j (φs++ψs) Γ.ss⟩:=by
 intro E rv fp f H R
 subst hjs hks
 have hv:=(hx.app hy).spec R
 obtain⟨rv',fp',h1,h2,_,h4⟩:=R.keepL (j:=j) hf hv (TZ.men R.ltP R.rvlt hn hv)
 rw[List.length_append,←List.range'_append_1]at h1 h2
 rw[List.map_append,List.map_append]at h1
 obtain⟨e1,e2⟩:=List.append_inj h1 (by simp[hx.length])
 refine⟨_,none,rfl,rfl,rv',fp',h4.push (d:=d) (φ:= .fnv fn _ _) ⟨h2,?_⟩⟩
 rw[e1,e2]
def Zi:Option D1→Bool
 |some (.row _ _)=>true
 |some (.rowk _ _)=>true
 |some (.cells _)=>true
 |some (.dom _ _)=>true
 |_=>false
def Zc(ss:Ss):AI→Option Nat
 | .own j=>if Zi (AA ss j)then some 1 else none
 | .val t _=>some t.sz
 | .rp _ _=>some 1
 | .cp _ _=>some 1
 | .ep _ _ _=>some 1
 | .con _=>some 1
 | .fnv _ _ _=>some 1
 |_=>none
def X9:AI→Bool
 | .val t _=>t.agg
 |_=>false
theorem S6{P:Nat→Prop}{v:AV}(h:Qb P v):cellsOf v=[v]:=by
 cases v<;>simp only[Qb]at h<;>rfl
theorem UU(I:Bn E Γ rv fp f H){φ:AI}{v:AV}{n:Nat}(hs:Zc Γ.ss φ=some n)(h:FR rv Γ.ss (Pf E Γ.ss fp H) H φ v):(cellsOf v).length=n∧HO (X9 φ) (cellsOf v)=some v:=by
 cases φ<;>simp only[Zc,Option.some.injEq,reduceCtorEq]at hs
 case own j=>
  split at hs
  ·rename_i ho
   cases hs
   obtain⟨l,rfl⟩:=h
   have hsc:=(I.scal j l).resolve_left (by
    intro hk
    cases e:AA Γ.ss j with
    |none=>rw[e]at ho;cases ho
    |some S=>rw[e]at ho hk;cases S<;>simp only[Zi,Ck,Bool.false_eq_true]at ho hk)
   rw[Gu hsc];exact⟨rfl,rfl⟩
  ·cases hs
 ·subst hs
  rename_i t x
  have hc:=T.V.cells h
  refine⟨t.len hc,?_⟩
  rcases h with ⟨ha,cs,rfl,_⟩|⟨ha,hr⟩
  ·simp only[X9,ha];rfl
  ·have:=t.sca hr
   simp only[List.all_cons,List.all_nil,Bool.and_true]at this
   rw[Gu this]
   simp only[X9,ha];rfl
 ·subst hs;rw[S6 h.1];exact⟨rfl,rfl⟩
 ·subst hs;obtain⟨_,id,_,rfl⟩:=h;exact⟨rfl,rfl⟩
 ·subst hs;obtain⟨_,id,m,_,_,rfl⟩:=h;exact⟨rfl,rfl⟩
 ·subst hs;obtain⟨rfl,_,hsc⟩:=h;rw[Gu hsc];exact⟨rfl,rfl⟩
 ·subst hs;obtain⟨_,rfl⟩:=h;exact⟨rfl,rfl⟩
variable{ks:List Kf}{ρ:Type}{Q:H6 ρ}
def TW{q:Bool}{d:Option Nat}{o:Eu}{l:List AZ}{Γ':Cx}(h:ZS tb Γ d o Γ')(k:Aa tb Γ' (rg q l) ks Q):Aa tb Γ (rg q (⟨d,none,o⟩::l)) ks Q:=
 ⟨k.m,fun E f H ⟨rv,fp,I⟩ r hr=>by
  obtain⟨v,u,h1,h2,rv',fp',h3⟩:=h E rv fp f H I
  obtain⟨e,f',H',h4,h5⟩:=k.ok E _ _ ⟨rv',fp',h3⟩ r hr
  exact⟨e,f',H',by rw[DQ h1 h2];exact h4,h5⟩⟩
end
end Go.Proofs.Ytapafbjgdfgodaa.Am
namespace Go.Proofs.Ytapafbjgdfgodaa.Am
inductive UP where
 |o (a:AO)
 |k (j:Nat)
def Sr(tb:Ce)(f:Fr)(rv:Nat→AV):UP→AV
 | .o a=>eval tb f a
 | .k j=>rv j
def ZI(tb:Ce)(Γ:Cx)(s:UP)(φ:AI):Prop:= ∀E rv fp f H,Bn E Γ rv fp f H→FR rv Γ.ss (Pf E Γ.ss fp H) H φ (Sr tb f rv s)
inductive QE(tb:Ce)(Γ:Cx):List UP→List AI→Prop where
 |nil:QE tb Γ [] []
 |cons {s:UP} {φ:AI} {l:List UP} {r:List AI}:ZI tb Γ s φ→QE tb Γ l r→QE tb Γ (s::l) (φ::r)
def So(tb:Ce)(Γ:Cx)(o:Eu)(g:Nat)(l:List UP):Prop:=
 ∀E rv fp f H,Bn E Γ rv fp f H→B7 tb (CF tb) (eval tb f) H o=C2 tb (CF tb) H g (l.map (Sr tb f rv))
section
variable{tb:Ce}{Γ:Cx}{a b:AO}{E:JL}{rv:Nat→AV}{fp:Fp}{f:Fr}{H:A3}
theorem MJ{φ:AI}(h:BB tb Γ a φ):ZI tb Γ (.o a) φ:=h
theorem Z9{j:Nat}{φ:AI}(hj:AA Γ.ss j=some (.keep φ)):ZI tb Γ (.k j) φ:=fun _ _ _ _ _ I=>(I.slots j _ hj).1
theorem Gc{g:Nat}{xs:List AO}{l:List UP}(hl:l=xs.map .o):So tb Γ (.call g xs) g l:=by
 intro E rv fp f H I
 subst hl
 simp only[B7,List.map_map];rfl
theorem MR{g:Nat}{x:AO}{xs:List AO}{js ks:List Nat}{l:List UP}(ha:BB tb Γ x (.fnv (.func g) js ks))(hl:l=js.map .k++xs.map .o++ks.map .k):So tb Γ (.callv x xs) g l:=by
 intro E rv fp f H I
 subst hl
 simp only[B7,(ha E rv fp f H I).2,List.map_append,List.map_map];rfl
theorem QE.spec(I:Bn E Γ rv fp f H): ∀{l:List UP} {r:List AI},QE tb Γ l r→TZ rv Γ.ss (Pf E Γ.ss fp H) H r (l.map (Sr tb f rv))
 |_,_, .nil=>trivial
 |_,_, .cons h k=>⟨h E rv fp f H I,k.spec I⟩
def MF:Nat→List AI→Ts
 |_,[]=>[]
 |k,φ::r=>(k,φ)::MF (k+1) r
def FH(vs:List AV)(k:Nat):Fr:=(vs.zipIdx k).map fun p=>(p.2,p.1)
theorem Ln{P:Nat→Prop}{ss:Ss}: ∀{r:List AI} {vs:List AV} {k:Nat},TZ rv ss P H r vs→ ∀t φ,B4 (MF k r) t=some φ→k≤t∧FR rv ss P H φ (get (FH vs k) t)
 |[],[],_,_,t,φ,e=>by simp[MF,B4]at e
 |ψ::r,v::vs,k,h,t,φ,e=>by
  simp only[MF,B4]at e
  simp only[FH,List.zipIdx_cons,List.map_cons,get]
  split at e
  ·rename_i hk
   cases e
   subst hk
   exact⟨Nat.le_refl _,by rw[if_pos rfl];exact h.1⟩
  ·rename_i hk
   obtain⟨h1,h2⟩:=Ln (k:=k+1) h.2 t φ e
   exact⟨by omega,by rw[if_neg hk];exact h2⟩
def D6(J:Nat):Ts→Ss→Ss
 |[],ss=>ss
 |(t,φ)::r,ss=>(J+t, .ghost φ)::D6 J r ss
def J1(Γ:Cx)(J:Nat):Ts→Prop
 |[]=>True
 |(t,φ)::r=>(B4 Γ.ts t=some φ∧AA Γ.ss (J+t)=none)∧J1 Γ J r
def Fg(J:Nat):Ss→Bool
 |[]=>true
 |(j, .ghost _)::r=>Nat.blt j J&&Fg J r
 |_::r=>Fg J r
theorem Ih{J:Nat}: ∀{ss:Ss} {j:Nat} {φ:AI},Fg J ss=true→AA ss j=some (.ghost φ)→j<J
 |[],_,_,_,e=>by simp[AA]at e
 |(u,S)::r,j,φ,h,e=>by
  simp only[AA]at e
  split at e
  ·rename_i hu
   cases e
   simp only[Fg,Bool.and_eq_true]at h
   have:=h.1
   rw[Ll]at this
   omega
  ·refine Ih (ss:=r) ?_ e
   cases S<;>simp only[Fg,Bool.and_eq_true]at h<;>first|exact h.2|exact h
theorem FS{J:Nat}{ss:Ss}: ∀{l:Ts} {j:Nat},AA (D6 J l ss) j=AA ss j∨ ∃t φ,j=J+t∧B4 l t=some φ∧AA (D6 J l ss) j=some (.ghost φ)
 |[],_=> .inl rfl
 |(t,φ)::r,j=>by
  simp only[D6,AA]
  by_cases hj:J+t=j
  ·rw[if_pos hj]
   exact .inr ⟨t,φ,hj.symm,by simp[B4],rfl⟩
  ·rw[if_neg hj]
   rcases FS (J:=J) (ss:=ss) (l:=r) (j:=j)with h|⟨t',φ',h1,h2,h3⟩
   ·exact .inl h
   ·refine .inr ⟨t',φ',h1,?_,h3⟩
    simp only[B4]
    rw[if_neg (fun e=>hj (by rw[h1,e]))]
    exact h2
theorem Gs{J:Nat}: ∀{l:Ts} {t:Nat} {φ:AI},J1 Γ J l→B4 l t=some φ→B4 Γ.ts t=some φ∧AA Γ.ss (J+t)=none
 |[],_,_,_,e=>by simp[B4]at e
 |(u,ψ)::r,t,φ,h,e=>by
  simp only[B4]at e
  split at e
  ·rename_i hu
   cases e
   subst hu
   exact h.1
  ·exact Gs h.2 e
theorem Bn.enter(I:Bn E Γ rv fp f H){J:Nat}{L:Ts}{srcs:List UP}{φs:List AI}(hL:J1 Γ J L)(hg:Fg J Γ.ss=true)(ha:QE tb Γ srcs φs):
  Bn {E with g:=fun j=>if J≤j then get f (j-J)else E.g j} ⟨MF 0 φs,D6 J L Γ.ss⟩ rv fp (FH (srcs.map (Sr tb f rv)) 0) H:=by
 have hlv: ∀k,AT (D6 J L Γ.ss) k↔AT Γ.ss k:=by
  intro k
  rcases FS (J:=J) (ss:=Γ.ss) (l:=L) (j:=k)with h|⟨t,φ,rfl,h2,h3⟩
  ·simp only[AT,h]
  ·have:=(Gs hL h2).2
   simp only[AT,h3,this,VG]
 have hkeep: ∀k,Ck (AA (D6 J L Γ.ss) k)=Ck (AA Γ.ss k):=by
  intro k
  rcases FS (J:=J) (ss:=Γ.ss) (l:=L) (j:=k)with h|⟨t,φ,rfl,h2,h3⟩
  ·rw[h]
  ·rw[h3,(Gs hL h2).2];rfl
 have hP: ∀i,Pf E Γ.ss fp H i→Pf E (D6 J L Γ.ss) fp H i:=fun i=>Pf.same fun k l=>(hlv k).1 l
 have hFR: ∀φ v,FR rv Γ.ss (Pf E Γ.ss fp H) H φ v→FR rv (D6 J L Γ.ss) (Pf E (D6 J L Γ.ss) fp H) H φ v:=fun φ v h=>
  h.mono (fun i hi=>⟨hP i hi,rfl⟩) fun k _ l=>⟨⟨(hlv k).2 l,fun e=>by rw[hkeep];exact e⟩,rfl⟩
 have hFRs: ∀{l:List AI} {vs:List AV},TZ rv Γ.ss (Pf E Γ.ss fp H) H l vs→TZ rv (D6 J L Γ.ss) (Pf E (D6 J L Γ.ss) fp H) H l vs:=by
  intro l
  induction l with
  |nil=>intro vs h;cases vs<;>exact h
  |cons φ l ih=>
   intro vs h
   cases vs with
   |nil=>exact h
   |cons v vs=>exact⟨hFR φ v h.1,ih h.2⟩
 refine⟨I.le,I.base,I.wf,fun j i l e=>I.fplt j i ((hlv j).1 l) e,fun j l=>I.rvlt j ((hlv j).1 l),fun j l=>(I.scal j ((hlv j).1 l)).imp (fun e=>by rw[hkeep];exact e) id,fun j k i l l'=>I.inj j k i ((hlv j).1 l) ((hlv k).1 l'),?_,?_,?_⟩
 ·intro j S e
  rcases FS (J:=J) (ss:=Γ.ss) (l:=L) (j:=j)with h|⟨t,φ,rfl,h2,h3⟩
  ·replace e:AA (D6 J L Γ.ss) j=some S:=e
   rw[h]at e
   exact(I.slots j S e).keep rfl rfl (fun i hi=>⟨hP i hi,rfl⟩) (Nat.le_refl _) (fun _ _=>rfl) (fun _ _ _ _ k _ l=>⟨⟨(hlv k).2 l,fun e=>by rw[hkeep];exact e⟩,rfl⟩) (fun _ _ k _ l=>⟨⟨(hlv k).2 l,fun e=>by rw[hkeep];exact e⟩,rfl⟩) (fun _ _ _ k _ l=>⟨⟨(hlv k).2 l,fun e=>by rw[hkeep];exact e⟩,rfl⟩)
  ·replace e:AA (D6 J L Γ.ss) (J+t)=some S:=e
   rw[h3]at e;cases e;trivial
 ·intro t φ e
  exact(Ln (hFRs (ha.spec I)) t φ e).2
 ·intro j φ e
  show FR rv (D6 J L Γ.ss) _ H φ (if J≤j then get f (j-J)else E.g j)
  rcases FS (J:=J) (ss:=Γ.ss) (l:=L) (j:=j)with h|⟨t,ψ,rfl,h2,h3⟩
  ·replace e:AA (D6 J L Γ.ss) j=some (.ghost φ):=e
   rw[h]at e
   have:=Ih hg e
   rw[if_neg (by omega)]
   exact hFR φ _ (I.gh j φ e)
  ·replace e:AA (D6 J L Γ.ss) (J+t)=some (.ghost φ):=e
   rw[h3]at e
   cases e
   rw[if_pos (by omega),show J+t-J=t by omega]
   exact hFR _ _ (I.temps t _ (Gs hL h2).1)
def Z4{τ:Type}(res:List Ge)(Γr:τ→Cx):H6 τ:=fun E p e f H=>
 (e= .ret∨e= .normal)∧ ∃vs,results f H res=some vs∧Rel E (Γr p) (FH vs 0) H
def Z3(Γ:Cx)(a:Ge)(φ:AI):Prop:= ∀E rv fp f H,Bn E Γ rv fp f H→ ∀r vs,results f H r=some vs→ ∃v,results f H (a::r)=some (v::vs)∧FR rv Γ.ss (Pf E Γ.ss fp H) H φ v
inductive Tv(Γ:Cx):List Ge→List AI→Prop where
 |nil:Tv Γ [] []
 |cons {a:Ge} {φ:AI} {l:List Ge} {r:List AI}:Z3 Γ a φ→Tv Γ l r→Tv Γ (a::l) (φ::r)
theorem Tv.spec(I:Bn E Γ rv fp f H): ∀{l:List Ge} {r:List AI},Tv Γ l r→ ∃vs,results f H l=some vs∧TZ rv Γ.ss (Pf E Γ.ss fp H) H r vs
 |_,_, .nil=>⟨[],rfl,trivial⟩
 |_,_, .cons h k=>by
  obtain⟨vs,e,g⟩:=k.spec I
  obtain⟨v,e',g'⟩:=h E rv fp f H I _ vs e
  exact⟨v::vs,e',g',g⟩
theorem Hz{n:Nat}{φ:AI}(h:B4 Γ.ts n=some φ):Z3 Γ (.tmp n) φ:=fun _ _ _ _ _ I r vs hr=>⟨_,by simp only[results,hr,Option.map_some],I.temps n _ h⟩
variable{ks:List Kf}{ρ τ:Type}{Q:H6 ρ}
def BN{res:List Ge}{Γr:τ→Cx}{φs:List AI}(p:τ)(h:Tv Γ res φs)(hs:Sub (Γr p) ⟨MF 0 φs,Γ.ss⟩):Aa tb Γ .ret ks (Z4 res Γr):=
 Ou ⟨some p,fun E f H ⟨rv,fp,I⟩ r hr=>by
  cases hr
  obtain⟨vs,e,g⟩:=h.spec I
  refine⟨.ret,f,H,by simp[Bd,Fa], .inl rfl,vs,e,rv,fp,Bn.sub (Γ:=⟨MF 0 φs,Γ.ss⟩) ?_ hs⟩
  exact⟨I.le,I.base,I.wf,I.fplt,I.rvlt,I.scal,I.inj,I.slots,fun t φ e=>(Ln g t φ e).2,I.gh⟩⟩
def P9{q:Bool}{res:List Ge}{Γr:τ→Cx}{φs:List AI}(p:τ)(h:Tv Γ res φs)(hs:Sub (Γr p) ⟨MF 0 φs,Γ.ss⟩):Aa tb Γ (rg q []) [] (Z4 res Γr):=
 ⟨some p,fun E f H ⟨rv,fp,I⟩ r hr=>by
  cases hr
  obtain⟨vs,e,g⟩:=h.spec I
  refine⟨.normal,f,H,by simp[Cr,Fa], .inr rfl,vs,e,rv,fp,Bn.sub (Γ:=⟨MF 0 φs,Γ.ss⟩) ?_ hs⟩
  exact⟨I.le,I.base,I.wf,I.fplt,I.rvlt,I.scal,I.inj,I.slots,fun t φ e=>(Ln g t φ e).2,I.gh⟩⟩
inductive Lt(tsr:Ts):Nat→AI→Prop where
 |none:Lt tsr 0 (.tup [])
 |one {φ:AI}:B4 tsr 0=some φ→Lt tsr 1 φ
 |vals {n:Nat} {l:List (Σ t:T,t.α)} (hn:l.length=n+2) (h: ∀(i:Nat) (p: Σ t:T,t.α),l[i]? =some p→B4 tsr i=some (.val p.1 p.2)):Lt tsr (n+2) (.tup l)
 |ZP {n:Nat} {js:List Nat} (hn:js.length=n+2) (h: ∀i j,js[i]? =some j→B4 tsr i=some (.kv j)):Lt tsr (n+2) (.tupk js)
 |junk {n:Nat}:Lt tsr n .junk
theorem Jf{vs:List AV}{i:Nat}{v:AV}(h:vs[i]? =some v):get (FH vs 0) i=v:=by
 have key: ∀(vs:List AV) (k i:Nat) (v:AV),vs[i]? =some v→get (FH vs k) (k+i)=v:=by
  intro vs
  induction vs with
  |nil=>intro k i v h;simp at h
  |cons w vs ih=>
   intro k i v h
   simp only[FH,List.zipIdx_cons,List.map_cons,get]
   cases i with
   |zero=>simp only[List.getElem?_cons_zero,Option.some.injEq]at h;rw[if_pos (by omega)];exact h
   |succ i=>
    rw[if_neg (by omega)]
    have:=ih (k+1) i v (by simpa using h)
    rw[show k+(i+1)=k+1+i by omega]
    exact this
 have:=key vs 0 i v h
 rwa [Nat.zero_add]at this
theorem Lt.spec{Γr:Cx}{n:Nat}{φ:AI}{vs:List AV}(I:Bn E Γr rv fp (FH vs 0) H)(hn:vs.length=n)(h:Lt Γr.ts n φ):FR rv Γr.ss (Pf E Γr.ss fp H) H φ (EL vs):=by
 cases h with
 |none=>
  have:vs=[]:=List.eq_nil_of_length_eq_zero hn
  subst this
  exact⟨[],rfl,trivial⟩
 |one h=>
  match vs,hn with
  |[v],_=>
   have:=I.temps 0 _ h
   rw[Jf (i:=0) (v:=v) rfl]at this
   exact this
 | @vals m l hl h=>
  have hp:EL vs= .tup vs:=by
   match vs,hn with
   |_::_::_,_=>rfl
  rw[hp]
  refine⟨vs,rfl,?_⟩
  have key: ∀(vs:List AV) (l:List (Σ t:T,t.α)),vs.length=l.length→(∀(i:Nat) (v:AV) (p: Σ t:T,t.α),vs[i]? =some v→l[i]? =some p→p.1.V (Pf E Γr.ss fp H) H v p.2)→Lr (Pf E Γr.ss fp H) H vs l:=by
   intro vs
   induction vs with
   |nil=>intro l h _;cases l<;>first|trivial|simp at h
   |cons v vs ih=>
    intro l h g
    cases l with
    |nil=>simp at h
    |cons p l=>exact⟨g 0 v p rfl rfl,ih l (by simpa using h) fun i w q a b=>g (i+1) w q (by simpa using a) (by simpa using b)⟩
  refine key vs l (by omega) fun i v p a b=> ?_
  have:=I.temps i _ (h i p b)
  rw[Jf a]at this
  exact this
 | @ZP m js hl h=>
  have hp:EL vs= .tup vs:=by
   match vs,hn with
   |_::_::_,_=>rfl
  rw[hp]
  have hv:vs=js.map rv:=by
   apply List.ext_getElem?
   intro i
   rcases Nat.lt_or_ge i vs.length with hi|hi
   ·have hj:i<js.length:=by omega
    have:=(I.temps i _ (h i js[i] (List.getElem?_eq_getElem hj))).2
    rw[Jf (List.getElem?_eq_getElem hi)]at this
    rw[List.getElem?_eq_getElem hi,List.getElem?_map,List.getElem?_eq_getElem hj,this];rfl
   ·rw[List.getElem?_eq_none hi,List.getElem?_eq_none (by rw[List.length_map];omega)]
  refine⟨fun j hj=> ?_,by rw[hv]⟩
  obtain⟨i,hi,rfl⟩:=List.mem_iff_getElem.1 hj
  exact(I.temps i _ (h i _ (List.getElem?_eq_getElem hi))).1 _ (by simp)
 |junk=>trivial
def P6(Γr:Cx)(ss:Ss)(J:Nat):Ts→Prop
 |[]=>True
 |(t,φ)::r=>(AA Γr.ss (J+t)=some (.ghost φ)∧Hd ss φ)∧P6 Γr ss J r
structure Dh(Γr Γk:Cx)(J:Nat)(d:Option Nat)(n:Nat):Prop where
 ss:UV Γr Γk.ss Γk.ss
 gl:Fg J Γk.ss=true
 ts:match d with
  |none=>P6 Γr Γk.ss J Γk.ts
  |some d=> ∃φ r,Γk.ts=(d,φ)::r∧Lt Γr.ts n φ∧Hd Γk.ss φ∧P6 Γr Γk.ss J r
theorem B9{Γr:Cx}{ss:Ss}{J d n:Nat}{φ:AI}{r:Ts}(h1:UV Γr ss ss)(h2:Fg J ss=true)(h3:Lt Γr.ts n φ)(h4:Hd ss φ)(h5:P6 Γr ss J r):Dh Γr ⟨(d,φ)::r,ss⟩ J (some d) n:=⟨h1,h2,φ,r,rfl,h3,h4,h5⟩
theorem Oj{Γr:Cx}{ss:Ss}{J:Nat}: ∀{l:Ts} {t:Nat} {φ:AI},P6 Γr ss J l→B4 l t=some φ→AA Γr.ss (J+t)=some (.ghost φ)∧Hd ss φ
 |[],_,_,_,e=>by simp[B4]at e
 |(u,ψ)::r,t,φ,h,e=>by
  simp only[B4]at e
  split at e
  ·rename_i hu;cases e;subst hu;exact h.1
  ·exact Oj h.2 e
theorem Bn.back{Γr Γk:Cx}{J n:Nat}{d:Option Nat}{vs:List AV}{f:Fr}(I:Bn {E with g:=fun j=>if J≤j then get f (j-J)else E.g j} Γr rv fp (FH vs 0) H)(hn:vs.length=n)(hb:Dh Γr Γk J d n):
  Bn E Γk rv fp (put f d (EL vs)) H:=by
 have S:Sub ⟨[],Γk.ss⟩ Γr:=⟨trivial,hb.ss⟩
 have I0:=I.sub S
 have hlv: ∀k,AT Γk.ss k→AT Γr.ss k:=by
  intro k l
  cases e:AA Γk.ss k with
  |none=>simp only[AT,e]at l;exact l.elim
  |some S=>
   have:=(EQ hb.ss e).1
   simp only[AT,e]at l
   simp only[AT,this];exact l
 have hP: ∀i,Pf E Γr.ss fp H i→Pf E Γk.ss fp H i:=fun i=>Pf.same hlv
 have hsame: ∀φ,Hd Γk.ss φ→LQ rv rv Γr.ss Γk.ss φ:=fun φ r j hj l=>by
  have hl:=(Np r j hj).1
  refine⟨⟨hl,fun e=> ?_⟩,rfl⟩
  cases e':AA Γk.ss j with
  |none=>simp only[AT,e']at hl;exact hl.elim
  |some S=>rw[(EQ hb.ss e').1]at e;exact e
 have hFR: ∀φ v,Hd Γk.ss φ→FR rv Γr.ss (Pf E Γr.ss fp H) H φ v→FR rv Γk.ss (Pf E Γk.ss fp H) H φ v:=fun φ v r h=>h.mono (fun i hi=>⟨hP i hi,rfl⟩) (hsame φ r)
 have hback: ∀{l:Ts},P6 Γr Γk.ss J l→ ∀t φ,B4 l t=some φ→FR rv Γk.ss (Pf E Γk.ss fp H) H φ (get f t):=by
  intro l hl t φ e
  obtain⟨h1,h2⟩:=Oj hl e
  have:=I.gh _ _ h1
  simp only[if_pos (show J≤J+t by omega),show J+t-J=t by omega]at this
  exact hFR φ _ h2 this
 refine⟨I0.le,I0.base,I0.wf,I0.fplt,I0.rvlt,I0.scal,I0.inj,I0.slots,?_,?_⟩
 ·intro t φ e
  have hts:=hb.ts
  cases d with
  |none=>exact hback hts t φ e
  |some d=>
   obtain⟨ψ,r,hr,h1,h2,h3⟩:=hts
   rw[hr]at e
   simp only[B4]at e
   simp only[put,get]
   split at e
   ·rename_i hd
    cases e
    rw[if_pos hd]
    have h1':=h1.spec I hn
    exact hFR _ _ h2 h1'
   ·rename_i hd
    rw[if_neg hd]
    exact hback h3 t φ e
 ·intro j φ e
  have h1:=Ih hb.gl e
  have:=I0.gh j φ e
  simp only[if_neg (show¬J≤j by omega)]at this
  exact this
structure YU(tb:Ce){τ:Type}(Γk:τ→Cx)(c:AC)(ks:List Kf){ρ:Type}(Q:H6 ρ) where
 m:τ→Option ρ
 ok: ∀p E f H,Rel E (Γk p) f H→ ∀r,m p=some r→ ∃e f' H',(Bd tb (CF tb) c f H).bind (Fa tb ks)=some (e,f',H')∧Q E r e f' H'
def YU.one{Γk:τ→Cx}{c:AC}(k:(p:τ)→Aa tb (Γk p) c ks Q):YU tb Γk c ks Q:=⟨fun p=>(k p).m,fun p=>(k p).ok⟩
theorem IK: ∀{l:List Ge} {vs:List AV},results f H l=some vs→vs.length=l.length
 |[],vs,h=>by simp only[results,Option.some.injEq]at h;subst h;rfl
 | .tmp t::r,vs,h=>by
  simp only[results]at h
  obtain⟨v,hv,rfl⟩:=Option.map_eq_some_iff.1 h
  simp[IK hv]
 | .cell ag n t::r,vs,h=>by
  simp only[results]at h
  obtain⟨w,hw,h⟩:=Option.bind_eq_some_iff.1 h
  obtain⟨v,hv,rfl⟩:=Option.map_eq_some_iff.1 h
  simp[IK hv]
theorem VM{g:Nat}{fn:EP}{o:Eu}{d:Option Nat}{srcs:List UP}{φs:List AI}{J n:Nat}{L:Ts}{Γr Γk:τ→Cx}(hf:tb.prim g=none∧tb.fns g=some fn)(hw:fn.warm=true)(hnp:fn.np=srcs.length)(hn:n=fn.res.length)
  (hc:So tb Γ o g srcs) (ha:QE tb Γ srcs φs) (hL:J1 Γ J L) (hg:Fg J Γ.ss=true) (s:Aa tb ⟨MF 0 φs,D6 J L Γ.ss⟩ fn.body [] (Z4 fn.res Γr)) (hb: ∀p,Dh (Γr p) (Γk p) J d n) (I:Bn E Γ rv fp f H) {p:τ} (hp:s.m=some p):
  ∃v H',B7 tb (CF tb) (eval tb f) H o=some (v,some H')∧Rel E (Γk p) (put f d v) H':=by
 have R:=I.enter (tb:=tb) hL hg ha
 obtain⟨e,f',H',h1,h2,vs,h3,rv',fp',h4⟩:=s.ok _ _ _ ⟨_,_,R⟩ p hp
 have h1':Bd tb (CF tb) fn.body (FH (srcs.map (Sr tb f rv)) 0) H=some (e,f',H'):=by
  obtain⟨q,hq,h1⟩:=Option.bind_eq_some_iff.1 h1
  rw[hq,←h1];rfl
 have hbody:body tb (CF tb) fn (srcs.map (Sr tb f rv)) H=some (EL vs,some H'):=by
  have:=X4 (tb:=tb) (h:=H) (fn:=fn) (args:=srcs.map (Sr tb f rv)) (by rw[List.length_map,hnp]) rfl h1' h2 h3
  rw[this,hw];rfl
 refine⟨EL vs,H',?_,rv',fp',h4.back (by rw[hn];exact IK h3) (hb p)⟩
 rw[hc E rv fp f H I]
 simp only[C2,hf.1]
 rw[Wi,hf.2]
 exact hbody
def Aa.inl{g:Nat}{fn:EP}{o:Eu}{d:Option Nat}{rest:List AZ}{srcs:List UP}{φs:List AI}{n:Nat}{L:Ts}{Γr:τ→Cx}(J:Nat)(Γk:τ→Cx)(hf:tb.prim g=none∧tb.fns g=some fn)(hw:fn.warm=true)(hnp:fn.np=srcs.length)(hn:n=fn.res.length)
  (hc:So tb Γ o g srcs) (ha:QE tb Γ srcs φs) (hL:J1 Γ J L) (hg:Fg J Γ.ss=true) (s:Aa tb ⟨MF 0 φs,D6 J L Γ.ss⟩ fn.body [] (Z4 fn.res Γr)) (hb: ∀p,Dh (Γr p) (Γk p) J d n) (k:YU tb Γk (rg false rest) ks Q):Aa tb Γ (rg false (⟨d,none,o⟩::rest)) ks Q:=
 ⟨s.m.bind k.m,fun E f H ⟨rv,fp,I⟩ r hr=>by
  obtain⟨p,hp,hr⟩:=Option.bind_eq_some_iff.1 hr
  obtain⟨v,H',h1,h2⟩:=VM hf hw hnp hn hc ha hL hg s hb I hp
  obtain⟨e,f',H2,h4,h5⟩:=k.ok p E _ _ h2 r hr
  exact⟨e,f',H2,by rw[Ec h1];exact h4,h5⟩⟩
def AM.inl{g:Nat}{fn:EP}{o:Eu}{d:Option Nat}{rest:List AZ}{w:List (Option (Nat×Nat))}{N k:Nat}{B:List Ob}{C C':List Cb}{srcs:List UP}{φs:List AI}{n:Nat}{L:Ts}{Γr:τ→Cx}(hq:UF B C' d=true)(hcn:GT Γ k C C')(J:Nat)(Γk:τ→Cx)(hO: ∀p,OS tb (Γk p) B)(hf:tb.prim g=none∧tb.fns g=some fn)(hw:fn.warm=true)(hnp:fn.np=srcs.length)(hn:n=fn.res.length)
  (hc:So tb Γ o g srcs) (ha:QE tb Γ srcs φs) (hL:J1 Γ J L) (hg:Fg J Γ.ss=true) (s:Aa tb ⟨MF 0 φs,D6 J L Γ.ss⟩ fn.body [] (Z4 fn.res Γr)) (hb: ∀p,Dh (Γr p) (Γk p) J d n) (t:(p:τ)→AM tb (Γk p) N (k+1) (Th B) C' rest w ks Q):AM tb Γ N k B C (⟨d,none,o⟩::rest) (none::w) ks Q:=
 HR hq hO hcn (a:=s.m) (Γ':=Γk) (fun E rv fp f H I p hp=>by
  obtain⟨v,H',h1,rv',fp',h2⟩:=VM hf hw hnp hn hc ha hL hg s hb I hp
  exact⟨v,some H',h1,rv',fp',h2⟩) t
end
end Go.Proofs.Ytapafbjgdfgodaa.Am
namespace Go.Proofs.Ytapafbjgdfgodaa.Am
section
variable{tb:Ce}{Γ:Cx}{a b:AO}{E:JL}{rv:Nat→AV}{fp:Fp}{f:Fr}{H:A3}{ks:List Kf}{ρ:Type}{Q:H6 ρ}
end
end Go.Proofs.Ytapafbjgdfgodaa.Am
namespace Go.Proofs.Ytapafbjgdfgodaa.Am
section
variable{tb:Ce}{Γ:Cx}{a b:AO}{ks:List Kf}{ρ:Type}{Q:H6 ρ}
theorem Qv{n:Nat}{t:T}{zero:List AV}{ps:List (Nat×Nat×AO)}(z:Ar t.α n)(hz:zero=(A1 n t).zc)(h:Ty tb Γ (A1 n t) ps (A1 n t).z z):El tb Γ (.bld zero ps) (some ()) fun _=> .val (A1 n t) z:=by
 rintro E rv fp f H R _ ⟨⟩
 exact Dy hz rfl h E rv fp f H R z rfl
theorem HL{sz:Nat}: ∀{l:List (List AV)} {i:Nat},(∀e∈l,e.length=sz)→i≤l.length→l.flatten.take (i*sz)=(l.take i).flatten∧l.flatten.drop (i*sz)=(l.drop i).flatten
 |l,0,_,_=>by simp
 |[],i+1,_,h=>by simp at h
 |d::l,i+1,hl,h=>by
  have h1:=hl d List.mem_cons_self
  obtain⟨a,b⟩:=HL (l:=l) (i:=i) (fun e he=>hl e (List.mem_cons_of_mem _ he)) (by simpa using h)
  have hs:(i+1)*sz=d.length+i*sz:=by rw[Nat.succ_mul];omega
  constructor
  ·rw[List.flatten_cons,hs,List.take_append,List.take_of_length_le (by omega),Nat.add_sub_cancel_left,a];simp
  ·rw[List.flatten_cons,hs,←List.drop_drop,List.drop_left' rfl,b];simp
theorem SX{sz k m:Nat}{l:List (List AV)}(hl: ∀e∈l,e.length=sz)(h:k+m≤l.length):sub l.flatten (k*sz) (m*sz)=((l.drop k).take m).flatten:=by
 simp only[sub]
 rw[(HL hl (i:=k) (by omega)).2,(HL (fun e he=>hl e (List.mem_of_mem_drop he)) (i:=m) (by rw[List.length_drop];omega)).1]
theorem RG{sz:Nat}{l:List (List AV)}(hl: ∀e∈l,e.length=sz):l.flatten.length=l.length*sz:=by
 induction l with
 |nil=>simp
 |cons d l ih=>
  have:=ih fun e he=>hl e (List.mem_cons_of_mem _ he)
  have:=hl d List.mem_cons_self
  simp only[List.flatten_cons,List.length_append,List.length_cons,Nat.succ_mul];omega
theorem Qx{sz i:Nat}{l dss:List (List AV)}(hl: ∀e∈l,e.length=sz)(hd: ∀e∈dss,e.length=sz)(h:i+dss.length≤l.length):Bm l.flatten (i*sz) dss.flatten=(l.take i++dss++l.drop (i+dss.length)).flatten:=by
 simp only[Bm,List.flatten_append]
 rw[(HL hl (i:=i) (by omega)).1,RG hd,←Nat.add_mul,(HL hl (i:=i+dss.length) h).2]
def PC(n:Nat)(t:T)(k m:Nat)(hkm:k+m≤n):AB (A1 n t) (A1 m t) (k*t.sz) where
 get:=fun x=>⟨(x.l.drop k).take m,by rw[List.length_take,List.length_drop,x.len];omega⟩
 put:=fun x y=>⟨x.l.take k++y.l++x.l.drop (k+m),by rw[List.length_append,List.length_append,List.length_take,List.length_drop,x.len,y.len];omega⟩
 le:=by
  show k*t.sz+m*t.sz≤n*t.sz
  rw[←Nat.add_mul];exact Nat.mul_le_mul_right _ hkm
 getR:=fun{P H cs x} ⟨css,e,h⟩=>by
  refine⟨(css.drop k).take m,?_,h.drop.take⟩
  have hlen:=h.length
  have hx:=x.len
  rw[e]
  exact SX h.lens (by omega)
 putR:=fun{P H cs x c y} ⟨css,e,h⟩ ⟨dss,e',h'⟩=>by
  refine⟨css.take k++dss++css.drop (k+m),?_,(h.take.app h').app h.drop⟩
  have hlen:=h.length
  have hx:=x.len
  have hlen':=h'.length
  have hy:=y.len
  rw[e,e']
  have:=Qx (dss:=dss) h.lens h'.lens (i:=k) (by omega)
  rw[this,show dss.length=m by omega]
theorem YH{j off n sz:Nat}{ps:List (Nat×AI)}{lo hi:Option AO}{l h:Option Int}(hj:AA Γ.ss j=some (.cells ps))(hle:Nat.ble (off+n*sz) (T3 ps)=true)(ha:BB tb Γ a (.cp j off))(hl:WD tb Γ lo l)(hh:WD tb Γ hi h):
  El tb Γ (.sla n sz a lo hi) (WB n l h) fun p=> .oc j (off+p.1*sz) sz (p.2-p.1):=by
 intro E rv fp f H I p hp
 obtain⟨lv,id,e,hv⟩:=ha E rv fp f H I
 obtain⟨cs,h0,h2,h3⟩:=Fj I hj e
 have hs:=PR.length h3
 have hle:=Nat.le_of_ble_eq_true hle
 refine⟨.ocel sz id (off+p.1*sz) (p.2-p.1),none,?_,rfl,lv,id,e,rfl⟩
 simp only[B7,hv]
 rw[P4 hl hh I,hp]
 simp only[Option.bind_some,TR,h2]
 rw[if_pos (by omega)]
 rfl
theorem NA{j off n sz k m o' c:Nat}{ps:List (Nat×AI)}{lo hi:Option AO}{l h:Option Int}(hj:AA Γ.ss j=some (.cells ps))(hle:Nat.ble (off+n*sz) (T3 ps)=true)(ha:BB tb Γ a (.cp j off))(hl:WD tb Γ lo l)(hh:WD tb Γ hi h)
  (hb:WB n l h=some (k,m)) (ho:off+k*sz=o') (hc:m-k=c):El tb Γ (.sla n sz a lo hi) (some ()) fun _=> .oc j o' sz c:=by
 rintro E rv fp f H I _ ⟨⟩
 subst ho hc
 exact YH hj hle ha hl hh E rv fp f H I (k,m) hb
theorem YI{j off len sz n:Nat}(ha:BB tb Γ a (.oc j off sz len))(hn:Nat.ble n len=true):El tb Γ (.s2a n sz a) (some ()) fun _=> .cp j off:=by
 rintro E rv fp f H I _ ⟨⟩
 obtain⟨lv,id,e,hv⟩:=ha E rv fp f H I
 have hn:=Nat.le_of_ble_eq_true hn
 exact⟨.ptr id off,none,by simp only[B7,hv,TS];rw[if_pos ⟨trivial,hn⟩];rfl,rfl,lv,id,e,rfl⟩
def Xz{α:Type}{n:Nat}(x:Ar α n)(k m:Nat)(ys:List α):Option (Ar α n):=
 if h:k+m≤n then some ⟨x.l.take k++ys.take m++x.l.drop (k+min ys.length m),by
  rw[List.length_append,List.length_append,List.length_take,List.length_take,List.length_drop,x.len];omega⟩else none
theorem Bn.cpy{E:JL}{rv:Nat→AV}{fp:Fp}{f:Fr}{H:A3}(I:Bn E Γ rv fp f H){s t:T}{x:s.α}{n j o o' k sz m N:Nat}{ps:List (Nat×AI)}{ys:List t.α}{z:Ar t.α n}(F:AB s (A1 n t) o')(hk:sz=t.sz)
  (ha:BB tb Γ a (.oc j (o+k*sz) sz m)) (hb:W3 tb Γ b t ys) (hj:AA Γ.ss j=some (.cells ps)) (hp:EY ps o=some (N, .val s x,o')) (hz:Xz (F.get x) k m ys=some z):
  ∃v H',B7 tb (CF tb) (eval tb f) H (.cpy sz a b)=some (v,some H')∧v= .i .i64 ((min ys.length m:Nat):Int)∧ ∃rv' fp',Bn E (Γ.setS j (.cells (Kl ps o (.val s (F.put x z))))) rv' fp' f H':=by
 subst hk
 simp only[Xz]at hz
 split at hz
 ·rename_i hkm
  cases hz
  obtain⟨l,id,e,hv⟩:=ha E rv fp f H I
  obtain⟨cs,h0,h2,h3⟩:=Fj I hj e
  obtain⟨b',c,e0,e1,e2,e3,e4,e5,e6⟩:=Dv h3 hp
  obtain⟨els,g1,g2⟩:=hb E rv fp f H I
  have hel:=g2.length
  have hlens:=(g2.take (n:=m)).lens
  have htl:(els.take m).length=min ys.length m:=by rw[List.length_take,hel,Nat.min_comm]
  have hfl:=RG hlens
  rw[htl]at hfl
  let G:=GR F (PC n t k (min ys.length m) (by omega))
  have hle:=G.le
  have hszA:(A1 (min ys.length m) t).sz=min ys.length m*t.sz:=rfl
  have hl:=s.len e4
  have hy:(A1 (min ys.length m) t).R (Pf E Γ.ss fp H) H (els.take m).flatten ⟨ys.take m,by rw[List.length_take,Nat.min_comm]⟩:=⟨els.take m,rfl,g2.take⟩
  have hput:=G.putR e4 hy
  have hpr:=e6 (o'+k*t.sz) (els.take m).flatten (.val s (G.put x ⟨ys.take m,by rw[List.length_take,Nat.min_comm]⟩)) (by rw[hfl];omega) hput
  rw[show b'+(o'+k*t.sz)=o+k*t.sz by omega]at hpr
  have hmen:=PR.men I.ltP I.rvlt h3
  have hym:=(A1 (min ys.length m) t).men hy I.ltP
  have hlt':=(I.fplt j id l ((h0 id).2 rfl)).1
  have hx:G.put x ⟨ys.take m,by rw[List.length_take,Nat.min_comm]⟩=F.put x ⟨(F.get x).l.take k++ys.take m++(F.get x).l.drop (k+min ys.length m),by
    rw[List.length_append,List.length_append,List.length_take,List.length_take,List.length_drop,(F.get x).len];omega⟩:=rfl
  rw[hx]at hpr
  obtain⟨rv',fp',_,_,R'⟩:=I.set (j:=j) (S:= .cells (Kl ps o (.val s (F.put x ⟨(F.get x).l.take k++ys.take m++(F.get x).l.drop (k+min ys.length m),by
    rw[List.length_append,List.length_append,List.length_take,List.length_take,List.length_drop,(F.get x).len];omega⟩)))) (v:=rv j) (o:= .cells (CN H id) (Bm cs (o+k*t.sz) (els.take m).flatten)) (by rw[hj];rfl) l h0 (by simp only[EA];exact Id hmen hym) rfl (I.rvlt j l) (.inl rfl) (I.scal j l) fun rv' fp' e1 e2 hP hs=>
   ⟨id,_,by rw[e1,e],e2,by simp[BD,hlt'],PR.mono hP (by simp) (fun p _=>hs p.2 (.inl rfl)) hpr⟩
  refine⟨_,H.set id (Ca.cells (CN H id) (Bm cs (o+k*t.sz) (els.take m).flatten)),?_,rfl,rv',fp',R'⟩
  have hmn:min els.length m=min ys.length m:=by rw[hel]
  have hbnd:o+k*t.sz+m*t.sz≤cs.length:=by
   have hF:=F.le
   have hszF:(A1 n t).sz=n*t.sz:=rfl
   have:(k+m)*t.sz≤n*t.sz:=Nat.mul_le_mul_right _ hkm
   rw[Nat.add_mul]at this
   omega
  simp only[B7,g1,Option.bind_some,hv,Q5,h2]
  rw[if_pos ⟨trivial,hbnd⟩,hmn]
  have hte:els.take (min ys.length m)=els.take m:=by
   rw[←hmn]
   rcases Nat.le_total els.length m with h|h
   ·rw[Nat.min_eq_left h,List.take_of_length_le (Nat.le_refl _),List.take_of_length_le h]
   ·rw[Nat.min_eq_right h]
  rw[hte,Bm,hfl]
 ·cases hz
theorem YT{s t:T}{x:s.α}{n j o o' k sz m N d:Nat}{ps:List (Nat×AI)}{ys:List t.α}(F:AB s (A1 n t) o')(hk:sz=t.sz)
  (ha:BB tb Γ a (.oc j (o+k*sz) sz m)) (hb:W3 tb Γ b t ys) (hj:AA Γ.ss j=some (.cells ps)) (hp:EY ps o=some (N, .val s x,o')):
  Mr tb Γ (some d) (.cpy sz a b) (Xz (F.get x) k m ys) fun z=>(Γ.setS j (.cells (Kl ps o (.val s (F.put x z))))).push d (.val (T.int .i64) ((min ys.length m:Nat):Int)):=fun E rv fp f H I z hz=>by
 obtain⟨v,H',h1,rfl,rv',fp',h2⟩:=I.cpy F hk ha hb hj hp hz
 exact⟨_,some H',h1,rv',fp',h2.push (CW.2 rfl)⟩
def Rd:AI→Bool
 | .own _=>true
 | .rp _ _=>true
 | .cp _ _=>true
 | .ep _ _ _=>true
 | .con _=>true
 | .fnv _ _ _=>true
 | .val t _=> !t.agg
 |_=>false
theorem Pj{φ:AI}(h:Rd φ=true){E:JL}{rv:Nat→AV}{fp:Fp}{f:Fr}{H:A3}(R:Bn E Γ rv fp f H)(hs:Zc Γ.ss φ=some 1){v:AV}(r:FR rv Γ.ss (Pf E Γ.ss fp H) H φ v):
  cellsOf v=[v]∧B8 v≤H.length∧ ∀rv ss P H,FC rv ss P H φ [v]↔FR rv ss P H φ v:=by
 obtain⟨g1,g2⟩:=UU R hs r
 have ha:X9 φ=false:=by cases φ<;>first|rfl|(simp only[Rd,Bool.false_eq_true]at h;done)|(simp only[Rd,Bool.not_eq_true']at h;exact h)
 rw[ha]at g2
 refine⟨?_,FR.men R.ltP R.rvlt (by rintro rfl;cases h) r,fun rv ss P H=> ?_⟩
 ·match hc:cellsOf v,g1 with
  |[w],_=>
   rw[hc]at g2
   simp only[HO,Option.some.injEq]at g2
   rw[g2]
 ·cases φ<;>first
   |(simp only[Rd,Bool.false_eq_true]at h;done)
   |exact⟨fun⟨w,e,r⟩=>by cases e;exact r,fun r=>⟨v,rfl,r⟩⟩
   |exact⟨fun r=> .inr ⟨by simpa [Rd]using h,r⟩,fun r=>r.elim (fun⟨e,_⟩=>by simp[Rd,e]at h) (fun e=>e.2)⟩
theorem Ms{φ ψ:AI}{j o:Nat}{ps:List (Nat×AI)}(hs:Zc Γ.ss ψ=some 1)(hr:Rd ψ=true)(ha:BB tb Γ a (.cp j o))(hb:BB tb Γ b ψ)(hj:AA Γ.ss j=some (.cells ps))(hp:EY ps o=some (1,φ,0)):
  Mr tb Γ none (.st 1 a b) (some ()) fun _=>Γ.setS j (.cells (Kl ps o ψ)):=
 Z6 ha hj hp fun E rv fp f H R c hc hN _=>by
  obtain⟨g1,g2,g3⟩:=Pj hr R hs (hb E rv fp f H R)
  rw[g1]
  refine⟨rfl,by omega,by simpa [Bl]using g2,?_⟩
  match c,hN with
  |[w],_=>exact(g3 _ _ _ _).2 (hb E rv fp f H R)
theorem W4{φ:AI}{d t0:Nat}(j:Nat)(hs:Zc Γ.ss φ=some 1)(hr:Rd φ=true)(hj:AA Γ.ss j=none)(ha:BB tb Γ a φ):Mr tb Γ (some d) (.box t0 1 a) (some ()) fun _=>⟨(d, .cp j 0)::Γ.ts,(j, .cells [(1,φ)])::Γ.ss⟩:=by
 rintro E rv fp f H R _ ⟨⟩
 obtain⟨g1,g2,g3⟩:=Pj hr R hs (ha E rv fp f H R)
 obtain⟨rv',fp',h1,h2,h3⟩:=R.more (j:=j) (S:= .cells [(1,φ)]) (v:= .ptr H.length 0) (o:= .cells (some t0) [eval tb f a]) (ER hj) (by simp only[EA,Bl];omega) rfl (by simp[B8]) rfl fun rv' fp' e1 e2 hP hs'=>
  ⟨_,[eval tb f a],e1,e2,by simp[BD],[eval tb f a],[],rfl,rfl,(g3 _ _ _ _).2 ((ha E rv fp f H R).mono hP (hs' φ)),rfl⟩
 exact⟨.ptr H.length 0,some (H++[Ca.cells (some t0) [eval tb f a]]),by simp only[B7,g1];rfl,rv',fp',h3.push (φ:= .cp j 0) ⟨h2,_,h1,rfl⟩⟩
end
section
variable{tb:Ce}{Γ:Cx}{a b:AO}
def ZP(js:List Nat):List (Nat×AI):=js.map fun k=>(1, .kv k)
end
def Dw{t:T}{l:List CK}(p:Bg t l)(x y:t.α):Bool:= @decide (x=y) (p.d x y)
theorem Jk{t:T}{l:List CK}{p:Bg t l}{x y:t.α}(h:x=y):Dw p x y=true:= @decide_eq_true _ (p.d x y) h
theorem KY{t:T}{l:List CK}{p:Bg t l}{x y:t.α}(h: ¬x=y):Dw p x y=false:= @decide_eq_false _ (p.d x y) h
end Go.Proofs.Ytapafbjgdfgodaa.Am
namespace Go.Proofs.Ytapafbjgdfgodaa.Am
section
variable{tb:Ce}{cl:Nat→List AV→A3→GU}{N:Nat}
end
section
variable{tb:Ce}{Γ:Cx}{a b:AO}{ks:List Kf}{ρ:Type}{Q:H6 ρ}
end
def QI(K V:T)(P:Nat→Prop)(H:A3):List (AV×AV)→List (K.α×V.α)→Prop
 |[],[]=>True
 |(a,b)::r,(x,y)::q=>K.V P H a x∧V.V P H b y∧QI K V P H r q
 |_,_=>False
section
variable{K V:T}{P Q:Nat→Prop}{H G:A3}
theorem QI.mono(m: ∀i,P i→Q i∧G[i]? =H[i]?): ∀{es:List (AV×AV)} {l:List (K.α×V.α)},QI K V P H es l→QI K V Q G es l
 |[],[],_=>trivial
 |(_,_)::_,(_,_)::_,⟨h1,h2,h3⟩=>⟨h1.mono m,h2.mono m,h3.mono m⟩
theorem QI.men{m:Nat}(hp: ∀i,P i→i<m): ∀{es:List (AV×AV)} {l:List (K.α×V.α)},QI K V P H es l→Bl (es.map (·.1))≤m∧Bl (es.map (·.2))≤m
 |[],[],_=>by simp[Bl]
 |(_,_)::_,(_,_)::_,⟨h1,h2,h3⟩=>by
  have:=h1.men hp;have:=h2.men hp;have:=h3.men hp
  simp only[List.map_cons,Bl];omega
theorem QI.app: ∀{es fs:List (AV×AV)} {l m:List (K.α×V.α)},QI K V P H es l→QI K V P H fs m→QI K V P H (es++fs) (l++m)
 |[],_,[],_,_,h=>h
 |(_,_)::_,_,(_,_)::_,_,⟨h1,h2,h3⟩,h=>⟨h1,h2,h3.app h⟩
theorem QI.length: ∀{es:List (AV×AV)} {l:List (K.α×V.α)},QI K V P H es l→es.length=l.length
 |[],[],_=>rfl
 |(_,_)::_,(_,_)::_,⟨_,_,h3⟩=>by simp[h3.length]
end
def Fb{κ ν:Type}(e:κ→κ→Bool):List (κ×ν)→κ→Option ν
 |[],_=>none
 |(x,v)::r,k=>bif e k x then some v else Fb e r k
def H3{κ ν:Type}(e:κ→κ→Bool):List (κ×ν)→κ→ν→List (κ×ν)
 |[],k,v=>[(k,v)]
 |(x,y)::r,k,v=>bif e k x then(k,v)::r else(x,y)::H3 e r k v
def Ut{κ ν:Type}(e:κ→κ→Bool):List (κ×ν)→κ→List (κ×ν)
 |[],_=>[]
 |(x,y)::r,k=>bif e k x then r else(x,y)::Ut e r k
def Cd(K V:T):ZK where
 α:=List (K.α×V.α)
 R:=fun F P H v x=> ∃id es,v= .mp id∧(∀i,F i↔i=id)∧H[id]? =some (.map es)∧QI K V P H es x
 lt:=fun⟨id,es,_,hF,h,_⟩ i hi=>by rw[(hF i).1 hi];exact(List.getElem?_eq_some_iff.1 h).1
 men:=fun⟨id,es,e,hF,_,_⟩ _ hm=>by rw[e];simp only[B8];exact hm id ((hF id).2 rfl)
 mono:=fun m g ⟨id,es,e,hF,h,r⟩=>⟨id,es,e,hF,by rw[g id ((hF id).2 rfl)];exact h,r.mono m⟩
structure OT(K:T)(ek:EK) where
 l:List CK
 p:Bg K l
 h:(K.agg=true∧ek= .agg l)∨(K.agg=false∧ ∃c,l=[c]∧ek= .one c)
def OT.e{K:T}{ek:EK}(q:OT K ek):K.α→K.α→Bool:=Dw q.p
theorem TK: ∀{l:List CK} {c d:List AV} {b:Bool},G6 l c d=some b→c.length=l.length
 |[],[],[],_,_=>rfl
 |[],[],_::_,_,h=>by simp[G6]at h
 |[],_::_,_,_,h=>by simp[G6]at h
 |_::_,[],_,_,h=>by simp[G6]at h
 |_::_,_::_,[],_,h=>by simp[G6]at h
 |k::l,x::c,y::d,b,h=>by
  simp only[G6]at h
  obtain⟨a,_,h⟩:=Option.bind_eq_some_iff.1 h
  obtain⟨b',h,_⟩:=Option.map_eq_some_iff.1 h
  simp[TK h]
section
variable{K V:T}{P Q:Nat→Prop}{H G:A3}{ek:EK}
theorem OT.eq(q:OT K ek){v w:AV}{x y:K.α}(h:K.V P H v x)(g:K.V Q G w y):NN ek v w=some (q.e x y):=by
 rcases q.h with ⟨ha,e⟩|⟨ha,c,hl,e⟩
 ·rcases h with ⟨_,cs,rfl,h⟩|⟨hb,_⟩
  ·rcases g with ⟨_,ds,rfl,g⟩|⟨hb,_⟩
   ·exact(congrArg (fun e=>NN e _ _) e).trans (q.p.h h g)
   ·rw[ha]at hb;cases hb
  ·rw[ha]at hb;cases hb
 ·rcases h with ⟨hb,_⟩|⟨_,h⟩
  ·rw[ha]at hb;cases hb
  ·rcases g with ⟨hb,_⟩|⟨_,g⟩
   ·rw[ha]at hb;cases hb
   ·have:=q.p.h h g
    refine(congrArg (fun e=>NN e _ _) e).trans ?_
    simp only[hl,G6]at this
    simp only[NN]
    obtain⟨b,h1,h2⟩:=Option.bind_eq_some_iff.1 this
    simp only[Option.map_some,Bool.and_true,Option.some.injEq]at h2
    rw[h1,h2];rfl
theorem OT.ok(q:OT K ek){v:AV}{x:K.α}(h:K.V P H v x):I5 ek v=true:=by
 rcases q.h with ⟨ha,e⟩|⟨ha,c,hl,e⟩
 ·rcases h with ⟨_,cs,rfl,h⟩|⟨hb,_⟩
  ·refine(congrArg (fun e=>I5 e _) e).trans ?_
   simp only[I5,TK (q.p.h h h),Nat.beq_refl]
  ·rw[ha]at hb;cases hb
 ·exact(congrArg (fun e=>I5 e _) e).trans rfl
theorem J2(q:OT K ek){k:AV}{x:K.α}(hk:K.V P H k x): ∀{es:List (AV×AV)} {m:List (K.α×V.α)} (i:Nat),QI K V P H es m→
  (∃j b y,Am.find ek k es i=some (some (i+j,b))∧Fb q.e m x=some y∧V.V P H b y∧(∀b' y',V.V P H b' y'→QI K V P H (es.set j (k,b')) (H3 q.e m x y'))∧QI K V P H (es.eraseIdx j) (Ut q.e m x))∨
  (Am.find ek k es i=some none∧Fb q.e m x=none∧(∀y',H3 q.e m x y'=m++[(x,y')])∧Ut q.e m x=m)
 |[],[],i,_=> .inr ⟨rfl,rfl,fun _=>rfl,rfl⟩
 |(a,b)::r,(x',y)::m,i,⟨h1,h2,h3⟩=>by
  have he:=q.eq hk h1
  cases hq:q.e x x' with
  |true=>
   refine .inl ⟨0,b,y,?_,?_,h2,fun b' y' h=> ?_,?_⟩
   ·simp only[Am.find,he,hq,Option.bind_some,if_true,Nat.add_zero]
   ·simp only[Fb,hq,cond_true]
   ·simp only[List.set_cons_zero,H3,hq,cond_true];exact⟨hk,h,h3⟩
   ·simp only[List.eraseIdx_cons_zero,Ut,hq,cond_true];exact h3
  |false=>
   rcases J2 q hk (i+1) h3 with ⟨j,b',y',g1,g2,g3,g4,g5⟩|⟨g1,g2,g3,g4⟩
   ·refine .inl ⟨j+1,b',y',?_,?_,g3,fun b2 y2 h=> ?_,?_⟩
    ·simp only[Am.find,he,hq,Option.bind_some,Bool.false_eq_true,if_false,g1];congr 3;omega
    ·simp only[Fb,hq,cond_false,g2]
    ·simp only[List.set_cons_succ,H3,hq,cond_false];exact⟨h1,h2,g4 b2 y2 h⟩
    ·simp only[List.eraseIdx_cons_succ,Ut,hq,cond_false];exact⟨h1,h2,g5⟩
   ·refine .inr ⟨?_,?_,fun y2=> ?_,?_⟩
    ·simp only[Am.find,he,hq,Option.bind_some,Bool.false_eq_true,if_false,g1]
    ·simp only[Fb,hq,cond_false,g2]
    ·simp only[H3,hq,cond_false,g3,List.cons_append]
    ·simp only[Ut,hq,cond_false,g4]
end
section
variable{tb:Ce}{Γ:Cx}{a b c:AO}{K V:T}{ek:EK}
def TU(V:T)(z:AV):Prop:=(V.agg=true∧z= .agg V.zc)∨(V.agg=false∧V.zc=[z])
theorem TU.v{V:T}{z:AV}(h:TU V z){P:Nat→Prop}{H:A3}:V.V P H z V.z:=by
 rcases h with ⟨h,rfl⟩|⟨h,e⟩
 ·exact .inl ⟨h,_,rfl,V.hz P H⟩
 ·exact .inr ⟨h,by rw[←e];exact V.hz P H⟩
theorem Sm{d:Nat}(j:Nat)(hj:AA Γ.ss j=none):Mr tb Γ (some d) .mkm (some ()) fun _=>⟨(d, .own j)::Γ.ts,(j, .dom (Cd K V) [])::Γ.ss⟩:=by
 rintro E rv fp f H R _ ⟨⟩
 obtain⟨rv',fp',h1,h2,h3⟩:=R.more (j:=j) (S:= .dom (Cd K V) []) (v:= .mp H.length) (o:= .map []) (ER hj) (by simp[EA,Bl]) rfl (by simp[B8]) rfl fun rv' fp' e1 e2 hP hs=>
  ⟨_,[],e1,e2,by simp,trivial⟩
 exact⟨.mp H.length,some (H++[Ca.map []]),rfl,rv',fp',h3.push (d:=d) (φ:= .own j) ⟨h2,h1.symm⟩⟩
theorem Qn{E:JL}{rv:Nat→AV}{fp:Fp}{f:Fr}{H:A3}(R:Bn E Γ rv fp f H){j:Nat}{m:List (K.α×V.α)}(hj:AA Γ.ss j=some (.dom (Cd K V) m))(ha:BB tb Γ a (.own j)):
  ∃id es,eval tb f a= .mp id∧rv j= .mp id∧(∀i,fp j i↔i=id)∧H[id]? =some (.map es)∧QI K V (Pf E Γ.ss fp H) H es m:=by
 obtain⟨_,hv⟩:=ha E rv fp f H R
 obtain⟨id,es,e,hF,hH,h⟩:=R.slots j _ hj
 exact⟨id,es,hv.trans e,e,hF,hH,h⟩
theorem VP{j:Nat}{m:List (K.α×V.α)}{x:K.α}{z:AV}(q:OT K ek)(hz:TU V z)(ha:BB tb Γ a (.own j))(hj:AA Γ.ss j=some (.dom (Cd K V) m))(hb:BB tb Γ b (.val K x)):
  El tb Γ (.lkp ek z false a b) (some ()) fun _=> .val V ((Fb q.e m x).getD V.z):=by
 rintro E rv fp f H R _ ⟨⟩
 obtain⟨id,es,e1,_,_,e2,e3⟩:=Qn R hj ha
 have hk:=hb E rv fp f H R
 have he:Fi H (.mp id)=some es:=by simp only[Fi,Hf,e2]
 rcases J2 q hk 0 e3 with ⟨j',b',y,g1,g2,g3,_,_⟩|⟨g1,g2,_,_⟩
 ·exact⟨b',none,by simp only[B7,q.ok hk,if_true,e1,he,Option.bind_some,g1,Option.map_some,Bool.false_eq_true,if_false],rfl,by rw[g2];exact g3⟩
 ·exact⟨z,none,by simp only[B7,q.ok hk,if_true,e1,he,Option.bind_some,g1,Option.map_some,Bool.false_eq_true,if_false],rfl,by rw[g2];exact hz.v⟩
theorem LD{j:Nat}{m:List (K.α×V.α)}{x:K.α}{z:AV}(q:OT K ek)(hz:TU V z)(ha:BB tb Γ a (.own j))(hj:AA Γ.ss j=some (.dom (Cd K V) m))(hb:BB tb Γ b (.val K x)):
  El tb Γ (.lkp ek z true a b) (some (Fb q.e m x)) fun r=> .tup [⟨V,r.getD V.z⟩,⟨T.b,r.isSome⟩]:=by
 rintro E rv fp f H R _ ⟨⟩
 obtain⟨id,es,e1,_,_,e2,e3⟩:=Qn R hj ha
 have hk:=hb E rv fp f H R
 have he:Fi H (.mp id)=some es:=by simp only[Fi,Hf,e2]
 rcases J2 q hk 0 e3 with ⟨j',b',y,g1,g2,g3,_,_⟩|⟨g1,g2,_,_⟩
 ·exact⟨.tup [b', .b true],none,by simp only[B7,q.ok hk,if_true,e1,he,Option.bind_some,g1,Option.map_some],rfl,[b', .b true],rfl,by rw[g2];exact⟨g3,F0.2 rfl,trivial⟩⟩
 ·exact⟨.tup [z, .b false],none,by simp only[B7,q.ok hk,if_true,e1,he,Option.bind_some,g1,Option.map_some],rfl,[z, .b false],rfl,by rw[g2];exact⟨hz.v,F0.2 rfl,trivial⟩⟩
theorem YJ{j:Nat}{m:List (K.α×V.α)}(ha:BB tb Γ a (.own j))(hj:AA Γ.ss j=some (.dom (Cd K V) m)):El tb Γ (.lenm a) (some (m.length:Int)) fun n=> .val (T.int .i64) n:=by
 rintro E rv fp f H R _ ⟨⟩
 obtain⟨id,es,e1,_,_,e2,e3⟩:=Qn R hj ha
 exact⟨.i .i64 es.length,none,by simp only[B7,e1,Fi,Hf,e2,Option.map_some],rfl,CW.2 (by rw[e3.length])⟩
theorem TC{E:JL}{rv:Nat→AV}{fp:Fp}{f:Fr}{H:A3}(R:Bn E Γ rv fp f H){j id:Nat}{m m':List (K.α×V.α)}{es':List (AV×AV)}(hj:AA Γ.ss j=some (.dom (Cd K V) m))(e0:rv j= .mp id)(hF: ∀i,fp j i↔i=id)
  (h:QI K V (Pf E Γ.ss fp H) H es' m'): ∃rv' fp',Bn E ⟨Γ.ts,(j, .dom (Cd K V) m')::Γ.ss⟩ rv' fp' f (H.set id (.map es')):=by
 have hl:AT Γ.ss j:=Hg hj rfl
 have hm:=h.men R.ltP
 obtain⟨rv',fp',h1,h2,h3⟩:=R.set (j:=j) (S:= .dom (Cd K V) m') (v:=rv j) (o:= .map es') (by rw[hj];rfl) hl hF (by simp only[EA];omega) rfl (R.rvlt j hl) (.inl rfl) (R.scal j hl)
  fun rv' fp' e1 e2 hP _=>⟨id,es',by rw[e1,e0],e2,by rw[List.getElem?_set_self (R.fplt j id hl ((hF id).2 rfl)).1],h.mono hP⟩
 exact⟨rv',fp',h3⟩
theorem PA{j:Nat}{m:List (K.α×V.α)}{x:K.α}{y:V.α}(q:OT K ek)(ha:BB tb Γ a (.own j))(hj:AA Γ.ss j=some (.dom (Cd K V) m))(hb:BB tb Γ b (.val K x))(hc:BB tb Γ c (.val V y)):
  Mr tb Γ none (.mup ek a b c) (some (H3 q.e m x y)) fun m'=>⟨Γ.ts,(j, .dom (Cd K V) m')::Γ.ss⟩:=by
 rintro E rv fp f H R _ ⟨⟩
 obtain⟨id,es,e1,e0,hF,e2,e3⟩:=Qn R hj ha
 have hk:=hb E rv fp f H R
 have hv:=hc E rv fp f H R
 have he:Hf H id=some es:=by simp only[Hf,e2]
 rcases J2 q hk 0 e3 with ⟨j',b',y',g1,g2,g3,g4,_⟩|⟨g1,g2,g3,_⟩
 ·obtain⟨rv',fp',h⟩:=TC R hj e0 hF (g4 _ y hv)
  exact⟨.junk,some (H.set id (.map (es.set j' (eval tb f b,eval tb f c)))),by simp only[B7,q.ok hk,if_true,e1,he,Option.bind_some,g1,Option.map_some,Nat.zero_add],rv',fp',h⟩
 ·obtain⟨rv',fp',h⟩:=TC R hj e0 hF (e3.app (fs:=[(eval tb f b,eval tb f c)]) (m:=[(x,y)]) ⟨hk,hv,trivial⟩)
  exact⟨.junk,some (H.set id (.map (es++[(eval tb f b,eval tb f c)]))),by simp only[B7,q.ok hk,if_true,e1,he,Option.bind_some,g1,Option.map_some],rv',fp',by rw[g3];exact h⟩
end
end Go.Proofs.Ytapafbjgdfgodaa.Am
namespace Go.Proofs.Ytapafbjgdfgodaa.Am
section
variable{tb:Ce}{Γ:Cx}{ks:List Kf}{ρ:Type}{Q:H6 ρ}
def QJ(tb:Ce){τ:Type}(Γj:τ→Cx)(ks:List Kf)(Q:H6 ρ):H6 (τ⊕ρ):=fun E r e f H=>
 match r with
 | .inl p=>e= .normal∧Rel E (Γj p) f H
 | .inr r=>e≠ .normal∧ ∃e' f' H',Fa tb ks (e,f,H)=some (e',f',H')∧Q E r e' f' H'
def CA{c:AC}{τ:Type}(Γj:τ→Cx)(k:(p:τ)→Aa tb (Γj p) (rg false []) ks Q)(main:Aa tb Γ c [] (QJ tb Γj ks Q)):Aa tb Γ c ks Q:=
 ⟨main.m.bind (Sum.elim (fun p=>(k p).m) some),fun E f H R r hr=>by
  obtain⟨b,hb,hr⟩:=Option.bind_eq_some_iff.1 hr
  obtain⟨e,f1,H1,h1,h2⟩:=main.ok E f H R b hb
  have h1':Bd tb (CF tb) c f H=some (e,f1,H1):=by
   obtain⟨p,hp,h⟩:=Option.bind_eq_some_iff.1 h1
   rw[hp,←h];rfl
  rw[h1']
  cases b with
  |inr r'=>
   simp only[Sum.elim_inr,Option.some.injEq]at hr
   subst hr
   exact h2.2
  |inl p=>
   obtain⟨rfl,R'⟩:=h2
   simp only[Sum.elim_inl]at hr
   obtain⟨e2,f2,H2,h4,h5⟩:=(k p).ok E f1 H1 R' r hr
   exact⟨e2,f2,H2,by simpa [Cr]using h4,h5⟩⟩
def Cw{q:Bool}{τ:Type}{Γj:τ→Cx}(p:τ)(h:Sub (Γj p) Γ):Aa tb Γ (rg q []) [] (QJ tb Γj ks Q):=
 ⟨some (.inl p),fun E f H ⟨rv,fp,I⟩ r hr=>by
  cases hr
  exact⟨.normal,f,H,by simp[Cr,Fa],rfl,rv,fp,I.sub h⟩⟩
def Ap{q:Bool}{d:Nat}{o:Eu}{l:List AZ}{β:Type}{a:β}{φ:β→AI}(h:El tb Γ o (some a) φ)(k:(b:β)→Aa tb (Γ.push d (φ b)) (rg q l) ks Q):Aa tb Γ (rg q (⟨some d,none,o⟩::l)) ks Q:=
 ⟨(k a).m,(Aa.op h k).ok⟩
def AJ{q:Bool}{d t:Nat}{o:Eu}{l:List AZ}{β:Type}{a:β}{φ:β→AI}(h:El tb Γ o (some a) φ)(k:(b:β)→AD tb (Γ.push d (φ b)) q l t):AD tb Γ q (⟨some d,none,o⟩::l) t:=
 ⟨(k a).m,(AD.op h k).ok⟩
def Au{d:Option Nat}{o:Eu}{l:List AZ}{β:Type}{a:β}{Γ':β→Cx}(h:Mr tb Γ d o (some a) Γ')(k:(b:β)→Aa tb (Γ' b) (rg false l) ks Q):Aa tb Γ (rg false (⟨d,none,o⟩::l)) ks Q:=
 ⟨(k a).m,(Ej h k).ok⟩
variable{w:List (Option (Nat×Nat))}{N k:Nat}{B:List Ob}{C C':List Cb}{o:Eu}{l:List AZ}{y:Nat×Nat}
def Fv{d:Nat}{β:Type}{a:β}{φ:β→AI}(hq:Q7 N k B C y (some d) o=true)(h:El tb Γ o (some a) φ)(s:(b:β)→AM tb (Γ.push d (φ b)) N k B C l w ks Q):AM tb Γ N k B C (⟨some d,none,o⟩::l) (some y::w) ks Q:=
 ⟨(s a).m,(AM.op hq h s).ok⟩
def Cf{d:Option Nat}{β:Type}{a:β}{Γ':β→Cx}(hq:UF B C' d=true)(hb: ∀b,OS tb (Γ' b) B)(hc:GT Γ k C C')(h:Mr tb Γ d o (some a) Γ')(s:(b:β)→AM tb (Γ' b) N (k+1) (Th B) C' l w ks Q):AM tb Γ N k B C (⟨d,none,o⟩::l) (none::w) ks Q:=
 ⟨(s a).m,(HR hq hb hc h s).ok⟩
end
end Go.Proofs.Ytapafbjgdfgodaa.Am
namespace Go.Proofs.Ytapafbjgdfgodaa.Am
section
variable{P:Program}{tb:Ce}
end
end Go.Proofs.Ytapafbjgdfgodaa.Am
namespace Go.Proofs.Ytapafbjgdfgodaa.Am
section
variable{tb:Ce}{tB te tS ncc nne ngw ngr:Nat}{h:A3}{id:Nat}{a b:AV}
variable{Γ:Cx}{x y:AO}
end
end Go.Proofs.Ytapafbjgdfgodaa.Am
namespace Go.Proofs.Ytapafbjgdfgodaa.Am
section
variable{tb:Ce}{Γ:Cx}
theorem El.u{o:Eu}{β:Type}{a:β}{φ:β→AI}(h:El tb Γ o (some a) φ):El tb Γ o (some ()) fun _=>φ a:=
 fun E rv fp f H R _ _=>h E rv fp f H R a rfl
theorem Mr.u{d:Option Nat}{o:Eu}{β:Type}{a:β}{Γ':β→Cx}(h:Mr tb Γ d o (some a) Γ'):Mr tb Γ d o (some ()) fun _=>Γ' a:=
 fun E rv fp f H R _ _=>h E rv fp f H R a rfl
theorem PR.app{rv:Nat→AV}{ss:Ss}{P:Nat→Prop}{H:A3}: ∀{ps qs:List (Nat×AI)} {c d:List AV},PR rv ss P H ps c→PR rv ss P H qs d→PR rv ss P H (ps++qs) (c++d)
 |[],qs,c,d,h,g=>by rw[show c=[]from h];exact g
 |(n,φ)::ps,qs,c,d,⟨a,b,e,l,h1,h2⟩,g=>⟨a,b++d,by rw[e,List.append_assoc],l,h1,h2.app g⟩
theorem PR.unapp{rv:Nat→AV}{ss:Ss}{P:Nat→Prop}{H:A3}: ∀{ps qs:List (Nat×AI)} {c:List AV},PR rv ss P H (ps++qs) c→ ∃a b,c=a++b∧PR rv ss P H ps a∧PR rv ss P H qs b
 |[],qs,c,h=>⟨[],c,rfl,rfl,h⟩
 |(n,φ)::ps,qs,c,⟨a,b,e,l,h1,h2⟩=>by
  obtain⟨a',b',e',h3,h4⟩:=PR.unapp (ps:=ps) h2
  exact⟨a++a',b',by rw[e,e',List.append_assoc],⟨a,a',rfl,l,h1,h3⟩,h4⟩
def GQ(t:T)(x:t.α)(qs:List (Nat×AI)):Prop:= ∀rv ss P H c,t.R P H c x→PR rv ss P H qs c
theorem GQ.one{t:T}{x:t.α}:GQ t x [(t.sz, .val t x)]:=fun _ _ _ _ c h=>⟨c,[],by simp,t.len h,h,rfl⟩
theorem GQ.prod{a b:T}{x:a.α×b.α}{qs rs:List (Nat×AI)}(h:GQ a x.1 qs)(g:GQ b x.2 rs):GQ (T.prod a b) x (qs++rs):=by
 rintro rv ss P H c ⟨d,e,rfl,h1,h2⟩
 exact(h _ _ _ _ _ h1).app (g _ _ _ _ _ h2)
theorem GQ.iso{t:T}{β:Type}{f:β→t.α}{g:t.α→β}{hfg: ∀y,f (g y)=y}{x:β}{qs:List (Nat×AI)}(h:GQ t (f x) qs):GQ (T.iso t β f g hfg) x qs:=fun rv ss P H c r=>h rv ss P H c r
def Jn(qs:List (Nat×AI))(t:T)(x:t.α):Prop:= ∀rv ss P H c,PR rv ss P H qs c→t.R P H c x
theorem Jn.one{n:Nat}{t:T}{x:t.α}:Jn [(n, .val t x)] t x:=fun _ _ _ _ c ⟨a,b,e,_,h,g⟩=>by
 rw[e,show b=[]from g,List.append_nil];exact h
theorem Jn.prod{a b:T}{x:a.α}{y:b.α}{qs rs:List (Nat×AI)}(h:Jn qs a x)(g:Jn rs b y):Jn (qs++rs) (T.prod a b) (x,y):=by
 intro rv ss P H c r
 obtain⟨d,e,rfl,h1,h2⟩:=r.unapp
 exact⟨d,e,rfl,h _ _ _ _ _ h1,g _ _ _ _ _ h2⟩
theorem Jn.iso{t:T}{β:Type}{f:β→t.α}{g:t.α→β}{hfg: ∀y,f (g y)=y}{x:t.α}{y:β}{qs:List (Nat×AI)}(h:Jn qs t x)(e:f y=x):Jn qs (T.iso t β f g hfg) y:=fun rv ss P H c r=>by
 show t.R P H c (f y)
 rw[e];exact h rv ss P H c r
theorem Mq{j:Nat}{ps qs:List (Nat×AI)}(hj:AA Γ.ss j=some (.cells ps))(h: ∀rv ss P H cs,PR rv ss P H ps cs→PR rv ss P H qs cs): ∀E f H,Rel E Γ f H→Rel E ⟨Γ.ts,(j, .cells qs)::Γ.ss⟩ f H:=by
 rintro E f H ⟨rv,fp,R⟩
 obtain⟨id,cs,e1,e0,e2,e3⟩:=R.slots j _ hj
 have hl:AT Γ.ss j:=Hg hj rfl
 obtain⟨rv2,fp2,_,_,I2⟩:=R.chg (j:=j) (S:= .cells qs) (v:=rv j) (F:=fp j) (G:=H) (by rw[hj];rfl) rfl (Nat.le_refl _) (fun _ _ _=>rfl) (fun _ h=> .inl ⟨hl,h⟩) (fun _=> .inl rfl) R.wf (R.rvlt j hl) (.inr ((R.scal j hl).resolve_left (by rw[hj];simp[Ck]))) fun rv2 fp2 f1 f2 hP hs=>
  ⟨id,cs,by rw[f1];exact e1,by rw[f2];exact e0,e2,(h _ _ _ _ _ e3).mono hP (Nat.le_refl _) fun p _=>hs p.2 fun _=> .inl rfl⟩
 exact⟨rv2,fp2,I2⟩
theorem JF{j n:Nat}{t:T}{x:t.α}{qs:List (Nat×AI)}(hj:AA Γ.ss j=some (.cells [(n, .val t x)]))(h:GQ t x qs): ∀E f H,Rel E Γ f H→Rel E ⟨Γ.ts,(j, .cells qs)::Γ.ss⟩ f H:=
 Mq hj fun rv ss P H cs r=>h rv ss P H cs (Jn.one rv ss P H cs r)
theorem G8{j:Nat}{t:T}{qs:List (Nat×AI)}(x:t.α)(hj:AA Γ.ss j=some (.cells qs))(h:Jn qs t x): ∀E f H,Rel E Γ f H→Rel E ⟨Γ.ts,(j, .cells [(t.sz, .val t x)])::Γ.ss⟩ f H:=
 Mq hj fun rv ss P H cs r=>GQ.one rv ss P H cs (h rv ss P H cs r)
def Se{α:Type}(z:α):GS α→Int→Option (GS α)
 | .nil,i=>if i=0 then some .nil else none
 | .mk l,i=>if 0≤i∧i≤l.length then some (.mk (l.take i.toNat++List.replicate (l.length-i.toNat) z))else none
variable{ks:List Kf}{ρ:Type}{Q:H6 ρ}
def Aa.clr{d sz:Nat}{x y:AO}{k:IntKind}{i:Int}{z:List AV}{rest:List AZ}{t:T}{g:GS t.α}{j:Nat}(hx:BB tb Γ x (.own j))(hj:AA Γ.ss j=some (.row t g))(hs:sz=t.sz)(hz:z=t.zc)(hy:BB tb Γ y (.val (T.int k) i))
  (kk:(g':GS t.α)→Aa tb ⟨(d, .junk)::Γ.ts,(j, .row t g')::Γ.ss⟩ (rg false rest) ks Q):Aa tb Γ (rg false (⟨some d,none, .sll sz x (some y) none⟩::⟨none,none, .clr z (.t d)⟩::rest)) ks Q:=
 ⟨(Se t.z g i).bind fun g'=>(kk g').m,fun E f H ⟨rv,fp,I⟩ r hr=>by
  obtain⟨g',hg,hr⟩:=Option.bind_eq_some_iff.1 hr
  subst hs
  subst hz
  obtain⟨hl,hv⟩:=hx E rv fp f H I
  have hyv:=CW.1 (hy E rv fp f H I)
  have hsl:=I.slots j _ hj
  have hev: ∀v,eval tb (put f (some d) v) (.t d)=v:=fun v=>by simp only[eval,put,get,if_true]
  cases g with
  |nil=>
   simp only[Se]at hg
   split at hg
   ·rename_i hi
    subst hi
    cases hg
    rw[hsl.1]at hv
    have h1:B7 tb (CF tb) (eval tb f) H (.sll t.sz x (some y) none)=some (.nils,none):=by
     simp only[B7,hv,JI,Option.bind_some,DS,hyv,EN,Gr,resl];rfl
    have h2:B7 tb (CF tb) (eval tb (put f (some d) .nils)) H (.clr t.zc (.t d))=some (.tup [],none):=by
     simp only[B7,hev]
    obtain⟨rv2,fp2,_,_,I2⟩:=I.chg (j:=j) (S:= .row t .nil) (v:=rv j) (F:=fp j) (G:=H) (by rw[hj];rfl) rfl (Nat.le_refl _) (fun _ _ _=>rfl) (fun _ h=> .inl ⟨hl,h⟩) (fun _=> .inl rfl) I.wf (I.rvlt j hl) (.inr ((I.scal j hl).resolve_left (by rw[hj];simp[Ck]))) fun rv2 fp2 f1 f2 hP hs=>
     ⟨by rw[f1];exact hsl.1,by rw[f2];exact hsl.2⟩
    obtain⟨e,f',H',h4,h5⟩:=(kk .nil).ok E _ H ⟨rv2,fp2,I2.push (d:=d) (φ:= .junk) (v:= .nils) trivial⟩ r hr
    refine⟨e,f',H',?_,h5⟩
    rw[Ec h1,Option.getD_none,Ec h2]
    exact h4
   ·cases hg
  |mk l=>
   simp only[Se]at hg
   split at hg
   ·rename_i hi
    cases hg
    obtain⟨id,els,e1,h0,e2,e3⟩:=hsl
    rw[e1]at hv
    have hlen:=e3.length
    obtain⟨n,rfl⟩: ∃n:Nat,i=n:=⟨i.toNat,by omega⟩
    have hn:n≤els.length:=by omega
    have hidlt:=(I.fplt j id hl ((h0 id).2 rfl)).1
    have h1:B7 tb (CF tb) (eval tb f) H (.sll t.sz x (some y) none)=some (.orow id els.length n (els.length-n),none):=by
     have hb:DS (eval tb f) els.length (some y) none=some (n,els.length):=by
      simp only[DS,Option.bind_some,hyv,EN,Gr]
      rw[if_pos ⟨by omega,by omega⟩];simp
     simp only[B7,hv,JI,Option.bind_some,hb,resl,e2]
     rw[if_pos ⟨trivial,trivial,by omega⟩]
     simp[val]
    have hall:BE t (Pf E Γ.ss fp H) H (els.take n++List.replicate (els.length-n) t.zc) (l.take n++List.replicate (l.length-n) t.z):=by
     rw[←hlen]
     exact e3.take.app (BE.rep (t.hz _ _) _)
    have hmm:=hall.men I.ltP
    have h2:B7 tb (CF tb) (eval tb (put f (some d) (.orow id els.length n (els.length-n)))) H (.clr t.zc (.t d))=some (.tup [],some (H.set id (.row (CN H id) false t.sz (els.take n++List.replicate (els.length-n) t.zc)))):=by
     simp only[B7,hev,e2,Option.bind_some]
     rw[if_pos ⟨trivial,trivial,by omega,t.len (t.hz (fun _=>False) [])⟩,List.drop_of_length_le (by omega),List.append_nil]
    have hl2:(els.take n++List.replicate (els.length-n) t.zc).length=els.length:=by simp;omega
    obtain⟨rv',fp',_,_,R'⟩:=I.set (j:=j) (S:= .row t (.mk (l.take n++List.replicate (l.length-n) t.z))) (v:=rv j) (o:= .row (CN H id) false t.sz (els.take n++List.replicate (els.length-n) t.zc)) (by rw[hj];rfl) hl h0 (by simpa [EA]using hmm) rfl (I.rvlt j hl) (.inl rfl) (I.scal j hl)
     fun rv' fp' f1 f2 hP _=>⟨id,_,by rw[f1,e1,hl2],f2,by simp[rowAt,hidlt],hall.mono hP⟩
    obtain⟨e,f',H',h4,h5⟩:=(kk (.mk (l.take n++List.replicate (l.length-n) t.z))).ok E _ _ ⟨rv',fp',R'.push (d:=d) (φ:= .junk) (v:= .orow id els.length n (els.length-n)) trivial⟩ r (by simpa using hr)
    refine⟨e,f',H',?_,h5⟩
    rw[Ec h1,Option.getD_none,Ec h2]
    exact h4
   ·cases hg⟩
def Rf(n:Int):UInt8:=UInt8.ofNat (n%256).toNat
def Rg(n:Int):UInt64:=UInt64.ofNat (n%18446744073709551616).toNat
def GS.isN{α:Type}:GS α→Bool
 | .nil=>true
 | .mk _=>false
theorem NB{a:AO}{t:T}{g:GS t.α}{neg:Bool}(ha:BB tb Γ a (.val (T.sl t) g)):El tb Γ (.eq neg .sl a (.k .nils)) (some (if neg then !g.isN else g.isN)) fun z=> .val T.b z:=by
 cases g with
 |nil=>cases neg with
  |true=>exact MO (neg:=true) ha
  |false=>exact MO (neg:=false) ha
 |mk l=>cases neg with
  |true=>exact MO (neg:=true) ha
  |false=>exact MO (neg:=false) ha
def NQ(a b:List UInt8):Int:=Extern.BytealgCompare.cmp ⟨a.toArray⟩ ⟨b.toArray⟩
theorem JY.bytes{P:Nat→Prop}{H:A3}{v:AV}{g:GS UInt8}(h:(T.sl T.u8).V P H v g):LM H v=some g.l:=by
 obtain⟨els,e,h'⟩:=(FB.1 h).els
 have e':Dg H 1 v=some els:=e
 have hs: ∀l,v≠ .s l:=by rintro l rfl;simp[Dg]at e'
 cases v<;>first
  |exact absurd rfl (hs _)
  |(simp only[LM,e',Option.bind_some];exact P3 h')
theorem Spec.cmp{g:Nat}(hp:tb.prim g=some IN):Spec tb g [T.sl T.u8,T.sl T.u8] [T.int .i64] fun a=>some (NQ a.1.l a.2.l):=by
 rintro P h args ⟨x,y⟩ _ _ ⟨v,q,rfl,h1,w,rfl,h2⟩ r hr
 cases hr
 refine⟨.i .i64 (NQ x.l y.l),none,?_,rfl,[.i .i64 (NQ x.l y.l)],rfl,_,rfl,CW.2 rfl⟩
 simp only[C2,hp,IN,JY.bytes h1,JY.bytes h2,Option.bind_some,Option.map_some]
 rfl
end
end Go.Proofs.Ytapafbjgdfgodaa.Am
namespace Go.Proofs.Ytapafbjgdfgodaa.Am
section
variable{tb:Ce}{Γ:Cx}{a b:AO}
theorem P2{sz:Nat}: ∀(k:Nat) (css:List (List AV)) (cs:List AV),css.length=k→(∀e∈css,e.length=sz)→cs.take (k*sz)=css.flatten→B6 sz k cs=css
 |0,css,cs,h,_,_=>by rw[List.eq_nil_of_length_eq_zero h];rfl
 |k+1,y::css,cs,hk,hall,hc=>by
  have hy:=hall y (by simp)
  simp only[B6]
  simp only[List.flatten_cons]at hc
  have hA:cs.take sz=y:=by
   have:=congrArg (List.take sz) hc
   rw[List.take_take,Nat.min_eq_left (by rw[Nat.succ_mul];omega),List.take_left' hy]at this
   exact this
  have hB:(cs.drop sz).take (k*sz)=css.flatten:=by
   have:=congrArg (List.drop sz) hc
   rw[List.drop_left' hy,List.drop_take,Nat.succ_mul,Nat.add_sub_cancel]at this
   exact this
  rw[hA,P2 k css (cs.drop sz) (by simpa using hk) (fun e he=>hall e (by simp[he])) hB]
theorem V9{t u:T}{x:t.α}{j o o' k m n N sz:Nat}{ps:List (Nat×AI)}(F:AB t (A1 n u) o')(hsz:sz=u.sz)(ha:BB tb Γ a (.oc j (o+k*sz) sz m))(hj:AA Γ.ss j=some (.cells ps))(hp:EY ps o=some (N, .val t x,o'))(hkm:k+m≤n)
  {E:JL} {rv:Nat→AV} {fp:Fp} {f:Fr} {H:A3} (R:Bn E Γ rv fp f H):
  ∃id els,id<H.length∧fp j id∧eval tb f a= .ocel u.sz id (o+k*u.sz) m∧Dg H u.sz (.ocel u.sz id (o+k*u.sz) m)=some els∧BE u (Pf E Γ.ss fp H) H els (((F.get x).l.drop k).take m):=by
 subst hsz
 obtain⟨l,id,e,hv⟩:=ha E rv fp f H R
 obtain⟨cs,h0,h2,h3⟩:=Fj R hj e
 obtain⟨b',c,e0,e1,e2,e3,e4,e5,_⟩:=Dv h3 hp
 have hfp:fp j id:=(h0 id).2 rfl
 have hlt:=(R.fplt j id l hfp).1
 have hlen:=t.len e4
 have hle:=F.le
 have hszA:(A1 n u).sz=n*u.sz:=rfl
 rw[hszA]at hle
 have hmul:k*u.sz+m*u.sz≤n*u.sz:=by rw[←Nat.add_mul];exact Nat.mul_le_mul_right _ hkm
 obtain⟨css,q1,q2⟩:=F.getR e4
 have hlc:css.length=n:=by rw[q2.length];exact(F.get x).len
 have hs1:=e5 o' (n*u.sz) (by omega)
 rw[←e1]at hs1
 have hch:B6 u.sz n (cs.drop o)=css:=P2 n css (cs.drop o) hlc q2.lens (by rw[show(cs.drop o).take (n*u.sz)=sub cs o (n*u.sz)from rfl,hs1,←q1];rfl)
 have hsub:=Ik (sz:=u.sz) (len:=n) (c:=k) (d:=k+m) (l:=cs.drop o) (by omega) hkm
 refine⟨id,(css.take (k+m)).drop k,hlt,hfp,hv,?_,?_⟩
 ·simp only[Dg,h2,Option.bind_some]
  rw[if_pos ⟨trivial,by omega⟩]
  rw[←hch,hsub,List.drop_drop,Nat.add_sub_cancel_left]
 ·have:=(q2.take (n:=k+m)).drop (n:=k)
  simp only[List.drop_take,Nat.add_sub_cancel_left]at this ⊢
  exact this
theorem ZQ{t u:T}{x:t.α}{j o o' k m n N sz:Nat}{ps:List (Nat×AI)}(F:AB t (A1 n u) o')(hsz:sz=u.sz)(ha:BB tb Γ a (.oc j (o+k*sz) sz m))(hj:AA Γ.ss j=some (.cells ps))(hp:EY ps o=some (N, .val t x,o'))(hkm:k+m≤n):
  YV tb Γ a (T.sl u) (.mk (((F.get x).l.drop k).take m)):=by
 intro E rv fp f H R
 obtain⟨id,els,h1,_,h3,h4,h5⟩:=V9 F hsz ha hj hp hkm R
 rw[h3]
 exact FB.2 ⟨h1,els,h4,h5.mono fun i hi=>⟨Pf.lt R.le hi,rfl⟩⟩
theorem VR{c:Prop} [Decidable c]{g:Nat}{As Rs:List T}{F:CP As→Option (CP Rs)}{l:List AO}{x:CP As}(sp:Spec tb g As Rs F)(fl:Ow Rs)(hx:c→Sq tb Γ As l x):El tb Γ (.call g l) (if c then F x else none) fun r=>Xe Rs r:=by
 intro E rv fp f H R r hr
 split at hr
 ·rename_i hc;exact Xs sp fl (hx hc) E rv fp f H R r hr
 ·cases hr
theorem U3{c:Prop} [Decidable c]{g:Nat}{As:List T}{t:T}{F:CP As→Option (CP [t])}{l:List AO}{x:CP As}(sp:Spec tb g As [t] F)(fl:Ow [t])(hx:c→Sq tb Γ As l x):El tb Γ (.call g l) (if c then F x else none) fun r:t.α=> .val t r:=VR sp fl hx
theorem ZE{t u:T}{x:t.α}{j o o' k m n N sz:Nat}{ps:List (Nat×AI)}(F:AB t (A1 n u) o')(hsz:sz=u.sz)(ha:BB tb Γ a (.oc j (o+k*sz) sz m))(hj:AA Γ.ss j=some (.cells ps))(hp:EY ps o=some (N, .val t x,o'))(hkm:k+m≤n):
  W3 tb Γ a u (((F.get x).l.drop k).take m):=by
 intro E rv fp f H R
 obtain⟨id,els,h1,_,h3,h4,h5⟩:=V9 F hsz ha hj hp hkm R
 exact⟨els,by rw[h3];exact h4,h5⟩
theorem ZJ{c:Prop} [Decidable c]{d:Option Nat}{o:Eu}{α:Type}{A:Option α}{G:α→Cx}(h:c→Mr tb Γ d o A G):Mr tb Γ d o (if c then A else none) G:=by
 intro E rv fp f H R r hr
 split at hr
 ·rename_i hc;exact h hc E rv fp f H R r hr
 ·cases hr
variable{ks:List Kf}{ρ:Type}{Q:H6 ρ}
def Ag{q:Bool}{d n:Nat}{l:List AZ}{φ:AI}(h:B4 Γ.ts n=some φ)(k:Aa tb (Γ.push d φ) (rg q l) ks Q):Aa tb Γ (rg q (⟨some d,none, .mv (.t n)⟩::l)) ks Q:=Al (AQ (IE h)) k
def At{q:Bool}{x y:AC}(s:Aa tb Γ x (.seq y::ks) Q):Aa tb Γ (rg q []) (.seq (.seq x y)::ks) Q:=Af (Ai s)
theorem AK{op:BinOp}{a b:AO}{x y:Int}(h:TI op=true)(ha:BB tb Γ a (.val (T.int .i64) x))(hb:BB tb Γ b (.val (T.int .i64) y)):El tb Γ (.bin op a b) (some (X1 op x y)) fun z=> .val T.b z:=NC (I:=IT.int .i64) h ha hb
abbrev oz(d:Nat)(x:Eu):AZ:=⟨some d,none,x⟩
abbrev mt(d n:Nat):AZ:=⟨some d,none, .mv (.t n)⟩
abbrev sf(l:List AZ)(y:AC):AC:= .seq (rg false l) y
abbrev sr(l:List AZ)(y:AC):AC:= .seq (rg true l) y
abbrev ki(n:Int):AO:= .k (.i .i64 n)
abbrev on(x:Eu):AZ:=⟨none,none,x⟩
end
theorem sB{p:Prop}(h:p:=by repeat' constructor):p:=h
abbrev D2(tb:Ce)(c:EP)(As Rs:List T)(a:CP As):=Aa tb ⟨Mo As 0 a,[]⟩ c.body [] (XE Rs c.res)
end Go.Proofs.Ytapafbjgdfgodaa.Am
namespace Go.Proofs.Ytapafbjgdfgodaa.Am
end Go.Proofs.Ytapafbjgdfgodaa.Am
namespace Go.Proofs.Ytapafbjgdfgodaa.Am
end Go.Proofs.Ytapafbjgdfgodaa.Am
namespace Go.Proofs.Ytapafbjgdfgodaa.Am
def NO(P:Program):Nat→List Field→Option Nat
 |pos,[]=>some pos
 |pos,f::fs=>if Nat.beq f.offset pos then NO P (pos+P.cellsOf f.type) fs else none
def Ff(P:Program):Nat→TypeId→Bool
 |0,_=>false
 |n+1,t=>
  match P.underlying t with
  |some .bool=>Nat.beq (P.cellsOf t) 1
  |some (.int _)=>Nat.beq (P.cellsOf t) 1
  |some .string=>Nat.beq (P.cellsOf t) 1
  |some (.pointer e)=>Nat.beq (P.cellsOf t) 1&&Nat.blt 0 (P.cellsOf e)&&Ff P n e
  |some (.slice e)=>Nat.beq (P.cellsOf t) 1&&Nat.blt 0 (P.cellsOf e)&&Ff P n e
  |some (.struct fs)=>decide (NO P 0 fs.toList=some (P.cellsOf t))&&fs.toList.all fun f=>Ff P n f.type
  |some (.array m e)=>Nat.beq (P.cellsOf t) (m*P.cellsOf e)&&Ff P n e
  |_=>false
def QD(T:TypeId→List AV→Prop):List Field→List AV→Prop
 |[],cs=>cs=[]
 |f::fs,cs=> ∃a b,cs=a++b∧T f.type a∧QD T fs b
def DD(P:Program):Nat→TypeId→List AV→Prop
 |0,_,_=>False
 |n+1,t,cs=>
  match P.underlying t with
  |some .bool=> ∃b,cs=[.b b]
  |some (.int k)=> ∃x,cs=[.i k x]∧k.has x
  |some .string=> ∃l,cs=[.s l]
  |some (.pointer e)=>cs=[.nilp]∨ ∃ds,cs=[.ip ds 0]∧DD P n e ds
  |some (.slice e)=>cs=[.nils]∨ ∃els:List (List AV),cs=[.sl (P.cellsOf e) els]∧ ∀x∈els,DD P n e x
  |some (.struct fs)=>QD (DD P n) fs.toList cs
  |some (.array m e)=> ∃els:List (List AV),els.length=m∧cs=els.flatten∧ ∀x∈els,DD P n e x
  |_=>False
section
variable{P:Program}{H:Type}{enc:TypeId×Value→H}{w:World}{spare:Nat→Bool}{held:Bool}
theorem Mn{base:Nat}{a:Addr}{n:Nat}{cs:List Value}(h:w.cells? base a n=some cs):cs.length=n∧ ∀(j:Nat) (v:Value),cs[j]? =some v→w.cell? (a.add j)=some v:=by
 unfold World.cells? at h
 split at h
 ·refine⟨by rw[mapM_some_length h];simp,fun j v hj=> ?_⟩
  have hl:j<n:=by have:=Bj hj;rw[mapM_some_length h]at this;simpa using this
  have:=mapM_some_get h j j (by simp[hl])
  rw[this,hj]
 ·cases h
theorem Wm{a:Addr}{v:Value}(h:w.cell? a=some v):a.spot=none∧a.block<w.heap.size:=by
 unfold World.cell? at h
 split at h
 ·rename_i c e fr hb
  refine⟨?_,(Array.getElem?_eq_some_iff.1 hb).1⟩
  split at h
  ·cases h
  ·rename_i hs;simpa using hs
 ·cases h
theorem Lb{base:Nat}{a:Addr}{n:Nat}{cs:List Value}(h:w.cells? base a n=some cs)(hn:0<n): ∃b off,a=⟨b,off,none⟩∧b<w.heap.size∧CO w b off cs∧cs.length=n:=by
 obtain⟨h1,h2⟩:=Mn h
 obtain⟨b,off,sp⟩:=a
 have h0:=h2 0 cs[0] (by simp)
 have:=Wm h0
 simp only[Addr.add,if_true]at this
 obtain⟨rfl,hlt⟩:=this
 exact⟨b,off,rfl,hlt,fun j v hj=>by have:=h2 j v hj;rwa [DC]at this,h1⟩
theorem Tk{p:Nat→List AV→List Value→Prop}: ∀(len:Nat),(∀i,i<len→ ∃x y,p i x y)→ ∃(xs:List (List AV)) (ys:List (List Value)),xs.length=len∧ys.length=len∧ ∀(i:Nat) x y,xs[i]? =some x→ys[i]? =some y→p i x y
 |0,_=>⟨[],[],rfl,rfl,fun i x y h=>by simp at h⟩
 |n+1,h=>by
  obtain⟨xs,ys,h1,h2,h3⟩:=Tk n fun i hi=>h i (by omega)
  obtain⟨x,y,hp⟩:=h n (by omega)
  refine⟨xs++[x],ys++[y],by simp[h1],by simp[h2],fun i u v hu hv=> ?_⟩
  by_cases hi:i<n
  ·rw[List.getElem?_append_left (by omega)]at hu hv
   exact h3 i u v hu hv
  ·have hlt:=Bj hu
   simp only[List.length_append,List.length_cons,List.length_nil]at hlt
   obtain rfl:i=n:=by omega
   rw[List.getElem?_append_right (by omega),h1]at hu
   rw[List.getElem?_append_right (by omega),h2]at hv
   simp only[Nat.sub_self,List.getElem?_cons_zero,Option.some.injEq]at hu hv
   subst hu;subst hv
   exact hp
theorem Nm{C:Cy}: ∀{xs:List (List AV)} {ys:List (List Value)},xs.length=ys.length→(∀(i:Nat) x y,xs[i]? =some x→ys[i]? =some y→AW C x y)→AS C xs ys
 |[],[],_,_=>rfl
 |[],_::_,h,_=>by simp at h
 |_::_,[],h,_=>by simp at h
 |x::xs,y::ys,h,k=>⟨y,ys,rfl,k 0 x y rfl rfl,Nm (by simpa using h) fun i u v hu hv=>k (i+1) u v (by simpa using hu) (by simpa using hv)⟩
theorem NH{sz:Nat}: ∀(l:List (List Value)),(∀y∈l,y.length=sz)→ ∀(j:Nat) (v:Value),l.flatten[j]? =some v→ ∃(i r:Nat) (y:List Value),j=i*sz+r∧l[i]? =some y∧y[r]? =some v
 |[],_,j,v,h=>by simp at h
 |y::l,hy,j,v,h=>by
  rw[List.flatten_cons]at h
  have hyl:=hy y List.mem_cons_self
  rcases Nat.lt_or_ge j y.length with hlt|hge
  ·rw[List.getElem?_append_left hlt]at h
   exact⟨0,j,y,by simp,rfl,h⟩
  ·rw[List.getElem?_append_right hge]at h
   obtain⟨i,r,u,h1,h2,h3⟩:=NH l (fun z hz=>hy z (List.mem_cons_of_mem _ hz)) _ _ h
   exact⟨i+1,r,u,by rw[Nat.succ_mul];omega,by simpa using h2,h3⟩
theorem Ri(φ:Nat→Place)(w:World)(b:Nat): ¬(⟨φ,[],w⟩:Cy).own b:=by
 rintro⟨id,h,_⟩
 exact absurd h (Nat.not_lt_zero _)
def XV(P:Program)(φ:Nat→Place)(w:World)(n:Nat)(t:TypeId)(cs:List Value):Prop:=
 ∃cs1:List AV,DD P n t cs1∧AW ⟨φ,[],w⟩ cs1 cs∧cs1.all scal=true∧cs.length=P.cellsOf t
theorem KF(φ:Nat→Place)(n:Nat)(T: ∀f:Field,Ff P n f.type=true→ ∀cs:List Value,(∃fuel x,DataW.trod enc P w 0 spare held fuel f.type cs=some x)→XV P φ w n f.type cs):
  ∀(fs:List Field) (pos tot:Nat) (cs:List Value),fs.all (fun f=>Ff P n f.type)=true→NO P pos fs=some tot→cs.length=tot→
   (∀f∈fs,∃fuel x,DataW.trod enc P w 0 spare held fuel f.type ((cs.drop f.offset).take (P.cellsOf f.type))=some x)→
   ∃cs1:List AV,QD (DD P n) fs cs1∧AW ⟨φ,[],w⟩ cs1 (cs.drop pos)∧cs1.all scal=true
 |[],pos,tot,cs,_,hc,hl,_=>by
  simp only[NO,Option.some.injEq]at hc
  subst hc
  exact⟨[],rfl,by rw[List.drop_of_length_le (by omega)];rfl,rfl⟩
 |f::fs,pos,tot,cs,hp,hc,hl,hr=>by
  simp only[List.all_cons,Bool.and_eq_true]at hp
  simp only[NO]at hc
  split at hc
  ·rename_i ho
   rw[Nat.beq_eq]at ho
   obtain⟨cs1,t1,r1,s1,l1⟩:=T f hp.1 _ (hr f List.mem_cons_self)
   obtain⟨bs,t2,r2,s2⟩:=KF φ n T fs _ tot cs hp.2 hc hl fun g hg=>hr g (List.mem_cons_of_mem _ hg)
   refine⟨cs1++bs,⟨cs1,bs,rfl,t1,t2⟩,?_,by simp only[List.all_append,s1,s2,Bool.and_self]⟩
   rw[ho]at r1 l1
   have hsplit:cs.drop pos=(cs.drop pos).take (P.cellsOf f.type)++cs.drop (pos+P.cellsOf f.type):=by
    rw[←List.drop_drop,List.take_append_drop]
   rw[hsplit]
   exact AW.app r1 r2
  ·cases hc
theorem II(φ:Nat→Place): ∀(n:Nat) (t:TypeId),Ff P n t=true→ ∀(fuel:Nat) (cs:List Value) (x:DataW H×List MemPlace),DataW.trod enc P w 0 spare held fuel t cs=some x→XV P φ w n t cs
 |0,_,h=>by simp[Ff]at h
 |n+1,t,h=>by
  intro fuel cs x hx
  simp only[Ff]at h
  cases hu:P.underlying t with
  |none=>rw[hu]at h;simp at h
  |some d=>
   rw[hu]at h
   cases fuel with
   |zero=>simp[DataW.trod]at hx
   |succ fuel=>
    cases d<;>simp only[Bool.false_eq_true]at h
    case bool=>
     rw[Nat.beq_eq]at h
     rcases cs with _|⟨v,_|⟨u,r⟩⟩
     ·simp[DataW.trod,hu]at hx
     ·cases v<;>simp[DataW.trod,hu]at hx
      rename_i b
      exact⟨[.b b],by simp only[DD,hu];exact⟨b,rfl⟩,⟨_,_,rfl,rfl,rfl⟩,rfl,h.symm⟩
     ·cases v<;>simp[DataW.trod,hu]at hx
    case int k=>
     rw[Nat.beq_eq]at h
     rcases cs with _|⟨v,_|⟨u,r⟩⟩
     ·simp[DataW.trod,hu]at hx
     ·cases v<;>simp[DataW.trod,hu]at hx
      rename_i k' z
      obtain⟨⟨rfl,hwf⟩,_⟩:=hx
      refine⟨[.i k' z],?_,⟨_,_,rfl,rfl,rfl⟩,rfl,h.symm⟩
      simp only[DD,hu]
      simp only[Lit.wf,Bool.and_eq_true,decide_eq_true_eq]at hwf
      exact⟨z,rfl,hwf⟩
     ·cases v<;>simp[DataW.trod,hu]at hx
    case string=>
     rw[Nat.beq_eq]at h
     rcases cs with _|⟨v,_|⟨u,r⟩⟩
     ·simp[DataW.trod,hu]at hx
     ·cases v<;>simp[DataW.trod,hu]at hx
      rename_i b
      exact⟨[.s b.data.toList],by simp only[DD,hu];exact⟨_,rfl⟩,⟨_,_,rfl,by simp[DT],rfl⟩,rfl,h.symm⟩
     ·cases v<;>simp[DataW.trod,hu]at hx
    case pointer e=>
     simp only[Bool.and_eq_true,Nat.beq_eq,Nat.blt_eq]at h
     obtain⟨⟨h1,h2⟩,h3⟩:=h
     rcases cs with _|⟨v,_|⟨u,r⟩⟩
     ·simp[DataW.trod,hu]at hx
     ·cases v<;>try (simp[DataW.trod,hu]at hx;done)
      rename_i p
      cases p with
      |none=>exact⟨[.nilp],by simp only[DD,hu];left;trivial,⟨_,_,rfl,rfl,rfl⟩,rfl,h1.symm⟩
      |some p=>
       simp only[DataW.trod,hu]at hx
       obtain⟨y,hy,_⟩:=Option.map_eq_some_iff.1 hx
       obtain⟨cs',hc,ht⟩:=Option.bind_eq_some_iff.1 hy
       obtain⟨b,off,rfl,hlt,hh,hl⟩:=Lb hc h2
       obtain⟨cs1,t1,r1,s1,l1⟩:=II φ n e h3 fuel cs' y ht
       refine⟨[.ip cs1 0],by simp only[DD,hu];exact .inr ⟨cs1,rfl,t1⟩,⟨_,_,rfl,⟨b,off,cs',rfl,hlt,Ri φ w b,hh,s1,r1⟩,rfl⟩,rfl,h1.symm⟩
     ·cases v<;>simp[DataW.trod,hu]at hx
    case slice e=>
     simp only[Bool.and_eq_true,Nat.beq_eq,Nat.blt_eq]at h
     obtain⟨⟨h1,h2⟩,h3⟩:=h
     rcases Go.Deep.open_slice hu hx with ⟨rfl,_⟩|⟨a,len,cap,m,n',D,Pl,rfl,hb,hl,hm,hmm,rfl,hel⟩
     ·exact⟨[.nils],by simp only[DD,hu];left;trivial,⟨_,_,rfl,rfl,rfl⟩,rfl,h1.symm⟩
     ·have hlm:len≤m:=by rw[hmm];split<;>omega
      obtain⟨xs,ys,x1,y1,hp⟩:=Tk (p:=fun i x y=>DD P n e x∧AW ⟨φ,[],w⟩ x y∧x.all scal=true∧y.length=P.cellsOf e∧w.cells? 0 (a.add (i*P.cellsOf e)) (P.cellsOf e)=some y) len fun i hi=>by
       obtain⟨cs',c1,c2⟩:=hel i (by omega)
       obtain⟨cs1,t1,r1,s1,l1⟩:=II φ n e h3 n' cs' _ c2
       exact⟨cs1,cs',t1,r1,s1,l1,c1⟩
      have getx: ∀x∈xs,∃(i:Nat) (y:List Value),xs[i]? =some x∧ys[i]? =some y:=by
       intro x hx
       obtain⟨i,hi⟩:=List.mem_iff_getElem?.1 hx
       have:=Bj hi
       exact⟨i,ys[i]'(by omega),hi,List.getElem?_eq_getElem (by omega)⟩
      have gety: ∀y∈ys,y.length=P.cellsOf e:=by
       intro y hy
       obtain⟨i,hi⟩:=List.mem_iff_getElem?.1 hy
       have:=Bj hi
       exact(hp i (xs[i]'(by omega)) y (List.getElem?_eq_getElem (by omega)) hi).2.2.2.1
      refine⟨[.sl (P.cellsOf e) xs],?_,⟨_,_,rfl,?_,rfl⟩,rfl,h1.symm⟩
      ·simp only[DD,hu]
       refine .inr ⟨xs,rfl,fun x hx=> ?_⟩
       obtain⟨i,y,hi,hy⟩:=getx x hx
       exact(hp i x y hi hy).1
      ·by_cases h0:len=0
       ·subst h0
        exact .inr ⟨List.eq_nil_of_length_eq_zero x1,a,cap,rfl⟩
       ·have hpos:0<len:=by omega
        obtain⟨y0,hy0⟩: ∃y,ys[0]? =some y:=⟨_,List.getElem?_eq_getElem (by omega)⟩
        obtain⟨x0,hx0⟩: ∃y,xs[0]? =some y:=⟨_,List.getElem?_eq_getElem (by omega)⟩
        have hc0:=(hp 0 x0 y0 hx0 hy0).2.2.2.2
        simp only[Nat.zero_mul,Addr.add,if_true]at hc0
        obtain⟨b,off,rfl,hlt,_,_⟩:=Lb hc0 h2
        refine .inl ⟨b,off,cap,ys,by rw[x1],by rw[x1];exact hl,hlt,Ri φ w b,?_,fun x hx=> ?_,Nm (by rw[x1,y1]) fun i x y hi hy=>(hp i x y hi hy).2.1⟩
        ·intro j v hj
         obtain⟨i,r,y,rfl,hy,hr⟩:=NH ys gety j v hj
         have hi:=Bj hy
         have hc:=(hp i (xs[i]'(by omega)) y (List.getElem?_eq_getElem (by omega)) hy).2.2.2.2
         have:=(Mn hc).2 r v hr
         rwa [DC,DC,Nat.add_assoc]at this
        ·obtain⟨i,y,hi,hy⟩:=getx x hx
         have:=hp i x y hi hy
         exact⟨by rw[←this.2.1.length];exact this.2.2.2.1,this.2.2.1⟩
    case struct fs=>
     simp only[Bool.and_eq_true,decide_eq_true_eq]at h
     obtain⟨h1,h2⟩:=h
     simp only[DataW.trod,hu]at hx
     split at hx
     ·rename_i hl
      obtain⟨xs,hxs,_⟩:=Option.map_eq_some_iff.1 hx
      obtain⟨cs1,t1,r1,s1⟩:=KF (enc:=enc) (spare:=spare) (held:=held) φ n (fun f hf cs hh=>by obtain⟨fl,x,hh⟩:=hh;exact II φ n f.type hf fl cs x hh) fs.toList 0 _ cs h2 h1 hl fun f hf=>by
       obtain⟨i,hi⟩:=List.mem_iff_getElem?.1 hf
       have:=mapM_some_get hxs i f hi
       have hlen:=mapM_some_length hxs
       have hi':=Bj hi
       rw[List.getElem?_eq_getElem (by omega)]at this
       exact⟨fuel,_,this⟩
      exact⟨cs1,by simp only[DD,hu];exact t1,by simpa using r1,s1,hl⟩
     ·cases hx
    case array m e=>
     simp only[Bool.and_eq_true,Nat.beq_eq]at h
     obtain⟨h1,h2⟩:=h
     simp only[DataW.trod,hu]at hx
     split at hx
     ·rename_i hl
      obtain⟨xs,hxs,_⟩:=Option.map_eq_some_iff.1 hx
      have hxl:=mapM_some_length hxs
      simp only[List.length_range]at hxl
      obtain⟨els,ys,x1,y1,hp⟩:=Tk (p:=fun i x y=>DD P n e x∧AW ⟨φ,[],w⟩ x y∧x.all scal=true∧y=(cs.drop (i*P.cellsOf e)).take (P.cellsOf e)∧y.length=P.cellsOf e) m fun i hi=>by
       have:=mapM_some_get hxs i i (by simp[hi])
       rw[List.getElem?_eq_getElem (by omega)]at this
       obtain⟨cs1,t1,r1,s1,l1⟩:=II φ n e h2 fuel _ _ this
       exact⟨cs1,_,t1,r1,s1,rfl,l1⟩
      have hys: ∀k,k≤m→(ys.take k).flatten=cs.take (k*P.cellsOf e):=by
       intro k
       induction k with
       |zero=>intro _;simp
       |succ k ih=>
        intro hk
        obtain⟨y,hy⟩: ∃y,ys[k]? =some y:=⟨_,List.getElem?_eq_getElem (by omega)⟩
        have:=hp k (els[k]'(by omega)) y (List.getElem?_eq_getElem (by omega)) hy
        rw[List.take_add_one,hy,List.flatten_append,ih (by omega)]
        simp only[Option.toList_some,List.flatten_cons,List.flatten_nil,List.append_nil]
        rw[this.2.2.2.1,Nat.succ_mul,List.take_add]
      have hfl:ys.flatten=cs:=by
       have:=hys m (Nat.le_refl _)
       rwa [List.take_of_length_le (by omega),List.take_of_length_le (by omega)]at this
      refine⟨els.flatten,?_,?_,?_,hl⟩
      ·simp only[DD,hu]
       refine⟨els,x1,rfl,fun x hx=> ?_⟩
       obtain⟨i,hi⟩:=List.mem_iff_getElem?.1 hx
       have:=Bj hi
       exact(hp i x (ys[i]'(by omega)) hi (List.getElem?_eq_getElem (by omega))).1
      ·have:=AS.flat (Nm (C:=⟨φ,[],w⟩) (by rw[x1,y1]) fun i x y hi hy=>(hp i x y hi hy).2.1)
       rwa [hfl]at this
      ·refine G5 fun x hx=> ?_
       obtain⟨i,hi⟩:=List.mem_iff_getElem?.1 hx
       have:=Bj hi
       exact(hp i x (ys[i]'(by omega)) hi (List.getElem?_eq_getElem (by omega))).2.2.1
     ·cases hx
end
end Go.Proofs.Ytapafbjgdfgodaa.Am
namespace Go.Proofs.Ytapafbjgdfgodaa.Am
section
variable{T:Eu→Oper→Bool}{P:Program}{tb:Ce}
def LP(P:Program)(n:Nat)(t:TypeId)(x:AV):Prop:=if Dd P t=true then∃cs,x= .agg cs∧DD P n t cs else DD P n t [x]
theorem QA{φ:Nat→Place}{w:World}{D:Cy}(X:Gd ⟨φ,[],w⟩ D):Go.RowKit.Below w.heap.size w D.w:=
 ⟨X.rest.1,X.rest.2.1,X.rest.2.2,X.size,fun k hk=>(X.same k hk (Ri φ w k)).1⟩
theorem U0(φ:Nat→Place)(w:World)(hg: ∀g cs,tb.gl g=some cs→g<w.heap.size∧cs.all scal=true∧ ∃vs,CO w g 0 vs∧AW ⟨φ,[],w⟩ cs vs)(hi: ∀g∈tb.it,∃m:Int,w.cell? ⟨g,0,none⟩=some (.int .i64 m)):Inv tb ⟨φ,[],w⟩:=
 ⟨fun id o h=>by simp at h,fun i j h=>absurd h (Nat.not_lt_zero _),fun i h=>absurd h (Nat.not_lt_zero _),fun g cs h=>by
  obtain⟨h1,h2,h3⟩:=hg g cs h
  exact⟨h1,Ri φ w g,h2,h3⟩,fun g h=>⟨Ri φ w g,hi g h⟩⟩
theorem Ub{H:Type}{enc:TypeId×Value→H}{W:World}{base:Nat}{spare:Nat→Bool}{held:Bool}{n:Nat}{t:TypeId}(hp:Ff P n t=true){v:Value}{d:DataW H}{ps:List MemPlace}(hv:Value.okWide P W .any base t v)
  (h:DataW.Trod enc P W 0 spare held t v d ps) (φ:Nat→Place): ∃x:AV,LP P n t x∧DT ⟨φ,[],W⟩ x v:=by
 obtain⟨fuel,h⟩:=h
 obtain⟨cs1,t1,r1,s1,l1⟩:=II φ n t hp fuel _ _ h
 cases ha:Dd P t with
 |true=>
  have hc: ∃cs,v= .agg cs:=by
   unfold Value.okWide at hv
   simp only[Dd]at ha
   split at hv
   ·obtain⟨cs,e,_⟩:=hv;exact⟨cs,e⟩
   ·obtain⟨cs,e,_⟩:=hv;exact⟨cs,e⟩
   ·rename_i h1 h2
    split at ha
    ·rename_i fs hu;exact absurd hu (h1 fs)
    ·rename_i m e hu;exact absurd hu (h2 m e)
    ·cases ha
  obtain⟨cs,rfl⟩:=hc
  exact⟨.agg cs1,by simp only[LP,ha,if_true];exact⟨cs1,rfl,t1⟩,cs.toList,by simp,s1,by simpa [Value.cells]using r1⟩
 |false=>
  have hna: ∀cs,v≠ .agg cs:=by
   rintro cs rfl
   simp only[Dd]at ha
   unfold Value.okWide at hv
   cases n with
   |zero=>simp[Ff]at hp
   |succ n=>
    simp only[Ff]at hp
    split at hp<;>rename_i hu<;>simp only[hu]at hv ha<;>first
     |(simp only[Cell.okWide,Cell.ok,hu]at hv;done)
     |(cases ha;done)
     |(cases hp;done)
  have hc:v.cells.toList=[v]:=by
   cases v<;>first
    |rfl
    |exact absurd rfl (hna _)
  rw[hc]at r1
  have hl:=r1.length
  obtain⟨x,rfl⟩: ∃x,cs1=[x]:=by
   match cs1,hl with
   |[x],_=>exact⟨x,rfl⟩
  obtain⟨u,q,e,h1,h2⟩:=r1
  simp only[List.cons.injEq]at e
  obtain⟨rfl,_⟩:=e
  exact⟨x,by simp only[LP,ha,Bool.false_eq_true,if_false];exact t1,h1⟩
def JD(P:Program)(n:Nat):List TypeId→List AV→Prop
 |[],xs=>xs=[]
 |t::ts,xs=> ∃x r,xs=x::r∧LP P n t x∧JD P n ts r
theorem MY{H:Type}{enc:TypeId×Value→H}{W:World}{base:Nat}{spare:Nat→Bool}{held:Bool}{n:Nat}(φ:Nat→Place): ∀{ts:List TypeId} {vs:List Value} {ds:List (DataW H)} {ps:List MemPlace},ts.all (Ff P n)=true→
  (∀(j:Nat) t v,ts[j]? =some t→vs[j]? =some v→Value.okWide P W .any base t v)→DataW.TrodAll enc P W 0 spare held ts vs ds ps→ ∃xs:List AV,JD P n ts xs∧AW ⟨φ,[],W⟩ xs vs∧ds.length=ts.length
 |[],[],[],_,_,_,_=>⟨[],rfl,rfl,rfl⟩
 |[],[],_::_,_,_,_,h=>h.elim
 |[],_::_,_,_,_,_,h=>by cases ‹List (DataW H)› <;>exact h.elim
 |_::_,[],_,_,_,_,h=>by cases ‹List (DataW H)› <;>exact h.elim
 |_::_,_::_,[],_,_,_,h=>h.elim
 |t::ts,v::vs,d::ds,ps,hp,hv,⟨p,q,h1,h2,_⟩=>by
  simp only[List.all_cons,Bool.and_eq_true]at hp
  obtain⟨x,t1,r1⟩:=Ub hp.1 (hv 0 t v rfl rfl) h1 φ
  obtain⟨xs,t2,r2,l2⟩:=MY φ hp.2 (fun j t v ht hv'=>hv (j+1) t v (by simpa using ht) (by simpa using hv')) h2
  exact⟨x::xs,⟨x,xs,rfl,t1,t2⟩,⟨v,vs,rfl,r1,r2⟩,by simp[l2]⟩
theorem JO{H:Type}{enc:TypeId×Value→H}(hl:laidOutB P=true){W W':World}(hb:Go.RowKit.Below W.heap.size W W'): ∀{ts:List TypeId} {vs:List Value} {ds:List (DataW H)} {ps:List MemPlace},
  ts.all (fun t=>P.readableRec t&&decide (t<P.types.size))=true→DataW.TrodAll enc P W 0 (fun _=>true) true ts vs ds ps→(∀x∈ps,x.block<W.heap.size)→DataW.TrodAll enc P W' 0 (fun b=>decide (b<W.heap.size)) true ts vs ds ps
 |[],[],[],_,_,h,_=>h
 |[],[],_::_,_,_,h,_=>h.elim
 |[],_::_,_,_,_,h,_=>by cases ‹List (DataW H)› <;>exact h.elim
 |_::_,[],_,_,_,h,_=>by cases ‹List (DataW H)› <;>exact h.elim
 |_::_,_::_,[],_,_,h,_=>h.elim
 |t::ts,v::vs,d::ds,ps,hp,⟨p,q,h1,h2,e⟩,hlt=>by
  simp only[List.all_cons,Bool.and_eq_true,decide_eq_true_eq]at hp
  subst e
  exact⟨p,q,Go.RowKit.Below.trod hl hp.1.1 hp.1.2 h1 hb fun x hx=>hlt x (List.mem_append_left _ hx),JO hl hb hp.2 h2 fun x hx=>hlt x (List.mem_append_right _ hx),rfl⟩
theorem Wk(ft:XG T P tb){k:FuncId}{f:Func}{bt:TypeId}{n:Nat}(hl:laidOutB P=true)(hr:f.resultTypes= #[bt])(hb:P.underlying bt=some .bool)(hp:f.params.toList.all (Ff P n)=true)
  (hrd:f.params.toList.all (fun t=>P.readableRec t&&decide (t<P.types.size))=true) {H:Type} {enc:TypeId×Value→H} {s:ChangeSpec} (hs0:s.vars=[]) (hs: ∀ds:List (DataW H),ds.length=f.params.size→s.fn H ds={results:=[.lit (.bool true)],args:=ds})
  {W:World} {base:Nat} {args:Array Value} {ds gs:List (DataW H)} {before:List MemPlace} (hval: ∀(j:Nat) t v,f.params[j]? =some t→args[j]? =some v→Value.okWide P W .any base t v)
  (hW:DataW.Whole enc P f.params.toList s.vars false W args.toList ds gs before)
  (hgl: ∀g cs,tb.gl g=some cs→g<W.heap.size∧cs.all scal=true∧ ∃vs,CO W g 0 vs∧AW ⟨fun _=>⟨0,0,0⟩,[],W⟩ cs vs)
  (hit: ∀g∈tb.it,∃m:Int,W.cell? ⟨g,0,none⟩=some (.int .i64 m))
  (law: ∀xs:List AV,JD P n f.params.toList xs→AW ⟨fun _=>⟨0,0,0⟩,[],W⟩ xs args.toList→ ∃h,CF tb k xs []=some (.b true,h)):
  Calls P k args W fun e W'=> ∃v,e= .returned v∧s.post enc P f false true false false W args v W':=by
 have hW':=hW
 obtain⟨p,q,hA,hV,rfl,hfz,hnd⟩:=hW
 rw[hs0]at hV
 obtain⟨rfl,rfl⟩:=Go.ChangeShapes.trodVars_none hV
 obtain⟨xs,t1,r1,l1⟩:=MY (fun _=>⟨0,0,0⟩) hp (fun j t v ht hv=>hval j t v (by simpa using ht) (by simpa using hv)) hA
 obtain⟨h,hd⟩:=law xs t1 r1
 have I:Inv tb ⟨fun _=>⟨0,0,0⟩,[],W⟩:=U0 _ W hgl hit
 have hc:=UB ft (C:=⟨fun _=>⟨0,0,0⟩,[],W⟩) I r1 hd
 refine hc.mono fun e W' ⟨v,D,he,X,ID,hw,hH,hv⟩=> ?_
 subst he
 subst hw
 obtain rfl:v= .bool true:=hv
 have hbl:=QA X
 have hlt: ∀x∈p,x.block<W.heap.size:=fun x hx=>hW'.lt x (by simpa using hx)
 have hfn:=hs (ds++[]) (by simpa using l1)
 refine⟨_,rfl,ds,[],p++[],[],p,[],hW',?_,?_,?_,hbl.frame _,fun e=>by cases e⟩
 ·rw[hfn,hr]
  refine⟨[],[],⟨1,?_⟩,rfl,rfl⟩
  simp[DataW.trod,hb,Value.cells]
 ·rw[hfn]
  simpa using JO hl hbl hrd hA hlt
 ·rw[hs0,hfn]
  rfl
end
end Go.Proofs.Ytapafbjgdfgodaa.Am
namespace Go.Proofs.Ytapafbjgdfgodaa.Am
def BX(P:Program)(t:TypeId)(u:T)(I:u.α→Prop):Prop:= ∀n cs,DD P n t cs→ ∃x,u.R (fun _=>False) [] cs x∧I x
def Oo(P:Program)(fs:List Field)(u:T)(I:u.α→Prop):Prop:= ∀n cs,QD (DD P n) fs cs→ ∃x,u.R (fun _=>False) [] cs x∧I x
section
variable{P:Program}{t e:TypeId}
theorem BX.weak{u:T}{I J:u.α→Prop}(h:BX P t u I)(w: ∀x,I x→J x):BX P t u J:=fun n cs k=>by
 obtain⟨x,r,i⟩:=h n cs k
 exact⟨x,r,w x i⟩
theorem BX.int{k:IntKind}(hu:P.underlying t=some (.int k)):BX P t (T.int k) fun x=>k.has x:=by
 intro n cs h
 cases n with
 |zero=>exact h.elim
 |succ n=>
  simp only[DD,hu]at h
  obtain⟨x,rfl,hx⟩:=h
  exact⟨x,rfl,hx⟩
theorem Om{k:IntKind}{m:Nat}{α:Type}{c:α→Nat}{z:α}{hs hm}(ofN: ∀i,i<m→ ∃x,c x=i)(hk: ∀x,k.has x→0≤x∧x<m)(hu:P.underlying t=some (.int k)):BX P t (OR α (fun x=> .i k (c x)) z hs hm) fun _=>True:=by
 intro n cs h
 cases n with
 |zero=>exact h.elim
 |succ n=>
  simp only[DD,hu]at h
  obtain⟨x,rfl,hx⟩:=h
  have:=hk x hx
  obtain⟨y,hy⟩:=ofN x.toNat (by omega)
  refine⟨y,?_,trivial⟩
  show [AV.i k x]=[AV.i k (c y)]
  rw[hy];congr 2;omega
theorem VN{x:Int}:(IntKind.u8.has x→0≤x∧x<(256:Nat))∧(IntKind.u16.has x→0≤x∧x<(65536:Nat))∧(IntKind.u32.has x→0≤x∧x<(4294967296:Nat))∧(IntKind.u64.has x→0≤x∧x<(18446744073709551616:Nat)):=by
 simp only[IntKind.has,IntKind.min,IntKind.max,IntKind.signed,IntKind.bits]
 refine⟨fun h=> ?_,fun h=> ?_,fun h=> ?_,fun h=> ?_⟩<;>simp at h<;>omega
theorem BX.u8(hu:P.underlying t=some (.int .u8)):BX P t T.u8 fun _=>True:=Om (c:=UInt8.toNat) (m:=256) (fun i hi=>⟨UInt8.ofNat i,by rw[UInt8.toNat_ofNat'];exact Nat.mod_eq_of_lt hi⟩) (fun _=>VN.1) hu
theorem BX.u32(hu:P.underlying t=some (.int .u32)):BX P t T.u32 fun _=>True:=Om (c:=UInt32.toNat) (m:=4294967296) (fun i hi=>⟨UInt32.ofNat i,by rw[UInt32.toNat_ofNat'];exact Nat.mod_eq_of_lt hi⟩) (fun _=>VN.2.2.1) hu
theorem BX.u64(hu:P.underlying t=some (.int .u64)):BX P t T.u64 fun _=>True:=Om (c:=UInt64.toNat) (m:=18446744073709551616) (fun i hi=>⟨UInt64.ofNat i,by rw[UInt64.toNat_ofNat'];exact Nat.mod_eq_of_lt hi⟩) (fun _=>VN.2.2.2) hu
theorem Lv{u:T}{I:u.α→Prop}(h:BX P e u I){n:Nat}: ∀{els:List (List AV)},(∀x∈els,DD P n e x)→ ∃xs:List u.α,BE u (fun _=>False) [] els xs∧ ∀x∈xs,I x
 |[],_=>⟨[],trivial,fun _ h=>by cases h⟩
 |c::els,hx=>by
  obtain⟨xs,h1,h2⟩:=Lv h fun y hy=>hx y (List.mem_cons_of_mem _ hy)
  obtain⟨x,h3,h4⟩:=h n c (hx c List.mem_cons_self)
  exact⟨x::xs,⟨h3,h1⟩,fun y hy=>by
   rcases List.mem_cons.1 hy with rfl|hy
   ·exact h4
   ·exact h2 y hy⟩
theorem BX.sl{u:T}{I:u.α→Prop}(h:BX P e u I)(hu:P.underlying t=some (.slice e))(hsz:P.cellsOf e=u.sz):BX P t (T.sl u) fun g=> ∀x∈g.l,I x:=by
 intro n cs k
 cases n with
 |zero=>exact k.elim
 |succ n=>
  simp only[DD,hu]at k
  rcases k with rfl|⟨els,rfl,hels⟩
  ·exact⟨GS.nil,⟨_,rfl,rfl⟩,fun x hx=>by cases hx⟩
  ·obtain⟨xs,h1,h2⟩:=Lv h hels
   exact⟨GS.mk xs,⟨_,rfl,trivial,els,by simp[Dg,hsz],h1⟩,h2⟩
theorem Lq{m:Nat}{u:T}{I:u.α→Prop}(h:BX P e u I)(hu:P.underlying t=some (.array m e)):BX P t (A1 m u) fun g=> ∀x∈g.l,I x:=by
 intro n cs k
 cases n with
 |zero=>exact k.elim
 |succ n=>
  simp only[DD,hu]at k
  obtain⟨els,hl,rfl,hels⟩:=k
  obtain⟨xs,h1,h2⟩:=Lv h hels
  exact⟨⟨xs,by rw[←h1.length,hl]⟩,⟨els,rfl,h1⟩,h2⟩
theorem Oo.one{f:Field}{u:T}{I:u.α→Prop}(h:BX P f.type u I):Oo P [f] u I:=by
 rintro n cs ⟨a,b,rfl,h1,h2⟩
 obtain rfl:b=[]:=h2
 rw[List.append_nil]
 exact h n a h1
theorem Oo.cons{f:Field}{fs:List Field}{u w:T}{I:u.α→Prop}{J:w.α→Prop}(h:BX P f.type u I)(g:Oo P fs w J):Oo P (f::fs) (T.prod u w) fun p=>I p.1∧J p.2:=by
 rintro n cs ⟨a,b,rfl,h1,h2⟩
 obtain⟨x,r1,i1⟩:=h n a h1
 obtain⟨y,r2,i2⟩:=g n b h2
 exact⟨(x,y),⟨a,b,rfl,r1,r2⟩,i1,i2⟩
theorem BX.st{fs:Array Field}{u:T}{I:u.α→Prop}{β:Type}{f:β→u.α}{g:u.α→β}{hfg: ∀y,f (g y)=y}(h:Oo P fs.toList u I)(hu:P.underlying t=some (.struct fs)):BX P t (T.iso u β f g hfg) fun(y:β)=>I (f y):=by
 intro n cs k
 cases n with
 |zero=>exact k.elim
 |succ n=>
  simp only[DD,hu]at k
  obtain⟨x,r,i⟩:=h n cs k
  refine⟨g x,?_,?_⟩
  ·show u.R _ _ _ (f (g x))
   rw[hfg];exact r
  ·show I (f (g x))
   rw[hfg];exact i
end
theorem T1{P:Program}{n:Nat}{t:TypeId}{u:T}{I:u.α→Prop}{v:AV}(ha:Dd P t=u.agg)(h:BX P t u I)(k:LP P n t v): ∃x,u.V (fun _=>False) [] v x∧I x:=by
 unfold LP at k
 cases hu:u.agg with
 |true=>
  rw[ha,hu,if_pos rfl]at k
  obtain⟨cs,rfl,k⟩:=k
  obtain⟨x,r,i⟩:=h n cs k
  exact⟨x, .inl ⟨hu,cs,rfl,r⟩,i⟩
 |false=>
  rw[ha,hu,if_neg (by simp)]at k
  obtain⟨x,r,i⟩:=h n [v] k
  exact⟨x, .inr ⟨hu,r⟩,i⟩
def WC(P:Program):List TypeId→(us:List T)→(CP us→Prop)→Prop
 |[],[],_=>True
 |[t],[u],I=>Dd P t=u.agg∧BX P t u I
 |t::t'::ts,u::u'::us,I=> ∃(J:u.α→Prop) (K:CP (u'::us)→Prop),(Dd P t=u.agg∧BX P t u J)∧WC P (t'::ts) (u'::us) K∧ ∀x y,J x→K y→I (x,y)
 |_,_,_=>False
theorem WC.one{P:Program}{t:TypeId}{u:T}{I:u.α→Prop}(ha:Dd P t=u.agg)(h:BX P t u I):WC P [t] [u] I:=⟨ha,h⟩
theorem WC.cons{P:Program}{t t':TypeId}{ts:List TypeId}{u u':T}{us:List T}{J:u.α→Prop}{K:CP (u'::us)→Prop}(ha:Dd P t=u.agg)(h:BX P t u J)(r:WC P (t'::ts) (u'::us) K):
  WC P (t::t'::ts) (u::u'::us) fun(p:u.α×CP (u'::us))=>J p.1∧K p.2:=⟨J,K,⟨ha,h⟩,r,fun _ _ h k=>⟨h,k⟩⟩
theorem QL{P:Program}{n:Nat}: ∀{ts:List TypeId} {us:List T} {I:CP us→Prop} {xs:List AV},(us=[]→ ∀x,I x)→WC P ts us I→JD P n ts xs→ ∃a:CP us,MG (fun _=>False) [] us xs a∧I a
 |[],[],_,xs,h0,_,h=>⟨(),h,h0 rfl ()⟩
 |[t],[u],I,xs,_,hT,⟨x,r,e,h,k⟩=>by
  obtain rfl:r=[]:=k
  obtain⟨a,h1,h2⟩:=T1 hT.1 hT.2 h
  exact⟨a,⟨x,e,h1⟩,h2⟩
 |t::t'::ts,u::u'::us,I,xs,_,⟨J,K,hT,hR,hI⟩,⟨x,r,e,h,k⟩=>by
  obtain⟨a,h1,h2⟩:=T1 hT.1 hT.2 h
  obtain⟨b,h3,h4⟩:=QL (fun e=>by cases e) hR k
  exact⟨(a,b),⟨x,r,e,h1,h3⟩,hI a b h2 h4⟩
 |[],_::_,_,_,_,h,_=>h.elim
 |_::_,[],_,_,_,h,_=>by cases ‹List TypeId› <;>exact h.elim
 |[_],_::_::_,_,_,_,h,_=>h.elim
 |_::_::_,[_],_,_,_,h,_=>h.elim
theorem W2{P:Program}{tb:Ce}{g n:Nat}{ts:List TypeId}{As:List T}{F:CP As→Option Bool}{I:CP As→Prop}(S:Spec tb g As [T.b] F)(hp:tb.prim g=none)(h0:As=[]→ ∀x,I x)(hT:WC P ts As I)(hF: ∀a,I a→F a=some true)
  {xs:List AV} (h:JD P n ts xs): ∃h,CF tb g xs []=some (.b true,h):=by
 obtain⟨a,ha,hi⟩:=QL h0 hT h
 obtain⟨v,u,hc,_,vs,hv,w,hw,hb⟩:=(S (fun _=>False) [] xs a (fun _ h=>h.elim) (by simp[CB]) ha true (hF a hi)).call
 simp only[C2,hp]at hc
 obtain rfl:w= .b true:=F0.1 hb
 subst hw
 exact⟨u,by rw[hc,hv];rfl⟩
end Go.Proofs.Ytapafbjgdfgodaa.Am
namespace Go.Proofs.Ytapafbjgdfgodaa.Am
abbrev Ur:Nat→Prop:=fun _=>False
def BM(t:T):T where
 α:=t.α
 sz:=t.sz
 agg:=t.agg
 dep:=t.dep
 R:=fun _ H cs x=>t.R Ur H cs x
 zc:=t.zc
 z:=t.z
 hz:=fun _ H=>t.hz _ H
 one:=t.one
 len:=t.len
 sca:=t.sca
 men:=fun h _=>t.men h fun _ hi=>hi.elim
 mono:=fun _ h=>t.mono (fun _ hi=>hi.elim) h
 cut:=fun h a b _=>t.cut h a b fun _ hi=>hi.elim
 frz:=fun h a b c _=>t.frz (Q:=Ur) h a b c fun _ hi=>hi.elim
def T.Un0(t:T):Prop:= ∀{H G:A3} {cs ds:List AV} {x:t.α},t.R Ur H cs x→t.R Ur G ds x→cs=ds
theorem T.Uni.un0{t:T}(h:t.Uni):t.Un0:=fun r r'=>h r r'
theorem Si{t:T}(h:t.Un0):(BM t).Uni:=fun r r'=>h r r'
theorem T.Un0.prod{a b:T}(h:a.Un0)(g:b.Un0):(T.prod a b).Un0:=by
 rintro H G cs ds x ⟨c,d,e,h1,h2⟩ ⟨c',d',e',h1',h2'⟩
 rw[e,e',h h1 h1',g h2 h2']
theorem T.Un0.iso{t:T}{β:Type}{f:β→t.α}{g:t.α→β}{hfg: ∀y,f (g y)=y}(h:t.Un0):(T.iso t β f g hfg).Un0:=fun r r'=>h r r'
theorem BE.un0{t:T}(h:t.Un0){H G:A3}: ∀{c d:List (List AV)} {x:List t.α},BE t Ur H c x→BE t Ur G d x→c=d
 |[],[],[],_,_=>rfl
 |_::_,_::_,_::_,h1,h2=>by rw[h h1.1 h2.1,BE.un0 h h1.2 h2.2]
 |[],_::_,[],_,h2=>h2.elim
 |_::_,_,[],h1,_=>h1.elim
 |[],_,_::_,h1,_=>h1.elim
 |_::_,[],_::_,_,h2=>h2.elim
theorem JE{n:Nat}{t:T}(h:t.Un0):(A1 n t).Un0:=by
 rintro H G cs ds x ⟨c,e,h1⟩ ⟨c',e',h1'⟩
 rw[e,e',h1.un0 h h1']
theorem JY.un0{t:T}(h:t.Un0){H G:A3}{v w:AV}: ∀{g:GS t.α},JY t Ur H v g→JY t Ur G w g→v=w
 | .nil,e,e'=>e.trans e'.symm
 | .mk l,⟨b,els,e,r⟩,⟨b',els',e',r'⟩=>by
  cases v<;>first|exact(show False from b).elim|skip
  case sl sz l1=>
   cases w<;>first|exact(show False from b').elim|skip
   case sl sz' l2=>
    simp only[Dg]at e e'
    split at e
    ·split at e'
     ·rename_i h1 h2
      cases e;cases e'
      rw[BE.un0 h r r']
      subst h1 h2
      rfl
     ·cases e'
    ·cases e
theorem T.Un0.sl{t:T}(h:t.Un0):(T.sl t).Un0:=by
 rintro H G cs ds x ⟨v,e,r⟩ ⟨w,e',r'⟩
 rw[e,e',JY.un0 h r r']
def T.NP(t:T):Prop:= ∀{P:Nat→Prop} {H:A3} {cs:List AV} {x:t.α},t.R P H cs x→t.R Ur H cs x
theorem XC{t:T}:(BM t).NP:=fun h=>h
theorem Hy{α:Type}{c:α→AV}{z:α}{hs hm}:(OR α c z hs hm).NP:=fun h=>h
theorem T.NP.prod{a b:T}(h:a.NP)(g:b.NP):(T.prod a b).NP:=fun⟨c,d,e,r,s⟩=>⟨c,d,e,h r,g s⟩
theorem T.NP.iso{t:T}{β:Type}{f:β→t.α}{g:t.α→β}{hfg: ∀y,f (g y)=y}(h:t.NP):(T.iso t β f g hfg).NP:=fun r=>h r
theorem BE.np{t:T}(h:t.NP){P:Nat→Prop}{H:A3}: ∀{c:List (List AV)} {x:List t.α},BE t P H c x→BE t Ur H c x
 |[],[],_=>trivial
 |_::_,_::_,r=>⟨h r.1,BE.np h r.2⟩
 |[],_::_,r=>r.elim
 |_::_,[],r=>r.elim
theorem Ot{n:Nat}{t:T}(h:t.NP):(A1 n t).NP:=fun⟨c,e,r⟩=>⟨c,e,r.np h⟩
theorem W0{t:T}{P:Nat→Prop}{H:A3}{v:AV}{x:t.α}(r:(BM t).V P H v x):t.V P H v x:=by
 rcases r with ⟨a,cs,e,r⟩|⟨a,r⟩
 ·exact .inl ⟨a,cs,e,t.mono (fun _ hi=>hi.elim) (show t.R Ur H cs x from r)⟩
 ·exact .inr ⟨a,t.mono (fun _ hi=>hi.elim) (show t.R Ur H [v] x from r)⟩
theorem W1{t:T}{P:Nat→Prop}{H:A3}{v:AV}{x:t.α}(r:t.V Ur H v x):(BM t).V P H v x:=by
 rcases r with ⟨a,cs,e,r⟩|⟨a,r⟩
 ·exact .inl ⟨a,cs,e,r⟩
 ·exact .inr ⟨a,r⟩
section
variable{tb:Ce}{Γ:Cx}
theorem AH{a:AO}{t:T}{x:t.α}(h:BB tb Γ a (.val (BM t) x)):BB tb Γ a (.val t x):=fun E rv fp f H I=>W0 (h E rv fp f H I)
end
theorem YK{tb:Ce}{Γ:Cx}{t:T}{zero:List (List AV)}{sz n:Nat}{ps:List (Nat×AO)}{l:List t.α}(np:t.NP)(hs:sz=t.sz)(hz:zero=List.replicate n t.zc)(h:Sp tb Γ t ps (List.replicate n t.z) l):El tb Γ (.bll sz zero ps) (some l) fun l=> .val (BM (T.sl t)) (.mk l):=by
 rintro E rv fp f H R _ ⟨⟩
 subst hz hs
 obtain⟨ds,h1,h2⟩:=h.spec R (BE.rep (t.hz _ _) n)
 refine⟨.sl t.sz ds,none,by simp only[B7,h1,Option.map_some,val],rfl,?_⟩
 exact W1 (t:=T.sl t) (FB.2 ⟨trivial,ds,by simp[Dg],h2.np np⟩)
theorem TV{P:Program}{i:TypeId}{u:T}{I:u.α→Prop}(h:BX P i u I):BX P i (BM u) I:=h
section
variable{tb:Ce}{Γ:Cx}{a b:AO}
end
end Go.Proofs.Ytapafbjgdfgodaa.Am
section
set_option linter.unusedVariables false
set_option maxRecDepth 100000
set_option maxHeartbeats 4000000
namespace Go.Proofs.Ytapafbjgdfgodaa.Am
structure A9 where
 V:Int
 B:(Ar UInt8 16)
 deriving DecidableEq
def Ao:T:=T.iso (T.prod (T.int .i64) (A1 16 T.u8)) A9 (fun x=>(x.V,x.B)) (fun p=>⟨p.1,p.2⟩) (fun _=>rfl)
def B3:AB Ao (T.int .i64) 0:=AB.iso (BC (A0 _))
def BU:AB Ao (A1 16 T.u8) 1:=AB.iso (A2 (A0 _))
def De:=Bg.iso (g:=fun p=>⟨p.1,p.2⟩) (hfg:=fun _=>rfl) (Bg.prod (Bg.int .i64) (Ba 16 Bg.u8)) (fun(x y:A9)=>inferInstance) (f:=fun x=>(x.V,x.B)) (by rintro⟨⟩ ⟨⟩ h;cases h;rfl)
structure AP where
 A:A9
 Port:Int
 deriving DecidableEq
def Az:T:=T.iso (T.prod Ao (T.int .i64)) AP (fun x=>(x.A,x.Port)) (fun p=>⟨p.1,p.2⟩) (fun _=>rfl)
def HS:AB Az Ao 0:=AB.iso (BC (A0 _))
def D3:AB Az (T.int .i64) 17:=AB.iso (A2 (A0 _))
def Bh:=Bg.iso (g:=fun p=>⟨p.1,p.2⟩) (hfg:=fun _=>rfl) (Bg.prod De (Bg.int .i64)) (fun(x y:AP)=>inferInstance) (f:=fun x=>(x.A,x.Port)) (by rintro⟨⟩ ⟨⟩ h;cases h;rfl)
structure Aw where
 A:A9
 Bits:Int
 deriving DecidableEq
def An:T:=T.iso (T.prod Ao (T.int .i64)) Aw (fun x=>(x.A,x.Bits)) (fun p=>⟨p.1,p.2⟩) (fun _=>rfl)
def B2:AB An Ao 0:=AB.iso (BC (A0 _))
def BT:AB An (T.int .i64) 17:=AB.iso (A2 (A0 _))
def BZ:=Bg.iso (g:=fun p=>⟨p.1,p.2⟩) (hfg:=fun _=>rfl) (Bg.prod De (Bg.int .i64)) (fun(x y:Aw)=>inferInstance) (f:=fun x=>(x.A,x.Bits)) (by rintro⟨⟩ ⟨⟩ h;cases h;rfl)
structure Aj where
 Key:(Ar UInt8 32)
 Psk:(Ar UInt8 32)
 End:AP
 Keep:Int
 Sent:UInt64
 Got:UInt64
 Allowed:(GS Aw)
 deriving DecidableEq
def Ac:T:=T.iso (T.prod (A1 32 T.u8) (T.prod (A1 32 T.u8) (T.prod Az (T.prod (T.int .i64) (T.prod T.u64 (T.prod T.u64 (BM (T.sl An)))))))) Aj (fun x=>(x.Key,x.Psk,x.End,x.Keep,x.Sent,x.Got,x.Allowed)) (fun p=>⟨p.1,p.2.1,p.2.2.1,p.2.2.2.1,p.2.2.2.2.1,p.2.2.2.2.2.1,p.2.2.2.2.2.2⟩) (fun _=>rfl)
def AF:AB Ac (A1 32 T.u8) 0:=AB.iso (BC (A0 _))
def C3:AB Ac (A1 32 T.u8) 32:=AB.iso (A2 (BC (A0 _)))
def Bf:AB Ac Az 64:=AB.iso (A2 (A2 (BC (A0 _))))
def BK:AB Ac (T.int .i64) 82:=AB.iso (A2 (A2 (A2 (BC (A0 _)))))
def AU:AB Ac (BM (T.sl An)) 85:=AB.iso (A2 (A2 (A2 (A2 (A2 (A2 (A0 _)))))))
structure AG where
 Private:(Ar UInt8 32)
 Port:Int
 Mark:UInt32
 Peers:(GS Aj)
 deriving DecidableEq
def Ad:T:=T.iso (T.prod (A1 32 T.u8) (T.prod (T.int .i64) (T.prod T.u32 (BM (T.sl Ac))))) AG (fun x=>(x.Private,x.Port,x.Mark,x.Peers)) (fun p=>⟨p.1,p.2.1,p.2.2.1,p.2.2.2⟩) (fun _=>rfl)
def BH:AB Ad (A1 32 T.u8) 0:=AB.iso (BC (A0 _))
def BL:AB Ad (T.int .i64) 32:=AB.iso (A2 (BC (A0 _)))
def Cn:AB Ad T.u32 33:=AB.iso (A2 (A2 (BC (A0 _))))
def A5:AB Ad (BM (T.sl Ac)) 34:=AB.iso (A2 (A2 (A2 (A0 _))))
structure Ak where
 Key:(Ar UInt8 32)
 Remove:Bool
 Update:Bool
 HasPsk:Bool
 Psk:(Ar UInt8 32)
 HasEnd:Bool
 End:AP
 HasKeep:Bool
 Keep:Int
 Replace:Bool
 Allowed:(GS Aw)
 deriving DecidableEq
def Ae:T:=T.iso (T.prod (A1 32 T.u8) (T.prod T.b (T.prod T.b (T.prod T.b (T.prod (A1 32 T.u8) (T.prod T.b (T.prod Az (T.prod T.b (T.prod (T.int .i64) (T.prod T.b (T.sl An))))))))))) Ak (fun x=>(x.Key,x.Remove,x.Update,x.HasPsk,x.Psk,x.HasEnd,x.End,x.HasKeep,x.Keep,x.Replace,x.Allowed)) (fun p=>⟨p.1,p.2.1,p.2.2.1,p.2.2.2.1,p.2.2.2.2.1,p.2.2.2.2.2.1,p.2.2.2.2.2.2.1,p.2.2.2.2.2.2.2.1,p.2.2.2.2.2.2.2.2.1,p.2.2.2.2.2.2.2.2.2.1,p.2.2.2.2.2.2.2.2.2.2⟩) (fun _=>rfl)
def Bo:AB Ae (A1 32 T.u8) 0:=AB.iso (BC (A0 _))
def Cs:AB Ae T.b 32:=AB.iso (A2 (BC (A0 _)))
def BW:AB Ae T.b 33:=AB.iso (A2 (A2 (BC (A0 _))))
def By:AB Ae T.b 34:=AB.iso (A2 (A2 (A2 (BC (A0 _)))))
def Ct:AB Ae (A1 32 T.u8) 35:=AB.iso (A2 (A2 (A2 (A2 (BC (A0 _))))))
def Bz:AB Ae T.b 67:=AB.iso (A2 (A2 (A2 (A2 (A2 (BC (A0 _)))))))
def Cu:AB Ae Az 68:=AB.iso (A2 (A2 (A2 (A2 (A2 (A2 (BC (A0 _))))))))
def Bs:AB Ae T.b 86:=AB.iso (A2 (A2 (A2 (A2 (A2 (A2 (A2 (BC (A0 _)))))))))
def Cj:AB Ae (T.int .i64) 87:=AB.iso (A2 (A2 (A2 (A2 (A2 (A2 (A2 (A2 (BC (A0 _))))))))))
def BP:AB Ae T.b 88:=AB.iso (A2 (A2 (A2 (A2 (A2 (A2 (A2 (A2 (A2 (BC (A0 _)))))))))))
def BQ:AB Ae (T.sl An) 89:=AB.iso (A2 (A2 (A2 (A2 (A2 (A2 (A2 (A2 (A2 (A2 (A0 _)))))))))))
structure Av where
 HasPrivate:Bool
 Private:(Ar UInt8 32)
 HasPort:Bool
 Port:Int
 HasMark:Bool
 Mark:UInt32
 Replace:Bool
 Peers:(GS Ak)
 deriving DecidableEq
def Ab:T:=T.iso (T.prod T.b (T.prod (A1 32 T.u8) (T.prod T.b (T.prod (T.int .i64) (T.prod T.b (T.prod T.u32 (T.prod T.b (T.sl Ae)))))))) Av (fun x=>(x.HasPrivate,x.Private,x.HasPort,x.Port,x.HasMark,x.Mark,x.Replace,x.Peers)) (fun p=>⟨p.1,p.2.1,p.2.2.1,p.2.2.2.1,p.2.2.2.2.1,p.2.2.2.2.2.1,p.2.2.2.2.2.2.1,p.2.2.2.2.2.2.2⟩) (fun _=>rfl)
def BO:AB Ab T.b 0:=AB.iso (BC (A0 _))
def Df:AB Ab (A1 32 T.u8) 1:=AB.iso (A2 (BC (A0 _)))
def Ch:AB Ab T.b 33:=AB.iso (A2 (A2 (BC (A0 _))))
def DU:AB Ab (T.int .i64) 34:=AB.iso (A2 (A2 (A2 (BC (A0 _)))))
def Ci:AB Ab T.b 35:=AB.iso (A2 (A2 (A2 (A2 (BC (A0 _))))))
def DV:AB Ab T.u32 36:=AB.iso (A2 (A2 (A2 (A2 (A2 (BC (A0 _)))))))
def Cg:AB Ab T.b 37:=AB.iso (A2 (A2 (A2 (A2 (A2 (A2 (BC (A0 _))))))))
def B0:AB Ab (T.sl Ae) 38:=AB.iso (A2 (A2 (A2 (A2 (A2 (A2 (A2 (A0 _))))))))
def Br:(Ar UInt8 32)→(Ar UInt8 32)→Bool:=Dw (Ba 32 Bg.u8)
def Ed:Aw→Aw→Bool:=Dw BZ
end Go.Proofs.Ytapafbjgdfgodaa.Am
end
section
set_option linter.unusedVariables false
set_option maxRecDepth 100000
set_option maxHeartbeats 4000000
namespace Go.Proofs.Ytapafbjgdfgodaa.Am
def C9:Nat:=3
def DN:Nat:=4
def DP:Nat:=5
def C5:Nat:=6
def EU:Nat:=7
def Ew:Nat:=8
def Cm:Nat:=9
def Ey:Nat:=10
def CS:Nat:=11
def CI:Nat:=12
def DM:Nat:=13
def Du:Nat:=14
def Di:Nat:=15
def D9:Nat:=16
def CH:Nat:=17
def CZ:Nat:=18
def Bu:Nat:=19
def Da:Nat:=20
def Dj:Nat:=21
def D8:Nat:=22
def Ez:Nat:=23
def DG:Nat:=24
def Er:Nat:=25
def E0:Nat:=26
def E1:Nat:=27
def EV:Nat:=28
def BY:Nat:=29
def Dt:Nat:=30
def D7:Nat:=31
def CG:Nat:=32
def Bv:Nat:=33
def BF:Nat:=34
def Cl:Nat:=35
def Bp:Nat:=36
def CT:Nat:=37
def DO:Nat:=38
def EW:Nat:=39
def EX:Nat:=40
def DZ:Nat:=41
def E3:Nat:=42
def CD:Nat:=43
def BJ:Nat:=44
def E2:Nat:=45
def F5:Nat:=46
def E5:Nat:=47
def E6:Nat:=48
def Ea:Nat:=49
def E4:Nat:=50
def Db:Nat:=51
def Cv:Nat:=52
noncomputable def Ei:EP:=⟨false,2,55,[.tmp 4],(sf [oz 2 (.box 27 35 (.t 0)),oz 3 (.box 27 35 (.t 1)),oz 4 (.mv (.k (.b false)))] (.seq (sf [oz 6 (.ld true 35 (.t 2)),oz 7 (.call DN [(.t 6)]),mt 8 7,⟨some 9,some (8,false), .ld true 35 (.t 3)⟩,⟨some 10,some (8,false), .call DN [(.t 9)]⟩,oz 11 (.pick (.t 8) (.k (.b true)) (.t 10))] (.cond (.t 11) (sf [oz 12 (.call DP []),mt 4 12] .ret) .skip)) (sf [oz 13 (.ld true 35 (.t 2)),oz 14 (.ld true 35 (.t 3)),oz 15 (.call C5 [(.t 13),(.t 14)]),oz 5 (.alloc 32 Ab.zc),on (.st 39 (.t 5) (.t 15))] (.seq (sr [oz 16 (.ld true 39 (.t 5)),oz 17 (.ld true 35 (.t 2)),oz 18 (.ld true 35 (.t 3)),oz 19 (.call Ew [(.t 17),(.t 18)]),oz 20 (.call EU [(.t 16),(.t 19)]),oz 21 (.un .not (.t 20)),mt 22 21,⟨some 23,some (22,false), .ld true 39 (.t 5)⟩,⟨some 24,some (22,false), .call Cm [(.t 23)]⟩,⟨some 25,some (22,false), .ld true 39 (.t 5)⟩,⟨some 26,some (22,false), .call Ey [(.t 25)]⟩,⟨some 27,some (22,false), .eq true (.one (.b)) (.t 24) (.t 26)⟩,oz 28 (.pick (.t 22) (.k (.b true)) (.t 27))] (.cond (.t 28) (sf [oz 4 (.mv (.k (.b false)))] .ret) .skip)) (sr [oz 29 (.ld true 35 (.t 2)),oz 30 (.call CS [(.t 29)]),oz 31 (.un .not (.t 30)),mt 32 31,⟨some 33,some (32,false), .ld true 35 (.t 3)⟩,⟨some 34,some (32,false), .call CS [(.t 33)]⟩,⟨some 35,some (32,false), .un .not (.t 34)⟩,oz 36 (.pick (.t 32) (.k (.b true)) (.t 35)),mt 37 36,⟨some 38,some (37,false), .ld true 35 (.t 2)⟩,⟨some 39,some (37,false), .ld true 35 (.t 3)⟩,⟨some 40,some (37,false), .call CI [(.t 38),(.t 39)]⟩,⟨some 41,some (37,false), .ld true 35 (.t 2)⟩,⟨some 42,some (37,false), .ld true 35 (.t 3)⟩,⟨some 43,some (37,false), .call DM [(.t 41),(.t 42)]⟩,⟨some 44,some (37,false), .eq false (.one (.b)) (.t 40) (.t 43)⟩,⟨some 45,some (37,false), .mv (.t 44)⟩,⟨some 46,some (45,true), .ld true 35 (.t 2)⟩,⟨some 47,some (45,true), .ld true 35 (.t 2)⟩,⟨some 48,some (45,true), .call C5 [(.t 46),(.t 47)]⟩,⟨some 49,some (45,true), .call Cm [(.t 48)]⟩,⟨some 50,some (37,false), .pick (.t 45) (.t 49) (.k (.b false))⟩,oz 51 (.pick (.t 37) (.k (.b true)) (.t 50)),mt 52 51,⟨some 53,some (52,true), .call DP []⟩,oz 54 (.pick (.t 52) (.t 53) (.k (.b false))),mt 4 54]
 .ret)))))⟩
noncomputable def Od:AC:=(.seq (sf [mt 8 3,oz 9 (.fa 34 (.t 1)),oz 10 (.ld false 1 (.t 9)),oz 11 (.len (.t 10)),oz 12 (.bin .lss (.t 8) (.t 11))] (.cond (.t 12) .skip (.exit 0))) (.seq (.blk 1 (sf [oz 15 (.fa 34 (.t 1)),oz 16 (.ld false 1 (.t 15)),mt 17 3,oz 18 (.ias 86 (.t 16) (.t 17)),oz 19 (.fa 85 (.t 18)),oz 20 (.ld false 1 (.t 19)),oz 21 (.len (.t 20)),oz 22 (.bin .gtr (.t 21) (ki 80))] (.cond (.t 22) (sf [oz 2 (.mv (.k (.b true)))] .ret) .skip))) (rg false [mt 13 3,oz 14 (.bin .add (.t 13) (ki 1)),mt 3 14])))
noncomputable def Hn:EP:=⟨false,1,23,[.tmp 2],(sf [oz 1 (.box 27 35 (.t 0)),oz 2 (.mv (.k (.b false)))] (.seq (sf [oz 4 (.fa 34 (.t 1)),oz 5 (.ld false 1 (.t 4)),oz 6 (.len (.t 5)),oz 7 (.bin .gtr (.t 6) (ki 20))] (.cond (.t 7) (sf [oz 2 (.mv (.k (.b true)))] .ret) .skip)) (.seq (sf [oz 3 (.mv (ki 0))] (.blk 0 (.loop [1,3] Od))) (sf [oz 2 (.mv (.k (.b false)))] .ret))))⟩
noncomputable def Ht:EP:=⟨false,0,37,[.tmp 0],(sf [oz 0 (.mv (.k (.b false)))] (sf [oz 2 (.bld (A1 32 T.u8).zc [(0,1,(.k (.i .u8 1)))]),oz 3 (.bld Ac.zc [(0,32,(.t 2))]),oz 4 (.bll 86 (List.replicate 1 Ac.zc) [(0,(.t 3))]),oz 5 (.bld Ad.zc [(34,1,(.t 4))]),oz 6 (.bld Ad.zc []),oz 7 (.call C5 [(.t 5),(.t 6)]),oz 1 (.alloc 32 Ab.zc),on (.st 39 (.t 1) (.t 7))] (sf [oz 8 (.fa 38 (.t 1)),oz 9 (.ld false 1 (.t 8)),oz 10 (.len (.t 9)),oz 11 (.bin .eql (.t 10) (ki 1)),mt 12 11,⟨some 13,some (12,true), .fa 38 (.t 1)⟩,⟨some 14,some (12,true), .ld false 1 (.t 13)⟩,⟨some 15,some (12,true), .ias 90 (.t 14) (ki 0)⟩,⟨some 16,some (12,true), .fa 32 (.t 15)⟩,⟨some 17,some (12,true), .ld false 1 (.t 16)⟩,oz 18 (.pick (.t 12) (.t 17) (.k (.b false))),mt 19 18,⟨some 20,some (19,true), .fa 38 (.t 1)⟩,⟨some 21,some (19,true), .ld false 1 (.t 20)⟩,⟨some 22,some (19,true), .ias 90 (.t 21) (ki 0)⟩,⟨some 23,some (19,true), .fa 0 (.t 22)⟩,⟨some 24,some (19,true), .ld true 32 (.t 23)⟩,⟨some 25,some (19,true), .bld (A1 32 T.u8).zc [(0,1,(.k (.i .u8 1)))]⟩,⟨some 26,some (19,true), .eq false (.agg (kk [(32, .i .u8)])) (.t 24) (.t 25)⟩,oz 27 (.pick (.t 19) (.t 26) (.k (.b false))),mt 28 27,⟨some 29,some (28,true), .bld Ab.zc []⟩,⟨some 30,some (28,true), .call Cm [(.t 29)]⟩,oz 31 (.pick (.t 28) (.t 30) (.k (.b false))),mt 32 31,⟨some 33,some (32,true), .ld true 39 (.t 1)⟩,⟨some 34,some (32,true), .call Cm [(.t 33)]⟩,⟨some 35,some (32,true), .un .not (.t 34)⟩,oz 36 (.pick (.t 32) (.t 35) (.k (.b false))),mt 0 36]
 .ret)))⟩
noncomputable def Li:AC:=(sf [oz 48 (.bin .lss (.t 47) (.t 46))] (.seq (.cond (.t 48) .skip (.exit 1)) (.seq (.blk 2 (sf [oz 49 (.ias 86 (.t 45) (.t 47)),oz 50 (.ld true 86 (.t 49)),oz 9 (.alloc 45 Ac.zc),on (.st 86 (.t 9) (.t 50))] (sf [mt 52 7,oz 53 (.fa 0 (.t 9)),oz 54 (.ld true 32 (.t 53)),oz 55 (.lkp (.agg (kk [(32, .i .u8)])) (.agg Ac.zc) true (.t 52) (.t 54)),mt 51 55,oz 56 (.ext (.t 51) 0),oz 57 (.ext (.t 51) 1),oz 10 (.alloc 45 Ac.zc),on (.st 86 (.t 10) (.t 56)),mt 11 57] (sf [mt 58 11,oz 59 (.un .not (.t 58))] (.cond (.t 59) (rg false [oz 60 (.fa 38 (.t 5)),oz 61 (.ld false 1 (.t 60)),oz 62 (.fa 0 (.t 9)),oz 63 (.ld true 32 (.t 62)),oz 64 (.bld Ae.zc [(0,32,(.t 63)),(32,1,(.k (.b true)))]),oz 65 (.bll 90 (List.replicate 1 Ae.zc) [(0,(.t 64))]),oz 66 (.app 47 90 152 (.t 61) (.t 65)),oz 67 (.fa 38 (.t 5)),on (.st 1 (.t 67) (.t 66))]) .skip))))) (rg false [oz 68 (.bin .add (.t 47) (ki 1)),mt 47 68]))))
noncomputable def Lh:AC:=(sf [oz 74 (.bin .lss (.t 73) (.t 72))] (.seq (.cond (.t 74) .skip (.exit 3)) (.seq (.blk 4 (sf [oz 75 (.ias 86 (.t 71) (.t 73)),oz 76 (.ld true 86 (.t 75)),oz 13 (.alloc 45 Ac.zc),on (.st 86 (.t 13) (.t 76))] (sr [mt 77 6,oz 78 (.fa 0 (.t 13)),oz 79 (.ld true 32 (.t 78)),oz 80 (.lkp (.agg (kk [(32, .i .u8)])) (.agg Ac.zc) false (.t 77) (.t 79)),oz 81 (.fld false 85 1 (.t 80)),oz 82 (.fa 85 (.t 13)),oz 83 (.ld false 1 (.t 82)),oz 84 (.call Bu [(.t 81),(.t 83)]),oz 85 (.un .not (.t 84))] (.cond (.t 85) (rg false [oz 86 (.fa 38 (.t 5)),oz 87 (.ld false 1 (.t 86)),oz 88 (.fa 0 (.t 13)),oz 89 (.ld true 32 (.t 88)),oz 90 (.bld Ae.zc [(0,32,(.t 89)),(33,1,(.k (.b true))),(88,1,(.k (.b true)))]),oz 91 (.bll 90 (List.replicate 1 Ae.zc) [(0,(.t 90))]),oz 92 (.app 47 90 152 (.t 87) (.t 91)),oz 93 (.fa 38 (.t 5)),on (.st 1 (.t 93) (.t 92))]) .skip)))) (rg false [oz 94 (.bin .add (.t 73) (ki 1)),mt 73 94]))))
noncomputable def Lg:AC:=(sf [oz 99 (.bin .lss (.t 98) (.t 97))] (.seq (.cond (.t 99) .skip (.exit 5)) (.seq (.blk 6 (sf [oz 100 (.ias 86 (.t 96) (.t 98)),oz 101 (.ld true 86 (.t 100)),oz 15 (.alloc 45 Ac.zc),on (.st 86 (.t 15) (.t 101))] (sf [mt 103 6,oz 104 (.fa 0 (.t 15)),oz 105 (.ld true 32 (.t 104)),oz 106 (.lkp (.agg (kk [(32, .i .u8)])) (.agg Ac.zc) true (.t 103) (.t 105)),mt 102 106,oz 107 (.ext (.t 102) 0),oz 108 (.ext (.t 102) 1),oz 16 (.alloc 45 Ac.zc),on (.st 86 (.t 16) (.t 107)),mt 17 108] (sf [oz 110 (.ld true 86 (.t 16)),oz 111 (.ld true 86 (.t 15)),mt 112 17,oz 113 (.un .not (.t 112)),oz 114 (.call Da [(.t 110),(.t 111),(.t 113)]),mt 109 114,oz 115 (.ext (.t 109) 0),oz 116 (.ext (.t 109) 1),oz 18 (.alloc 47 Ae.zc),on (.st 90 (.t 18) (.t 115)),mt 19 116] (sf [mt 117 19] (.cond (.t 117) (rg false [oz 118 (.fa 38 (.t 5)),oz 119 (.ld false 1 (.t 118)),oz 120 (.ld true 90 (.t 18)),oz 121 (.bll 90 (List.replicate 1 Ae.zc) [(0,(.t 120))]),oz 122 (.app 47 90 152 (.t 119) (.t 121)),oz 123 (.fa 38 (.t 5)),on (.st 1 (.t 123) (.t 122))]) .skip)))))) (rg false [oz 124 (.bin .add (.t 98) (ki 1)),mt 98 124]))))
noncomputable def Fo:EP:=⟨false,2,126,[.cell true 39 4],(sf [oz 2 (.box 27 35 (.t 0)),oz 3 (.box 27 35 (.t 1)),oz 4 (.alloc 32 Ab.zc)] (sf [oz 5 (.alloc 32 Ab.zc)] (.seq (.blk 0 (sf [oz 21 (.ld true 35 (.t 2)),oz 22 (.call Du [(.t 21)]),oz 23 (.un .not (.t 22)),mt 24 23,⟨some 25,some (24,false), .ld true 35 (.t 3)⟩,⟨some 26,some (24,false), .call Du [(.t 25)]⟩,⟨some 27,some (24,false), .un .not (.t 26)⟩,oz 28 (.pick (.t 24) (.k (.b true)) (.t 27)),mt 20 28] (.cond (.t 20) (sf [oz 29 (.ld true 39 (.t 5)),on (.st 39 (.t 4) (.t 29))] .ret) (sf [oz 31 (.ld true 35 (.t 2)),oz 32 (.ld true 35 (.t 3)),oz 33 (.call CI [(.t 31),(.t 32)]),oz 34 (.un .not (.t 33)),mt 30 34] (.cond (.t 30) (sf [oz 35 (.ld true 35 (.t 3)),oz 36 (.call Di [(.t 35)]),on (.st 39 (.t 4) (.t 36))] .ret) .skip))))) (sf [oz 37 (.ld true 35 (.t 2)),oz 38 (.ld true 35 (.t 3)),oz 39 (.call D9 [(.t 5),(.t 37),(.t 38)])] (.seq (.regd [oz 40 (.ld true 35 (.t 2)),oz 41 (.call CH [(.t 40)]),oz 42 (.ld true 35 (.t 3)),oz 43 (.call CH [(.t 42)]),mt 6 41,mt 7 43] [some (0,0),none,some (0,1),none,some (2,2),some (2,2)]) (.seq (sf [oz 44 (.fa 34 (.t 2)),oz 45 (.ld false 1 (.t 44)),oz 46 (.len (.t 45)),oz 47 (.mv (ki 0))] (.blk 1 (.loop [3,4,5,6,7,45,46,47] Li))) (.seq (sf [oz 69 (.ld true 35 (.t 3)),mt 70 6,oz 71 (.call CZ [(.t 69),(.t 70)]),oz 72 (.len (.t 71)),oz 73 (.mv (ki 0))] (.blk 3 (.loop [3,4,5,6,71,72,73] Lh))) (.seq (sf [oz 95 (.fa 34 (.t 3)),oz 96 (.ld false 1 (.t 95)),oz 97 (.len (.t 96)),oz 98 (.mv (ki 0))] (.blk 5
  (.loop [4,5,6,96,97,98] Lg))) (sf [oz 125 (.ld true 39 (.t 5)),on (.st 39 (.t 4) (.t 125))] .ret)))))))))⟩
noncomputable def OM:AC:=(.seq (sf [mt 62 5,oz 63 (.fa 38 (.t 2)),oz 64 (.ld false 1 (.t 63)),oz 65 (.len (.t 64)),oz 66 (.bin .lss (.t 62) (.t 65))] (.cond (.t 66) .skip (.exit 0))) (.seq (.blk 1 (sr [oz 69 (.fa 38 (.t 2)),oz 70 (.ld false 1 (.t 69)),mt 71 5,oz 72 (.ias 90 (.t 70) (.t 71)),oz 73 (.ld true 90 (.t 72)),oz 74 (.fa 38 (.t 3)),oz 75 (.ld false 1 (.t 74)),mt 76 5,oz 77 (.ias 90 (.t 75) (.t 76)),oz 78 (.ld true 90 (.t 77)),oz 79 (.call Dj [(.t 73),(.t 78)]),oz 80 (.un .not (.t 79))] (.cond (.t 80) (sf [oz 4 (.mv (.k (.b false)))] .ret) .skip))) (rg false [mt 67 5,oz 68 (.bin .add (.t 67) (ki 1)),mt 5 68])))
noncomputable def Io:EP:=⟨false,2,81,[.tmp 4],(sf [oz 2 (.box 32 39 (.t 0)),oz 3 (.box 32 39 (.t 1)),oz 4 (.mv (.k (.b false)))] (.seq (sf [oz 6 (.fa 0 (.t 2)),oz 7 (.ld false 1 (.t 6)),oz 8 (.fa 0 (.t 3)),oz 9 (.ld false 1 (.t 8)),oz 10 (.eq true (.one (.b)) (.t 7) (.t 9)),mt 11 10,⟨some 12,some (11,false), .fa 1 (.t 2)⟩,⟨some 13,some (11,false), .ld true 32 (.t 12)⟩,⟨some 14,some (11,false), .fa 1 (.t 3)⟩,⟨some 15,some (11,false), .ld true 32 (.t 14)⟩,⟨some 16,some (11,false), .eq true (.agg (kk [(32, .i .u8)])) (.t 13) (.t 15)⟩,oz 17 (.pick (.t 11) (.k (.b true)) (.t 16)),mt 18 17,⟨some 19,some (18,false), .fa 33 (.t 2)⟩,⟨some 20,some (18,false), .ld false 1 (.t 19)⟩,⟨some 21,some (18,false), .fa 33 (.t 3)⟩,⟨some 22,some (18,false), .ld false 1 (.t 21)⟩,⟨some 23,some (18,false), .eq true (.one (.b)) (.t 20) (.t 22)⟩,oz 24 (.pick (.t 18) (.k (.b true)) (.t 23)),mt 25 24,⟨some 26,some (25,false), .fa 34 (.t 2)⟩,⟨some 27,some (25,false), .ld false 1 (.t 26)⟩,⟨some 28,some (25,false), .fa 34 (.t 3)⟩,⟨some 29,some (25,false), .ld false 1 (.t 28)⟩,⟨some 30,some (25,false), .bin .neq (.t 27) (.t 29)⟩,oz 31 (.pick (.t 25) (.k (.b true)) (.t 30)),mt 32 31,⟨some 33,some (32,false), .fa 35 (.t 2)⟩,⟨some 34,some (32,false), .ld false 1 (.t 33)⟩,⟨some 35,some (32,false), .fa 35 (.t 3)⟩,⟨some 36,some (32,false), .ld false 1 (.t 35)⟩,⟨some 37,some (32,false), .eq true (.one (.b)) (.t 34) (.t 36)⟩,oz 38 (.pick (.t 32) (.k (.b true)) (.t 37)),mt 39 38,⟨some 40,some (39,false), .fa 36 (.t 2)⟩,⟨some 41,some (39,false), .ld false 1 (.t 40)⟩,⟨some 42,some (39,false), .fa 36 (.t 3)⟩,⟨some 43,some (39,false), .ld false 1 (.t 42)⟩,⟨some 44,some (39,false), .bin .neq (.t 41) (.t 43)⟩,oz 45 (.pick (.t 39) (.k (.b true)) (.t 44)),mt 46 45,⟨some 47,some (46,false), .fa 37 (.t 2)⟩,⟨some 48,some (46,false), .ld false 1 (.t 47)⟩,⟨some 49,some (46,false), .fa 37 (.t 3)⟩,⟨some 50,some (46,false), .ld false 1 (.t 49)⟩,⟨some 51,some (46,false), .eq true (.one (.b)) (.t 48) (.t 50)⟩,oz 52 (.pick (.t 46) (.k (.b true)) (.t 51)),mt 53 52,⟨some 54,some (53,false), .fa 38 (.t 2)⟩,⟨some 55,some (53,false), .ld false 1 (.t 54)⟩,⟨some 56,some (53,false), .len (.t 55)⟩,⟨some 57,some (53,false), .fa 38 (.t 3)⟩,⟨some 58,some (53,false), .ld false 1 (.t 57)⟩,⟨some 59,some (53,false), .len (.t 58)⟩,⟨some 60,some (53,false), .bin .neq (.t 56) (.t 59)⟩,oz 61 (.pick (.t 53) (.k (.b true)) (.t 60))]
 (.cond (.t 61) (sf [oz 4 (.mv (.k (.b false)))] .ret) .skip)) (.seq (sf [oz 5 (.mv (ki 0))] (.blk 0 (.loop [2,3,5] OM))) (sf [oz 4 (.mv (.k (.b true)))] .ret))))⟩
noncomputable def NW:AC:=(.seq (sf [mt 57 6,oz 58 (.fa 34 (.t 2)),oz 59 (.ld false 1 (.t 58)),oz 60 (.len (.t 59)),oz 61 (.bin .lss (.t 57) (.t 60))] (.cond (.t 61) .skip (.exit 0))) (.seq (.blk 1 (sr [oz 64 (.ld true 35 (.t 3)),oz 65 (.fa 34 (.t 2)),oz 66 (.ld false 1 (.t 65)),mt 67 6,oz 68 (.ias 86 (.t 66) (.t 67)),oz 69 (.fa 0 (.t 68)),oz 70 (.ld true 32 (.t 69)),oz 71 (.call Ez [(.t 64),(.t 70)]),oz 72 (.bin .lss (.t 71) (ki 0))] (.cond (.t 72) (.regd [oz 73 (.fa 38 (.t 5)),oz 74 (.ld false 1 (.t 73)),oz 75 (.fa 34 (.t 2)),oz 76 (.ld false 1 (.t 75)),mt 77 6,oz 78 (.ias 86 (.t 76) (.t 77)),oz 79 (.fa 0 (.t 78)),oz 80 (.ld true 32 (.t 79)),oz 81 (.bld Ae.zc [(0,32,(.t 80)),(32,1,(.k (.b true)))]),oz 82 (.bll 90 (List.replicate 1 Ae.zc) [(0,(.t 81))]),oz 83 (.app 47 90 152 (.t 74) (.t 82)),oz 84 (.fa 38 (.t 5)),on (.st 1 (.t 84) (.t 83))] [some (0,0),some (0,0),some (0,0),some (0,0),some (0,0),some (0,0),some (0,0),some (0,0),some (0,0),some (0,0),none,some (1,1),none]) .skip))) (rg false [mt 62 6,oz 63 (.bin .add (.t 62) (ki 1)),mt 6 63])))
noncomputable def NV:AC:=(.seq (sf [mt 85 7,oz 86 (.fa 34 (.t 3)),oz 87 (.ld false 1 (.t 86)),oz 88 (.len (.t 87)),oz 89 (.bin .lss (.t 85) (.t 88))] (.cond (.t 89) .skip (.exit 2))) (.seq (.blk 3 (sr [oz 92 (.ld true 35 (.t 2)),oz 93 (.fa 34 (.t 3)),oz 94 (.ld false 1 (.t 93)),mt 95 7,oz 96 (.ias 86 (.t 94) (.t 95)),oz 97 (.fa 0 (.t 96)),oz 98 (.ld true 32 (.t 97)),oz 99 (.call Ez [(.t 92),(.t 98)]),mt 8 99] (sr [mt 100 8,oz 101 (.bin .geq (.t 100) (ki 0)),mt 102 101,⟨some 103,some (102,true), .fa 34 (.t 2)⟩,⟨some 104,some (102,true), .ld false 1 (.t 103)⟩,⟨some 105,some (102,true), .mv (.t 8)⟩,⟨some 106,some (102,true), .ias 86 (.t 104) (.t 105)⟩,⟨some 107,some (102,true), .fa 85 (.t 106)⟩,⟨some 108,some (102,true), .ld false 1 (.t 107)⟩,⟨some 109,some (102,true), .fa 34 (.t 3)⟩,⟨some 110,some (102,true), .ld false 1 (.t 109)⟩,⟨some 111,some (102,true), .mv (.t 7)⟩,⟨some 112,some (102,true), .ias 86 (.t 110) (.t 111)⟩,⟨some 113,some (102,true), .fa 85 (.t 112)⟩,⟨some 114,some (102,true), .ld false 1 (.t 113)⟩,⟨some 115,some (102,true), .call DG [(.t 108),(.t 114)]⟩,⟨some 116,some (102,true), .un .not (.t 115)⟩,oz 117 (.pick (.t 102) (.t 116) (.k (.b false)))] (.cond (.t 117) (.regd [oz 118 (.fa 38 (.t 5)),oz 119 (.ld false 1 (.t 118)),oz 120 (.fa 34 (.t 3)),oz 121 (.ld false 1 (.t 120)),mt 122 7,oz 123 (.ias 86 (.t 121) (.t 122)),oz 124 (.fa 0 (.t 123)),oz 125 (.ld true 32 (.t 124)),oz 126 (.bld Ae.zc [(0,32,(.t 125)),(33,1,(.k (.b true))),(88,1,(.k (.b true)))]),oz 127 (.bll 90 (List.replicate 1 Ae.zc) [(0,(.t 126))]),oz 128 (.app 47 90 152 (.t 119) (.t 127)),oz 129 (.fa 38 (.t 5)),on (.st 1 (.t 129) (.t 128))] [some (0,0),some (0,0),some (0,0),some (0,0),some (0,0),some (0,0),some (0,0),some (0,0),some (0,0),some (0,0),none,some (1,1),none])
  .skip)))) (rg false [mt 90 7,oz 91 (.bin .add (.t 90) (ki 1)),mt 7 91])))
noncomputable def NU:AC:=(.seq (sf [mt 130 9,oz 131 (.fa 34 (.t 3)),oz 132 (.ld false 1 (.t 131)),oz 133 (.len (.t 132)),oz 134 (.bin .lss (.t 130) (.t 133))] (.cond (.t 134) .skip (.exit 4))) (.seq (.blk 5 (sf [oz 137 (.fa 34 (.t 3)),oz 138 (.ld false 1 (.t 137)),mt 139 9,oz 140 (.ias 86 (.t 138) (.t 139)),oz 141 (.ld true 86 (.t 140)),oz 10 (.alloc 45 Ac.zc),on (.st 86 (.t 10) (.t 141))] (sf [oz 142 (.ld true 35 (.t 2)),oz 143 (.fa 0 (.t 10)),oz 144 (.ld true 32 (.t 143)),oz 145 (.call Ez [(.t 142),(.t 144)]),mt 11 145] (sf [oz 146 (.fa 0 (.t 10)),oz 147 (.ld true 32 (.t 146)),oz 148 (.bld Ae.zc [(0,32,(.t 147))]),oz 12 (.alloc 47 Ae.zc),on (.st 90 (.t 12) (.t 148))] (sf [oz 149 (.fa 0 (.t 10)),oz 150 (.ld true 32 (.t 149)),oz 151 (.bld Ac.zc [(0,32,(.t 150))]),oz 13 (.alloc 45 Ac.zc),on (.st 86 (.t 13) (.t 151))] (.seq (sf [mt 152 11,oz 153 (.bin .geq (.t 152) (ki 0))] (.cond (.t 153) (sf [oz 154 (.fa 34 (.t 2)),oz 155 (.ld false 1 (.t 154)),mt 156 11,oz 157 (.ias 86 (.t 155) (.t 156)),oz 158 (.ld true 86 (.t 157)),on (.st 86 (.t 13) (.t 158))] (rg false [oz 159 (.fa 33 (.t 12)),on (.st 1 (.t 159) (.k (.b true)))])) .skip)) (.seq (sf [mt 160 11,oz 161 (.bin .lss (.t 160) (ki 0)),mt 162 161,⟨some 163,some (162,false), .fa 32 (.t 13)⟩,⟨some 164,some (162,false), .ld true 32 (.t 163)⟩,⟨some 165,some (162,false), .fa 32 (.t 10)⟩,⟨some 166,some (162,false), .ld true 32 (.t 165)⟩,⟨some 167,some (162,false), .eq true (.agg (kk [(32, .i .u8)])) (.t 164) (.t 166)⟩,oz 168 (.pick (.t 162) (.k (.b true)) (.t 167))]
  (.cond (.t 168) (sf [oz 169 (.fa 34 (.t 12)),on (.st 1 (.t 169) (.k (.b true)))] (rg false [oz 170 (.fa 32 (.t 10)),oz 171 (.ld true 32 (.t 170)),oz 172 (.fa 35 (.t 12)),on (.st 32 (.t 172) (.t 171))])) .skip)) (.seq (sf [oz 173 (.fa 64 (.t 13)),oz 174 (.ld true 18 (.t 173)),oz 175 (.fa 64 (.t 10)),oz 176 (.ld true 18 (.t 175)),oz 177 (.eq true (.agg (kk [(1, .i .i64),(16, .i .u8),(1, .i .i64)])) (.t 174) (.t 176))] (.cond (.t 177) (sf [oz 178 (.fa 67 (.t 12)),on (.st 1 (.t 178) (.k (.b true)))] (rg false [oz 179 (.fa 64 (.t 10)),oz 180 (.ld true 18 (.t 179)),oz 181 (.fa 68 (.t 12)),on (.st 18 (.t 181) (.t 180))])) .skip)) (.seq (sf [mt 182 11,oz 183 (.bin .lss (.t 182) (ki 0)),mt 184 183,⟨some 185,some (184,false), .fa 82 (.t 13)⟩,⟨some 186,some (184,false), .ld false 1 (.t 185)⟩,⟨some 187,some (184,false), .fa 82 (.t 10)⟩,⟨some 188,some (184,false), .ld false 1 (.t 187)⟩,⟨some 189,some (184,false), .bin .neq (.t 186) (.t 188)⟩,oz 190 (.pick (.t 184) (.k (.b true)) (.t 189))] (.cond (.t 190) (sf [oz 191 (.fa 86 (.t 12)),on (.st 1 (.t 191) (.k (.b true)))] (rg false [oz 192 (.fa 82 (.t 10)),oz 193 (.ld false 1 (.t 192)),oz 194 (.fa 87 (.t 12)),on (.st 1 (.t 194) (.t 193))])) .skip)) (sf [oz 195 (.fa 85 (.t 13)),oz 196 (.ld false 1 (.t 195)),oz 197 (.fa 85 (.t 10)),oz 198 (.ld false 1 (.t 197)),oz 199 (.call DG [(.t 196),(.t 198)]),oz 200 (.un .not (.t 199)),mt 14 200] (.seq (sf [mt 201 14] (.cond (.t 201) (rg false [oz 202 (.fa 85 (.t 10)),oz 203 (.ld false 1 (.t 202)),oz 204 (.fa 89 (.t 12)),on (.st 1 (.t 204) (.t 203))])
  .skip)) (sf [mt 205 11,oz 206 (.bin .lss (.t 205) (ki 0)),mt 207 206,⟨some 208,some (207,false), .fa 34 (.t 12)⟩,⟨some 209,some (207,false), .ld false 1 (.t 208)⟩,oz 210 (.pick (.t 207) (.k (.b true)) (.t 209)),mt 211 210,⟨some 212,some (211,false), .fa 67 (.t 12)⟩,⟨some 213,some (211,false), .ld false 1 (.t 212)⟩,oz 214 (.pick (.t 211) (.k (.b true)) (.t 213)),mt 215 214,⟨some 216,some (215,false), .fa 86 (.t 12)⟩,⟨some 217,some (215,false), .ld false 1 (.t 216)⟩,oz 218 (.pick (.t 215) (.k (.b true)) (.t 217)),mt 219 218,⟨some 220,some (219,false), .mv (.t 14)⟩,oz 221 (.pick (.t 219) (.k (.b true)) (.t 220))] (.cond (.t 221) (rg false [oz 222 (.fa 38 (.t 5)),oz 223 (.ld false 1 (.t 222)),oz 224 (.ld true 90 (.t 12)),oz 225 (.bll 90 (List.replicate 1 Ae.zc) [(0,(.t 224))]),oz 226 (.app 47 90 152 (.t 223) (.t 225)),oz 227 (.fa 38 (.t 5)),on (.st 1 (.t 227) (.t 226))]) .skip))))))))))))) (rg false [mt 135 9,oz 136 (.bin .add (.t 135) (ki 1)),mt 9 136])))
noncomputable def Hj:EP:=⟨false,2,229,[.cell true 39 4],(sf [oz 2 (.box 27 35 (.t 0)),oz 3 (.box 27 35 (.t 1)),oz 4 (.alloc 32 Ab.zc)] (sf [oz 5 (.alloc 32 Ab.zc)] (.seq (sf [oz 15 (.ld true 35 (.t 2)),oz 16 (.call CS [(.t 15)]),oz 17 (.un .not (.t 16)),mt 18 17,⟨some 19,some (18,false), .ld true 35 (.t 3)⟩,⟨some 20,some (18,false), .call CS [(.t 19)]⟩,⟨some 21,some (18,false), .un .not (.t 20)⟩,oz 22 (.pick (.t 18) (.k (.b true)) (.t 21))] (.cond (.t 22) (sf [oz 23 (.ld true 39 (.t 5)),on (.st 39 (.t 4) (.t 23))] .ret) .skip)) (.seq (sf [oz 24 (.ld true 35 (.t 2)),oz 25 (.ld true 35 (.t 3)),oz 26 (.call DM [(.t 24),(.t 25)]),oz 27 (.un .not (.t 26))] (.cond (.t 27) (sf [oz 28 (.ld true 35 (.t 3)),oz 29 (.call D8 [(.t 28)]),on (.st 39 (.t 4) (.t 29))] .ret) .skip)) (.seq (sf [oz 30 (.fa 0 (.t 2)),oz 31 (.ld true 32 (.t 30)),oz 32 (.fa 0 (.t 3)),oz 33 (.ld true 32 (.t 32)),oz 34 (.eq true (.agg (kk [(32, .i .u8)])) (.t 31) (.t 33))] (.cond (.t 34) (sf [oz 35 (.fa 0 (.t 5)),on (.st 1 (.t 35) (.k (.b true)))] (rg false [oz 36 (.fa 0 (.t 3)),oz 37 (.ld true 32 (.t 36)),oz 38 (.fa 1 (.t 5)),on (.st 32 (.t 38) (.t 37))])) .skip)) (.seq (sf [oz 39 (.fa 32 (.t 2)),oz 40 (.ld false 1 (.t 39)),oz 41 (.fa 32 (.t 3)),oz 42 (.ld false 1 (.t 41)),oz 43 (.bin .neq (.t 40) (.t 42))] (.cond (.t 43) (sf [oz 44 (.fa 33 (.t 5)),on (.st 1 (.t 44) (.k (.b true)))] (rg false [oz 45 (.fa 32 (.t 3)),oz 46 (.ld false 1 (.t 45)),oz 47 (.fa 34 (.t 5)),on (.st 1 (.t 47) (.t 46))])) .skip)) (.seq (sf [oz 48 (.fa 33 (.t 2)),oz 49 (.ld false 1 (.t 48)),oz 50 (.fa 33 (.t 3)),oz 51 (.ld false 1 (.t 50)),oz 52 (.bin .neq (.t 49) (.t 51))]
 (.cond (.t 52) (sf [oz 53 (.fa 35 (.t 5)),on (.st 1 (.t 53) (.k (.b true)))] (rg false [oz 54 (.fa 33 (.t 3)),oz 55 (.ld false 1 (.t 54)),oz 56 (.fa 36 (.t 5)),on (.st 1 (.t 56) (.t 55))])) .skip)) (.seq (sf [oz 6 (.mv (ki 0))] (.blk 0 (.loop [2,3,4,5,6] NW))) (.seq (sf [oz 7 (.mv (ki 0))] (.blk 2 (.loop [2,3,4,5,7] NV))) (.seq (sf [oz 9 (.mv (ki 0))] (.blk 4 (.loop [2,3,4,5,9] NU))) (sf [oz 228 (.ld true 39 (.t 5)),on (.st 39 (.t 4) (.t 228))] .ret)))))))))))⟩
noncomputable def Fs:EP:=⟨false,1,27,[.tmp 2],(sf [oz 1 (.box 32 39 (.t 0)),oz 2 (.mv (.k (.b false)))] (sf [oz 3 (.fa 0 (.t 1)),oz 4 (.ld false 1 (.t 3)),oz 5 (.un .not (.t 4)),mt 6 5,⟨some 7,some (6,true), .fa 33 (.t 1)⟩,⟨some 8,some (6,true), .ld false 1 (.t 7)⟩,⟨some 9,some (6,true), .un .not (.t 8)⟩,oz 10 (.pick (.t 6) (.t 9) (.k (.b false))),mt 11 10,⟨some 12,some (11,true), .fa 35 (.t 1)⟩,⟨some 13,some (11,true), .ld false 1 (.t 12)⟩,⟨some 14,some (11,true), .un .not (.t 13)⟩,oz 15 (.pick (.t 11) (.t 14) (.k (.b false))),mt 16 15,⟨some 17,some (16,true), .fa 37 (.t 1)⟩,⟨some 18,some (16,true), .ld false 1 (.t 17)⟩,⟨some 19,some (16,true), .un .not (.t 18)⟩,oz 20 (.pick (.t 16) (.t 19) (.k (.b false))),mt 21 20,⟨some 22,some (21,true), .fa 38 (.t 1)⟩,⟨some 23,some (21,true), .ld false 1 (.t 22)⟩,⟨some 24,some (21,true), .len (.t 23)⟩,⟨some 25,some (21,true), .bin .eql (.t 24) (ki 0)⟩,oz 26 (.pick (.t 21) (.t 25) (.k (.b false))),mt 2 26] .ret))⟩
noncomputable def Hl:EP:=⟨false,1,27,[.tmp 2],(sf [oz 1 (.box 32 39 (.t 0)),oz 2 (.mv (.k (.b false)))] (sf [oz 3 (.fa 0 (.t 1)),oz 4 (.ld false 1 (.t 3)),oz 5 (.un .not (.t 4)),mt 6 5,⟨some 7,some (6,true), .fa 33 (.t 1)⟩,⟨some 8,some (6,true), .ld false 1 (.t 7)⟩,⟨some 9,some (6,true), .un .not (.t 8)⟩,oz 10 (.pick (.t 6) (.t 9) (.k (.b false))),mt 11 10,⟨some 12,some (11,true), .fa 35 (.t 1)⟩,⟨some 13,some (11,true), .ld false 1 (.t 12)⟩,⟨some 14,some (11,true), .un .not (.t 13)⟩,oz 15 (.pick (.t 11) (.t 14) (.k (.b false))),mt 16 15,⟨some 17,some (16,true), .fa 37 (.t 1)⟩,⟨some 18,some (16,true), .ld false 1 (.t 17)⟩,⟨some 19,some (16,true), .un .not (.t 18)⟩,oz 20 (.pick (.t 16) (.t 19) (.k (.b false))),mt 21 20,⟨some 22,some (21,true), .fa 38 (.t 1)⟩,⟨some 23,some (21,true), .ld false 1 (.t 22)⟩,⟨some 24,some (21,true), .len (.t 23)⟩,⟨some 25,some (21,true), .bin .eql (.t 24) (ki 0)⟩,oz 26 (.pick (.t 21) (.t 25) (.k (.b false))),mt 2 26] .ret))⟩
noncomputable def Oc:AC:=(.seq (sf [mt 54 6,mt 55 4,oz 56 (.bin .lss (.t 54) (.t 55))] (.cond (.t 56) .skip (.exit 2))) (.seq (.blk 3 (sr [oz 59 (.fa 34 (.t 1)),oz 60 (.ld false 1 (.t 59)),mt 61 6,oz 62 (.ias 86 (.t 60) (.t 61)),oz 63 (.fa 0 (.t 62)),oz 64 (.ld true 32 (.t 63)),oz 65 (.fa 0 (.t 5)),oz 66 (.ld true 32 (.t 65)),oz 67 (.eq false (.agg (kk [(32, .i .u8)])) (.t 64) (.t 66))] (.cond (.t 67) (sf [oz 2 (.mv (.k (.b false)))] .ret) .skip))) (rg false [mt 57 6,oz 58 (.bin .add (.t 57) (ki 1)),mt 6 58])))
noncomputable def Oa:AC:=(.seq (sf [mt 98 9,mt 99 3,oz 100 (.len (.t 99)),oz 101 (.bin .lss (.t 98) (.t 100))] (.cond (.t 101) .skip (.exit 6))) (.seq (.blk 7 (sr [mt 104 3,mt 105 9,oz 106 (.ias 18 (.t 104) (.t 105)),oz 107 (.ld true 18 (.t 106)),oz 108 (.ld true 18 (.t 8)),oz 109 (.eq false (.agg (kk [(1, .i .i64),(16, .i .u8),(1, .i .i64)])) (.t 107) (.t 108))] (.cond (.t 109) (sf [oz 2 (.mv (.k (.b false)))] .ret) .skip))) (rg false [mt 102 9,oz 103 (.bin .add (.t 102) (ki 1)),mt 9 103])))
noncomputable def NZ:AC:=(.seq (sf [mt 68 7,oz 69 (.fa 85 (.t 5)),oz 70 (.ld false 1 (.t 69)),oz 71 (.len (.t 70)),oz 72 (.bin .lss (.t 68) (.t 71))] (.cond (.t 72) .skip (.exit 4))) (.seq (.blk 5 (sf [oz 75 (.fa 85 (.t 5)),oz 76 (.ld false 1 (.t 75)),mt 77 7,oz 78 (.ias 18 (.t 76) (.t 77)),oz 79 (.ld true 18 (.t 78)),oz 8 (.alloc 57 An.zc),on (.st 18 (.t 8) (.t 79))] (.seq (sr [oz 80 (.ld true 18 (.t 8)),oz 81 (.call E1 [(.t 80)]),oz 82 (.un .not (.t 81)),mt 83 82,⟨some 84,some (83,false), .mv (.t 7)⟩,⟨some 85,some (83,false), .bin .gtr (.t 84) (ki 0)⟩,⟨some 86,some (83,false), .mv (.t 85)⟩,⟨some 87,some (86,true), .fa 85 (.t 5)⟩,⟨some 88,some (86,true), .ld false 1 (.t 87)⟩,⟨some 89,some (86,true), .mv (.t 7)⟩,⟨some 90,some (86,true), .bin .sub (.t 89) (ki 1)⟩,⟨some 91,some (86,true), .ias 18 (.t 88) (.t 90)⟩,⟨some 92,some (86,true), .ld true 18 (.t 91)⟩,⟨some 93,some (86,true), .ld true 18 (.t 8)⟩,⟨some 94,some (86,true), .call EV [(.t 92),(.t 93)]⟩,⟨some 95,some (86,true), .un .not (.t 94)⟩,⟨some 96,some (83,false), .pick (.t 86) (.t 95) (.k (.b false))⟩,oz 97 (.pick (.t 83) (.k (.b true)) (.t 96))] (.cond (.t 97) (sf [oz 2 (.mv (.k (.b false)))] .ret) .skip)) (.seq (sf [oz 9 (.mv (ki 0))] (.blk 6 (.loop [1,3,4,5,7,8,9] Oa))) (rg false [mt 110 3,oz 111 (.ld true 18 (.t 8)),oz 112 (.bll 18 (List.replicate 1 An.zc) [(0,(.t 111))]),oz 113 (.app 57 18 32 (.t 110) (.t 112)),mt 3 113]))))) (rg false [mt 73 7,oz 74 (.bin .add (.t 73) (ki 1)),mt 7 74])))
noncomputable def NY:AC:=(.seq (sf [mt 20 4,oz 21 (.fa 34 (.t 1)),oz 22 (.ld false 1 (.t 21)),oz 23 (.len (.t 22)),oz 24 (.bin .lss (.t 20) (.t 23))] (.cond (.t 24) .skip (.exit 0))) (.seq (.blk 1 (sf [oz 27 (.fa 34 (.t 1)),oz 28 (.ld false 1 (.t 27)),mt 29 4,oz 30 (.ias 86 (.t 28) (.t 29)),oz 31 (.ld true 86 (.t 30)),oz 5 (.alloc 45 Ac.zc),on (.st 86 (.t 5) (.t 31))] (.seq (sf [oz 32 (.fa 0 (.t 5)),oz 33 (.ld true 32 (.t 32)),oz 34 (.bld (A1 32 T.u8).zc []),oz 35 (.eq false (.agg (kk [(32, .i .u8)])) (.t 33) (.t 34)),mt 36 35,⟨some 37,some (36,false), .fa 82 (.t 5)⟩,⟨some 38,some (36,false), .ld false 1 (.t 37)⟩,⟨some 39,some (36,false), .call Er [(.t 38)]⟩,⟨some 40,some (36,false), .un .not (.t 39)⟩,oz 41 (.pick (.t 36) (.k (.b true)) (.t 40)),mt 42 41,⟨some 43,some (42,false), .fa 64 (.t 5)⟩,⟨some 44,some (42,false), .ld true 18 (.t 43)⟩,⟨some 45,some (42,false), .bld Az.zc []⟩,⟨some 46,some (42,false), .eq true (.agg (kk [(1, .i .i64),(16, .i .u8),(1, .i .i64)])) (.t 44) (.t 45)⟩,⟨some 47,some (42,false), .mv (.t 46)⟩,⟨some 48,some (47,true), .fa 64 (.t 5)⟩,⟨some 49,some (47,true), .ld true 18 (.t 48)⟩,⟨some 50,some (47,true), .call E0 [(.t 49)]⟩,⟨some 51,some (47,true), .un .not (.t 50)⟩,⟨some 52,some (42,false), .pick (.t 47) (.t 51) (.k (.b false))⟩,oz 53 (.pick (.t 42) (.k (.b true)) (.t 52))] (.cond (.t 53) (sf [oz 2 (.mv (.k (.b false)))] .ret) .skip)) (.seq (sf [oz 6 (.mv (ki 0))] (.blk 2 (.loop [1,3,4,5,6] Oc))) (sf [oz 7 (.mv (ki 0))] (.blk 4 (.loop [1,3,4,5,7] NZ)))))))
 (rg false [mt 25 4,oz 26 (.bin .add (.t 25) (ki 1)),mt 4 26])))
noncomputable def Hm:EP:=⟨false,1,117,[.tmp 2],(sf [oz 1 (.box 27 35 (.t 0)),oz 2 (.mv (.k (.b false)))] (.seq (sf [oz 10 (.fa 32 (.t 1)),oz 11 (.ld false 1 (.t 10)),oz 12 (.call Er [(.t 11)]),oz 13 (.un .not (.t 12)),mt 14 13,⟨some 15,some (14,false), .fa 34 (.t 1)⟩,⟨some 16,some (14,false), .ld false 1 (.t 15)⟩,⟨some 17,some (14,false), .len (.t 16)⟩,⟨some 18,some (14,false), .bin .gtr (.t 17) (ki 16)⟩,oz 19 (.pick (.t 14) (.k (.b true)) (.t 18))] (.cond (.t 19) (sf [oz 2 (.mv (.k (.b false)))] .ret) .skip)) (sf [oz 3 (.mv (.k (.nils)))] (.seq (sf [oz 4 (.mv (ki 0))] (.blk 0 (.loop [1,3,4] NY))) (sf [mt 114 3,oz 115 (.len (.t 114)),oz 116 (.bin .leq (.t 115) (ki 64)),mt 2 116] .ret)))))⟩
noncomputable def Lj:AC:=(sf [oz 23 (.bin .lss (.t 22) (.t 21))] (.seq (.cond (.t 23) .skip (.exit 0)) (.seq (.blk 1 (sf [mt 24 22,oz 25 (.ias 86 (.t 20) (.t 22)),oz 26 (.ld true 86 (.t 25)),oz 8 (.alloc 45 Ac.zc),mt 7 24,on (.st 86 (.t 8) (.t 26))] (sr [oz 27 (.fa 34 (.t 3)),oz 28 (.ld false 1 (.t 27)),mt 29 7,oz 30 (.ias 86 (.t 28) (.t 29)),oz 31 (.fa 0 (.t 30)),oz 32 (.ld true 32 (.t 31)),oz 33 (.fa 0 (.t 8)),oz 34 (.ld true 32 (.t 33)),oz 35 (.eq true (.agg (kk [(32, .i .u8)])) (.t 32) (.t 34)),mt 36 35,⟨some 37,some (36,false), .fa 64 (.t 8)⟩,⟨some 38,some (36,false), .ld true 18 (.t 37)⟩,⟨some 39,some (36,false), .call BY [(.t 38)]⟩,⟨some 40,some (36,false), .un .not (.t 39)⟩,⟨some 41,some (36,false), .mv (.t 40)⟩,⟨some 42,some (41,true), .fa 34 (.t 3)⟩,⟨some 43,some (41,true), .ld false 1 (.t 42)⟩,⟨some 44,some (41,true), .mv (.t 7)⟩,⟨some 45,some (41,true), .ias 86 (.t 43) (.t 44)⟩,⟨some 46,some (41,true), .fa 64 (.t 45)⟩,⟨some 47,some (41,true), .ld true 18 (.t 46)⟩,⟨some 48,some (41,true), .call BY [(.t 47)]⟩,⟨some 49,some (36,false), .pick (.t 41) (.t 48) (.k (.b false))⟩,oz 50 (.pick (.t 36) (.k (.b true)) (.t 49))] (.cond (.t 50) (sf [oz 4 (.mv (.k (.b false)))] .ret) .skip)))) (rg false [oz 51 (.bin .add (.t 22) (ki 1)),mt 22 51]))))
noncomputable def Fq:EP:=⟨false,2,52,[.tmp 4],(sf [oz 2 (.box 27 35 (.t 0)),oz 3 (.box 27 35 (.t 1)),oz 4 (.mv (.k (.b false)))] (sf [oz 9 (.ld true 35 (.t 3)),oz 10 (.call CH [(.t 9)]),mt 5 10] (sf [oz 11 (.ld true 35 (.t 2)),mt 12 5,oz 13 (.call CZ [(.t 11),(.t 12)]),mt 6 13] (.seq (sf [mt 14 6,oz 15 (.len (.t 14)),oz 16 (.fa 34 (.t 3)),oz 17 (.ld false 1 (.t 16)),oz 18 (.len (.t 17)),oz 19 (.bin .gtr (.t 15) (.t 18))] (.cond (.t 19) (sf [oz 4 (.mv (.k (.b false)))] .ret) .skip)) (.seq (sf [mt 20 6,oz 21 (.len (.t 20)),oz 22 (.mv (ki 0))] (.blk 0 (.loop [3,20,21,22] Lj))) (sf [oz 4 (.mv (.k (.b true)))] .ret))))))⟩
noncomputable def NX:AC:=(.seq (sf [mt 8 6,oz 9 (.fa 34 (.t 2)),oz 10 (.ld false 1 (.t 9)),oz 11 (.len (.t 10)),oz 12 (.bin .lss (.t 8) (.t 11))] (.cond (.t 12) .skip (.exit 0))) (.seq (.blk 1 (sr [oz 15 (.ld true 35 (.t 3)),oz 16 (.fa 34 (.t 2)),oz 17 (.ld false 1 (.t 16)),mt 18 6,oz 19 (.ias 86 (.t 17) (.t 18)),oz 20 (.fa 0 (.t 19)),oz 21 (.ld true 32 (.t 20)),oz 22 (.call Ez [(.t 15),(.t 21)]),mt 7 22] (.seq (sf [mt 23 7,oz 24 (.bin .lss (.t 23) (ki 0))] (.cond (.t 24) (.exit 1) .skip)) (.seq (sf [mt 25 7,mt 26 5,oz 27 (.bin .neq (.t 25) (.t 26)),mt 28 27,⟨some 29,some (28,false), .fa 34 (.t 2)⟩,⟨some 30,some (28,false), .ld false 1 (.t 29)⟩,⟨some 31,some (28,false), .mv (.t 6)⟩,⟨some 32,some (28,false), .ias 86 (.t 30) (.t 31)⟩,⟨some 33,some (28,false), .fa 64 (.t 32)⟩,⟨some 34,some (28,false), .ld true 18 (.t 33)⟩,⟨some 35,some (28,false), .bld Az.zc []⟩,⟨some 36,some (28,false), .eq true (.agg (kk [(1, .i .i64),(16, .i .u8),(1, .i .i64)])) (.t 34) (.t 35)⟩,⟨some 37,some (28,false), .mv (.t 36)⟩,⟨some 38,some (37,true), .fa 34 (.t 3)⟩,⟨some 39,some (37,true), .ld false 1 (.t 38)⟩,⟨some 40,some (37,true), .mv (.t 7)⟩,⟨some 41,some (37,true), .ias 86 (.t 39) (.t 40)⟩,⟨some 42,some (37,true), .fa 64 (.t 41)⟩,⟨some 43,some (37,true), .ld true 18 (.t 42)⟩,⟨some 44,some (37,true), .bld Az.zc []⟩,⟨some 45,some (37,true), .eq false (.agg (kk [(1, .i .i64),(16, .i .u8),(1, .i .i64)])) (.t 43) (.t 44)⟩,⟨some 46,some (28,false), .pick (.t 37) (.t 45) (.k (.b false))⟩,oz 47 (.pick (.t 28) (.k (.b true)) (.t 46))]
  (.cond (.t 47) (sf [oz 4 (.mv (.k (.b false)))] .ret) .skip)) (rg false [mt 48 5,oz 49 (.bin .add (.t 48) (ki 1)),mt 5 49]))))) (rg false [mt 13 6,oz 14 (.bin .add (.t 13) (ki 1)),mt 6 14])))
noncomputable def Hk:EP:=⟨false,2,50,[.tmp 4],(sf [oz 2 (.box 27 35 (.t 0)),oz 3 (.box 27 35 (.t 1)),oz 4 (.mv (.k (.b false)))] (sf [oz 5 (.mv (ki 0))] (.seq (sf [oz 6 (.mv (ki 0))] (.blk 0 (.loop [2,3,5,6] NX))) (sf [oz 4 (.mv (.k (.b true)))] .ret))))⟩
noncomputable def ME:AC:=(sf [oz 63 (.bin .lss (.t 62) (.t 61))] (.seq (.cond (.t 63) .skip (.exit 2)) (.seq (.blk 3 (sf [oz 64 (.ias 18 (.t 60) (.t 62)),oz 65 (.ld true 18 (.t 64)),oz 8 (.alloc 57 An.zc),on (.st 18 (.t 8) (.t 65))] (.seq (sf [mt 66 4,oz 67 (.ld true 18 (.t 8)),oz 68 (.lkp (.agg (kk [(1, .i .i64),(16, .i .u8),(1, .i .i64)])) (.b false) false (.t 66) (.t 67))] (.cond (.t 68) (sf [oz 2 (.mv (.k (.b false)))] .ret) .skip)) (rg false [mt 69 4,oz 70 (.ld true 18 (.t 8)),on (.mup (.agg (kk [(1, .i .i64),(16, .i .u8),(1, .i .i64)])) (.t 69) (.t 70) (.k (.b true)))])))) (rg false [oz 71 (.bin .add (.t 62) (ki 1)),mt 62 71]))))
noncomputable def MD:AC:=(sf [oz 27 (.bin .lss (.t 26) (.t 25))] (.seq (.cond (.t 27) .skip (.exit 0)) (.seq (.blk 1 (sf [oz 28 (.ias 86 (.t 24) (.t 26)),oz 29 (.ld true 86 (.t 28)),oz 6 (.alloc 45 Ac.zc),on (.st 86 (.t 6) (.t 29))] (.seq (sf [mt 30 3,oz 31 (.fa 0 (.t 6)),oz 32 (.ld true 32 (.t 31)),oz 33 (.lkp (.agg (kk [(32, .i .u8)])) (.b false) false (.t 30) (.t 32)),mt 34 33,⟨some 35,some (34,false), .fa 82 (.t 6)⟩,⟨some 36,some (34,false), .ld false 1 (.t 35)⟩,⟨some 37,some (34,false), .call Dt [(.t 36)]⟩,⟨some 38,some (34,false), .un .not (.t 37)⟩,oz 39 (.pick (.t 34) (.k (.b true)) (.t 38)),mt 40 39,⟨some 41,some (40,false), .fa 85 (.t 6)⟩,⟨some 42,some (40,false), .ld false 1 (.t 41)⟩,⟨some 43,some (40,false), .call D7 [(.t 42)]⟩,⟨some 44,some (40,false), .un .not (.t 43)⟩,oz 45 (.pick (.t 40) (.k (.b true)) (.t 44))] (.cond (.t 45) (sf [oz 2 (.mv (.k (.b false)))] .ret) .skip)) (.seq (sf [oz 46 (.fa 64 (.t 6)),oz 47 (.ld true 18 (.t 46)),oz 48 (.call BY [(.t 47)]),oz 49 (.un .not (.t 48)),mt 50 49,⟨some 51,some (50,true), .fa 64 (.t 6)⟩,⟨some 52,some (50,true), .ld true 18 (.t 51)⟩,⟨some 53,some (50,true), .call CG [(.t 52)]⟩,⟨some 54,some (50,true), .un .not (.t 53)⟩,oz 55 (.pick (.t 50) (.t 54) (.k (.b false)))] (.cond (.t 55) (sf [oz 2 (.mv (.k (.b false)))] .ret) .skip)) (sf [mt 56 3,oz 57 (.fa 0 (.t 6)),oz 58 (.ld true 32 (.t 57)),on (.mup (.agg (kk [(32, .i .u8)])) (.t 56) (.t 58) (.k (.b true)))] (sf [oz 59 (.fa 85 (.t 6)),oz 60 (.ld false 1 (.t 59)),oz 61 (.len (.t 60)),oz 62 (.mv (ki 0))]
  (.blk 2 (.loop [3,4,24,25,26,60,61,62] ME)))))))) (rg false [oz 72 (.bin .add (.t 26) (ki 1)),mt 26 72]))))
noncomputable def Gw:EP:=⟨false,1,76,[.tmp 2],(sf [oz 1 (.box 27 35 (.t 0)),oz 2 (.mv (.k (.b false)))] (.seq (sf [oz 9 (.fa 32 (.t 1)),oz 10 (.ld false 1 (.t 9)),oz 11 (.call Dt [(.t 10)]),oz 12 (.un .not (.t 11)),mt 13 12,⟨some 14,some (13,false), .fa 34 (.t 1)⟩,⟨some 15,some (13,false), .ld false 1 (.t 14)⟩,⟨some 16,some (13,false), .len (.t 15)⟩,⟨some 17,some (13,false), .bin .gtr (.t 16) (ki 16)⟩,oz 18 (.pick (.t 13) (.k (.b true)) (.t 17))] (.cond (.t 18) (sf [oz 2 (.mv (.k (.b false)))] .ret) .skip)) (sf [oz 19 (.mkm),oz 20 (.bld (A1 32 T.u8).zc []),on (.mup (.agg (kk [(32, .i .u8)])) (.t 19) (.t 20) (.k (.b true))),mt 21 19,oz 22 (.mkm),mt 3 21,mt 4 22] (.seq (sf [oz 23 (.fa 34 (.t 1)),oz 24 (.ld false 1 (.t 23)),oz 25 (.len (.t 24)),oz 26 (.mv (ki 0))] (.blk 0 (.loop [3,4,24,25,26] MD))) (sf [mt 73 4,oz 74 (.lenm (.t 73)),oz 75 (.bin .leq (.t 74) (ki 64)),mt 2 75] .ret)))))⟩
noncomputable def Ld:AC:=(sf [oz 18 (.bin .lss (.t 17) (.t 16))] (.seq (.cond (.t 18) .skip (.exit 0)) (.seq (.blk 1 (sf [oz 19 (.ias 86 (.t 15) (.t 17)),oz 20 (.ld true 86 (.t 19)),oz 5 (.alloc 45 Ac.zc),on (.st 86 (.t 5) (.t 20))] (sf [oz 21 (.fa 0 (.t 5)),oz 22 (.ld true 32 (.t 21)),oz 23 (.fa 32 (.t 5)),oz 24 (.ld true 32 (.t 23)),oz 25 (.fa 82 (.t 5)),oz 26 (.ld false 1 (.t 25)),oz 27 (.bld Ae.zc [(0,32,(.t 22)),(34,1,(.k (.b true))),(35,32,(.t 24)),(86,1,(.k (.b true))),(87,1,(.t 26)),(88,1,(.k (.b true)))]),oz 6 (.alloc 47 Ae.zc),on (.st 90 (.t 6) (.t 27))] (.seq (.regd [oz 28 (.fa 64 (.t 5)),oz 29 (.ld true 18 (.t 28)),oz 30 (.call BY [(.t 29)]),oz 31 (.un .not (.t 30)),oz 32 (.fa 64 (.t 5)),oz 33 (.ld true 18 (.t 32)),oz 34 (.fa 85 (.t 5)),oz 35 (.ld false 1 (.t 34)),oz 36 (.call Bv [(.t 35)]),oz 37 (.fa 67 (.t 6)),on (.st 1 (.t 37) (.t 31)),oz 38 (.fa 68 (.t 6)),on (.st 18 (.t 38) (.t 33)),oz 39 (.fa 89 (.t 6)),on (.st 1 (.t 39) (.t 36))] [some (0,0),some (0,0),some (0,0),some (0,0),some (0,1),some (0,1),some (0,0),some (0,0),some (0,0),some (0,0),none,some (1,1),none,some (2,2),none]) (rg false [oz 40 (.fa 38 (.t 3)),oz 41 (.ld false 1 (.t 40)),oz 42 (.ld true 90 (.t 6)),oz 43 (.bll 90 (List.replicate 1 Ae.zc) [(0,(.t 42))]),oz 44 (.app 47 90 152 (.t 41) (.t 43)),oz 45 (.fa 38 (.t 3)),on (.st 1 (.t 45) (.t 44))]))))) (rg false [oz 46 (.bin .add (.t 17) (ki 1)),mt 17 46]))))
noncomputable def Fk:EP:=⟨false,1,48,[.cell true 39 2],(sf [oz 1 (.box 27 35 (.t 0)),oz 2 (.alloc 32 Ab.zc)] (sf [oz 7 (.fa 0 (.t 1)),oz 8 (.ld true 32 (.t 7)),oz 9 (.fa 32 (.t 1)),oz 10 (.ld false 1 (.t 9)),oz 11 (.fa 33 (.t 1)),oz 12 (.ld false 1 (.t 11)),oz 13 (.bld Ab.zc [(0,1,(.k (.b true))),(1,32,(.t 8)),(33,1,(.k (.b true))),(34,1,(.t 10)),(35,1,(.k (.b true))),(36,1,(.t 12)),(37,1,(.k (.b true)))]),oz 3 (.alloc 32 Ab.zc),on (.st 39 (.t 3) (.t 13))] (.seq (sf [oz 14 (.fa 34 (.t 1)),oz 15 (.ld false 1 (.t 14)),oz 16 (.len (.t 15)),oz 17 (.mv (ki 0))] (.blk 0 (.loop [2,3,15,16,17] Ld))) (sf [oz 47 (.ld true 39 (.t 3)),on (.st 39 (.t 2) (.t 47))] .ret))))⟩
noncomputable def Gb:EP:=⟨true,3,45,[],(sf [oz 4 (.box 27 35 (.t 1)),oz 5 (.box 27 35 (.t 2))] (.seq (sf [oz 6 (.fa 0 (.t 4)),oz 7 (.ld true 32 (.t 6)),oz 8 (.fa 0 (.t 5)),oz 9 (.ld true 32 (.t 8)),oz 10 (.eq true (.agg (kk [(32, .i .u8)])) (.t 7) (.t 9))] (.cond (.t 10) (.regd [mt 11 0,mt 12 0,oz 13 (.fa 0 (.t 5)),oz 14 (.ld true 32 (.t 13)),oz 15 (.nilc (.t 11)),oz 16 (.fa 0 (.t 15)),on (.st 1 (.t 16) (.k (.b true))),oz 17 (.nilc (.t 12)),oz 18 (.fa 1 (.t 17)),on (.st 32 (.t 18) (.t 14))] [some (0,0),some (0,1),some (0,1),some (0,1),some (0,0),some (0,0),none,some (1,1),some (1,1),none]) .skip)) (.seq (sf [oz 19 (.fa 32 (.t 4)),oz 20 (.ld false 1 (.t 19)),oz 21 (.fa 32 (.t 5)),oz 22 (.ld false 1 (.t 21)),oz 23 (.bin .neq (.t 20) (.t 22))] (.cond (.t 23) (.regd [mt 24 0,mt 25 0,oz 26 (.fa 32 (.t 5)),oz 27 (.ld false 1 (.t 26)),oz 28 (.nilc (.t 24)),oz 29 (.fa 33 (.t 28)),on (.st 1 (.t 29) (.k (.b true))),oz 30 (.nilc (.t 25)),oz 31 (.fa 34 (.t 30)),on (.st 1 (.t 31) (.t 27))] [some (0,0),some (0,1),some (0,1),some (0,1),some (0,0),some (0,0),none,some (1,1),some (1,1),none]) .skip)) (sf [oz 32 (.fa 33 (.t 4)),oz 33 (.ld false 1 (.t 32)),oz 34 (.fa 33 (.t 5)),oz 35 (.ld false 1 (.t 34)),oz 36 (.bin .neq (.t 33) (.t 35))] (.cond (.t 36) (.regd [mt 37 0,mt 38 0,oz 39 (.fa 33 (.t 5)),oz 40 (.ld false 1 (.t 39)),oz 41 (.nilc (.t 37)),oz 42 (.fa 35 (.t 41)),on (.st 1 (.t 42) (.k (.b true))),oz 43 (.nilc (.t 38)),oz 44 (.fa 36 (.t 43)),on (.st 1 (.t 44) (.t 40))] [some (0,0),some (0,1),some (0,1),some (0,1),some (0,0),some (0,0),none,some (1,1),some (1,1),none])
  .skip)))))⟩
noncomputable def Lf:AC:=(sf [oz 11 (.bin .lss (.t 10) (.t 9))] (.seq (.cond (.t 11) .skip (.exit 0)) (.seq (.blk 1 (sf [oz 12 (.ias 86 (.t 8) (.t 10)),oz 13 (.ld true 86 (.t 12)),oz 5 (.alloc 45 Ac.zc),on (.st 86 (.t 5) (.t 13))] (rg false [mt 14 3,oz 15 (.fa 0 (.t 5)),oz 16 (.ld true 32 (.t 15)),oz 17 (.ld true 86 (.t 5)),on (.mup (.agg (kk [(32, .i .u8)])) (.t 14) (.t 16) (.t 17))]))) (rg false [oz 18 (.bin .add (.t 10) (ki 1)),mt 10 18]))))
noncomputable def GN:EP:=⟨true,1,20,[.tmp 2],(sf [oz 1 (.box 27 35 (.t 0)),oz 2 (.mv (.k (.nilm)))] (sf [oz 6 (.mkm),mt 3 6] (.seq (sf [oz 7 (.fa 34 (.t 1)),oz 8 (.ld false 1 (.t 7)),oz 9 (.len (.t 8)),oz 10 (.mv (ki 0))] (.blk 0 (.loop [3,8,9,10] Lf))) (sf [mt 19 3,mt 2 19] .ret))))⟩
noncomputable def Ga:EP:=⟨true,2,10,[.tmp 4],(sf [oz 2 (.box 27 35 (.t 0)),oz 3 (.box 51 1 (.t 1)),oz 4 (.mv (.k (.nils)))] (sf [oz 5 (.fa 34 (.t 2)),oz 6 (.ld false 1 (.t 5)),oz 7 (.call Cl [(.t 6)]),oz 8 (.mkf (.func Bp) [] [(.t 3)]),oz 9 (.call BF [(.t 7),(.t 8)]),mt 4 9] .ret))⟩
noncomputable def FZ:AC:=(sf [oz 14 (.bin .lss (.t 13) (.t 12))] (.seq (.cond (.t 14) .skip (.exit 0)) (.seq (.blk 1 (sf [mt 15 13,mt 5 15] (sr [mt 16 0,mt 17 5,oz 18 (.ias 18 (.t 16) (.t 17)),oz 19 (.ld true 18 (.t 18)),mt 20 1,mt 21 5,oz 22 (.ias 18 (.t 20) (.t 21)),oz 23 (.ld true 18 (.t 22)),oz 24 (.eq true (.agg (kk [(1, .i .i64),(16, .i .u8),(1, .i .i64)])) (.t 19) (.t 23))] (.cond (.t 24) (sf [oz 4 (.mv (.k (.b false)))] .ret) .skip)))) (rg false [oz 25 (.bin .add (.t 13) (ki 1)),mt 13 25]))))
noncomputable def C6:EP:=⟨false,2,26,[.tmp 4],(sf [oz 4 (.mv (.k (.b false)))] (.seq (sf [mt 6 0,oz 7 (.len (.t 6)),mt 8 1,oz 9 (.len (.t 8)),oz 10 (.bin .neq (.t 7) (.t 9))] (.cond (.t 10) (sf [oz 4 (.mv (.k (.b false)))] .ret) .skip)) (.seq (sf [mt 11 0,oz 12 (.len (.t 11)),oz 13 (.mv (ki 0))] (.blk 0 (.loop [0,1,12,13] FZ))) (sf [oz 4 (.mv (.k (.b true)))] .ret))))⟩
noncomputable def EH:EP:=⟨false,3,76,[.cell true 90 6, .tmp 7],(sf [oz 3 (.box 45 86 (.t 0)),oz 4 (.box 45 86 (.t 1)),oz 6 (.alloc 47 Ae.zc),oz 7 (.mv (.k (.b false)))] (sf [oz 10 (.fa 0 (.t 4)),oz 11 (.ld true 32 (.t 10)),mt 12 2,oz 13 (.un .not (.t 12)),oz 14 (.bld Ae.zc [(0,32,(.t 11)),(33,1,(.t 13))]),oz 8 (.alloc 47 Ae.zc),on (.st 90 (.t 8) (.t 14))] (.seq (sf [mt 15 2,mt 16 15,⟨some 17,some (16,false), .fa 32 (.t 3)⟩,⟨some 18,some (16,false), .ld true 32 (.t 17)⟩,⟨some 19,some (16,false), .fa 32 (.t 4)⟩,⟨some 20,some (16,false), .ld true 32 (.t 19)⟩,⟨some 21,some (16,false), .eq true (.agg (kk [(32, .i .u8)])) (.t 18) (.t 20)⟩,oz 22 (.pick (.t 16) (.k (.b true)) (.t 21))] (.cond (.t 22) (.regd [oz 23 (.fa 32 (.t 4)),oz 24 (.ld true 32 (.t 23)),oz 25 (.fa 34 (.t 8)),on (.st 1 (.t 25) (.k (.b true))),oz 26 (.fa 35 (.t 8)),on (.st 32 (.t 26) (.t 24))] [some (0,1),some (0,1),some (0,0),none,some (1,1),none]) .skip)) (.seq (sf [oz 27 (.fa 64 (.t 3)),oz 28 (.ld true 18 (.t 27)),oz 29 (.fa 64 (.t 4)),oz 30 (.ld true 18 (.t 29)),oz 31 (.eq true (.agg (kk [(1, .i .i64),(16, .i .u8),(1, .i .i64)])) (.t 28) (.t 30))] (.cond (.t 31) (.regd [oz 32 (.fa 64 (.t 4)),oz 33 (.ld true 18 (.t 32)),oz 34 (.fa 67 (.t 8)),on (.st 1 (.t 34) (.k (.b true))),oz 35 (.fa 68 (.t 8)),on (.st 18 (.t 35) (.t 33))] [some (0,1),some (0,1),some (0,0),none,some (1,1),none]) .skip)) (.seq (sf [mt 36 2,mt 37 36,⟨some 38,some (37,false), .fa 82 (.t 3)⟩,⟨some 39,some (37,false), .ld false 1 (.t 38)⟩,⟨some 40,some (37,false), .fa 82 (.t 4)⟩,⟨some 41,some (37,false), .ld false 1 (.t 40)⟩,⟨some 42,some (37,false), .bin .neq (.t 39) (.t 41)⟩,oz 43 (.pick (.t 37) (.k (.b true)) (.t 42))]
 (.cond (.t 43) (.regd [oz 44 (.fa 82 (.t 4)),oz 45 (.ld false 1 (.t 44)),oz 46 (.fa 86 (.t 8)),on (.st 1 (.t 46) (.k (.b true))),oz 47 (.fa 87 (.t 8)),on (.st 1 (.t 47) (.t 45))] [some (0,1),some (0,1),some (0,0),none,some (1,1),none]) .skip)) (sf [oz 48 (.fa 85 (.t 3)),oz 49 (.ld false 1 (.t 48)),oz 50 (.fa 85 (.t 4)),oz 51 (.ld false 1 (.t 50)),oz 52 (.call Bu [(.t 49),(.t 51)]),oz 53 (.un .not (.t 52)),mt 9 53] (.seq (sf [mt 54 9] (.cond (.t 54) (rg false [oz 55 (.fa 85 (.t 4)),oz 56 (.ld false 1 (.t 55)),oz 57 (.call Bv [(.t 56)]),oz 58 (.fa 89 (.t 8)),on (.st 1 (.t 58) (.t 57))]) .skip)) (sf [oz 59 (.ld true 90 (.t 8)),mt 60 2,mt 61 60,⟨some 62,some (61,false), .fa 34 (.t 8)⟩,⟨some 63,some (61,false), .ld false 1 (.t 62)⟩,oz 64 (.pick (.t 61) (.k (.b true)) (.t 63)),mt 65 64,⟨some 66,some (65,false), .fa 67 (.t 8)⟩,⟨some 67,some (65,false), .ld false 1 (.t 66)⟩,oz 68 (.pick (.t 65) (.k (.b true)) (.t 67)),mt 69 68,⟨some 70,some (69,false), .fa 86 (.t 8)⟩,⟨some 71,some (69,false), .ld false 1 (.t 70)⟩,oz 72 (.pick (.t 69) (.k (.b true)) (.t 71)),mt 73 72,⟨some 74,some (73,false), .mv (.t 9)⟩,oz 75 (.pick (.t 73) (.k (.b true)) (.t 74)),on (.st 90 (.t 6) (.t 59)),mt 7 75] .ret))))))))⟩
noncomputable def Fl:EP:=⟨false,2,80,[.tmp 4],(sf [oz 2 (.box 47 90 (.t 0)),oz 3 (.box 47 90 (.t 1)),oz 4 (.mv (.k (.b false)))] (sf [oz 5 (.fa 0 (.t 2)),oz 6 (.ld true 32 (.t 5)),oz 7 (.fa 0 (.t 3)),oz 8 (.ld true 32 (.t 7)),oz 9 (.eq false (.agg (kk [(32, .i .u8)])) (.t 6) (.t 8)),mt 10 9,⟨some 11,some (10,true), .fa 32 (.t 2)⟩,⟨some 12,some (10,true), .ld false 1 (.t 11)⟩,⟨some 13,some (10,true), .fa 32 (.t 3)⟩,⟨some 14,some (10,true), .ld false 1 (.t 13)⟩,⟨some 15,some (10,true), .eq false (.one (.b)) (.t 12) (.t 14)⟩,oz 16 (.pick (.t 10) (.t 15) (.k (.b false))),mt 17 16,⟨some 18,some (17,true), .fa 33 (.t 2)⟩,⟨some 19,some (17,true), .ld false 1 (.t 18)⟩,⟨some 20,some (17,true), .fa 33 (.t 3)⟩,⟨some 21,some (17,true), .ld false 1 (.t 20)⟩,⟨some 22,some (17,true), .eq false (.one (.b)) (.t 19) (.t 21)⟩,oz 23 (.pick (.t 17) (.t 22) (.k (.b false))),mt 24 23,⟨some 25,some (24,true), .fa 34 (.t 2)⟩,⟨some 26,some (24,true), .ld false 1 (.t 25)⟩,⟨some 27,some (24,true), .fa 34 (.t 3)⟩,⟨some 28,some (24,true), .ld false 1 (.t 27)⟩,⟨some 29,some (24,true), .eq false (.one (.b)) (.t 26) (.t 28)⟩,oz 30 (.pick (.t 24) (.t 29) (.k (.b false))),mt 31 30,⟨some 32,some (31,true), .fa 35 (.t 2)⟩,⟨some 33,some (31,true), .ld true 32 (.t 32)⟩,⟨some 34,some (31,true), .fa 35 (.t 3)⟩,⟨some 35,some (31,true), .ld true 32 (.t 34)⟩,⟨some 36,some (31,true), .eq false (.agg (kk [(32, .i .u8)])) (.t 33) (.t 35)⟩,oz 37 (.pick (.t 31) (.t 36) (.k (.b false))),mt 38 37,⟨some 39,some (38,true), .fa 67 (.t 2)⟩,⟨some 40,some (38,true), .ld false 1 (.t 39)⟩,⟨some 41,some (38,true), .fa 67 (.t 3)⟩,⟨some 42,some (38,true), .ld false 1 (.t 41)⟩,⟨some 43,some (38,true), .eq false (.one (.b)) (.t 40) (.t 42)⟩,oz 44 (.pick (.t 38) (.t 43) (.k (.b false))),mt 45 44,⟨some 46,some (45,true), .fa 68 (.t 2)⟩,⟨some 47,some (45,true), .ld true 18 (.t 46)⟩,⟨some 48,some (45,true), .fa 68 (.t 3)⟩,⟨some 49,some (45,true), .ld true 18 (.t 48)⟩,⟨some 50,some (45,true), .eq false (.agg (kk [(1, .i .i64),(16, .i .u8),(1, .i .i64)])) (.t 47) (.t 49)⟩,oz 51 (.pick (.t 45) (.t 50) (.k (.b false))),mt 52 51,⟨some 53,some (52,true), .fa 86 (.t 2)⟩,⟨some 54,some (52,true), .ld false 1 (.t 53)⟩,⟨some 55,some (52,true), .fa 86 (.t 3)⟩,⟨some 56,some (52,true), .ld false 1 (.t 55)⟩,⟨some 57,some (52,true), .eq false (.one (.b)) (.t 54) (.t 56)⟩,oz 58 (.pick (.t 52) (.t 57) (.k (.b false))),mt 59 58,⟨some 60,some (59,true), .fa 87 (.t 2)⟩,⟨some 61,some (59,true), .ld false 1 (.t 60)⟩,⟨some 62,some (59,true), .fa 87 (.t 3)⟩,⟨some 63,some (59,true), .ld false 1 (.t 62)⟩,⟨some 64,some (59,true), .bin .eql (.t 61) (.t 63)⟩,oz 65 (.pick (.t 59) (.t 64) (.k (.b false))),mt 66 65,⟨some 67,some (66,true), .fa 88 (.t 2)⟩,⟨some 68,some (66,true), .ld false 1 (.t 67)⟩,⟨some 69,some (66,true), .fa 88 (.t 3)⟩,⟨some 70,some (66,true), .ld false 1 (.t 69)⟩,⟨some 71,some (66,true), .eq false (.one (.b)) (.t 68) (.t 70)⟩,oz 72 (.pick (.t 66) (.t 71) (.k (.b false))),mt 73 72,⟨some 74,some (73,true), .fa 89 (.t 2)⟩,⟨some 75,some (73,true), .ld false 1 (.t 74)⟩,⟨some 76,some (73,true), .fa 89 (.t 3)⟩,⟨some 77,some (73,true), .ld false 1 (.t 76)⟩,⟨some 78,some (73,true), .call DG [(.t 75),(.t 77)]⟩,oz 79 (.pick (.t 73) (.t 78) (.k (.b false))),mt 4 79]
 .ret))⟩
noncomputable def LL:AC:=(.seq (sf [mt 13 4,oz 14 (.fa 34 (.t 1)),oz 15 (.ld false 1 (.t 14)),oz 16 (.len (.t 15)),oz 17 (.bin .lss (.t 13) (.t 16))] (.cond (.t 17) .skip (.exit 0))) (.seq (.blk 1 (sf [oz 20 (.fa 34 (.t 1)),oz 21 (.ld false 1 (.t 20)),mt 22 4,oz 23 (.ias 86 (.t 21) (.t 22)),oz 24 (.ld true 86 (.t 23)),oz 5 (.alloc 45 Ac.zc),on (.st 86 (.t 5) (.t 24))] (.regd [oz 25 (.fa 38 (.t 3)),oz 26 (.ld false 1 (.t 25)),oz 27 (.fa 0 (.t 5)),oz 28 (.ld true 32 (.t 27)),oz 29 (.fa 32 (.t 5)),oz 30 (.ld true 32 (.t 29)),oz 31 (.fa 64 (.t 5)),oz 32 (.ld true 18 (.t 31)),oz 33 (.bld Az.zc []),oz 34 (.eq true (.agg (kk [(1, .i .i64),(16, .i .u8),(1, .i .i64)])) (.t 32) (.t 33)),oz 35 (.fa 64 (.t 5)),oz 36 (.ld true 18 (.t 35)),oz 37 (.fa 82 (.t 5)),oz 38 (.ld false 1 (.t 37)),oz 39 (.fa 85 (.t 5)),oz 40 (.ld false 1 (.t 39)),oz 41 (.bld Ae.zc [(0,32,(.t 28)),(34,1,(.k (.b true))),(35,32,(.t 30)),(67,1,(.t 34)),(68,18,(.t 36)),(86,1,(.k (.b true))),(87,1,(.t 38)),(88,1,(.k (.b true))),(89,1,(.t 40))]),oz 42 (.bll 90 (List.replicate 1 Ae.zc) [(0,(.t 41))]),oz 43 (.app 47 90 152 (.t 26) (.t 42)),oz 44 (.fa 38 (.t 3)),on (.st 1 (.t 44) (.t 43))] [some (0,0),some (0,0),some (0,0),some (0,0),some (0,0),some (0,0),some (0,0),some (0,0),some (0,0),some (0,0),some (0,0),some (0,0),some (0,0),some (0,0),some (0,0),some (0,0),some (0,0),some (0,0),none,some (1,1),none]))) (rg false [mt 18 4,oz 19 (.bin .add (.t 18) (ki 1)),mt 4 19])))
noncomputable def FK:EP:=⟨false,1,46,[.cell true 39 2],(sf [oz 1 (.box 27 35 (.t 0)),oz 2 (.alloc 32 Ab.zc)] (sf [oz 6 (.fa 0 (.t 1)),oz 7 (.ld true 32 (.t 6)),oz 8 (.fa 32 (.t 1)),oz 9 (.ld false 1 (.t 8)),oz 10 (.fa 33 (.t 1)),oz 11 (.ld false 1 (.t 10)),oz 12 (.bld Ab.zc [(0,1,(.k (.b true))),(1,32,(.t 7)),(33,1,(.k (.b true))),(34,1,(.t 9)),(35,1,(.k (.b true))),(36,1,(.t 11)),(37,1,(.k (.b true)))]),oz 3 (.alloc 32 Ab.zc),on (.st 39 (.t 3) (.t 12))] (.seq (sf [oz 4 (.mv (ki 0))] (.blk 0 (.loop [1,2,3,4] LL))) (sf [oz 45 (.ld true 39 (.t 3)),on (.st 39 (.t 2) (.t 45))] .ret))))⟩
noncomputable def Sf:AC:=(.seq (sf [mt 6 5,oz 7 (.fa 34 (.t 2)),oz 8 (.ld false 1 (.t 7)),oz 9 (.len (.t 8)),oz 10 (.bin .lss (.t 6) (.t 9))] (.cond (.t 10) .skip (.exit 0))) (.seq (.blk 1 (sr [oz 13 (.fa 34 (.t 2)),oz 14 (.ld false 1 (.t 13)),mt 15 5,oz 16 (.ias 86 (.t 14) (.t 15)),oz 17 (.fa 0 (.t 16)),oz 18 (.ld true 32 (.t 17)),oz 19 (.ld true 32 (.t 3)),oz 20 (.eq false (.agg (kk [(32, .i .u8)])) (.t 18) (.t 19))] (.cond (.t 20) (sf [mt 21 5,mt 4 21] .ret) .skip))) (rg false [mt 11 5,oz 12 (.bin .add (.t 11) (ki 1)),mt 5 12])))
noncomputable def Le:EP:=⟨false,2,22,[.tmp 4],(sf [oz 2 (.box 27 35 (.t 0)),oz 3 (.box 23 32 (.t 1)),oz 4 (.mv (ki 0))] (.seq (sf [oz 5 (.mv (ki 0))] (.blk 0 (.loop [2,3,5] Sf))) (sf [oz 4 (.mv (ki (-1)))] .ret)))⟩
noncomputable def ON:AC:=(.seq (sf [mt 11 5,mt 12 0,oz 13 (.len (.t 12)),oz 14 (.bin .lss (.t 11) (.t 13))] (.cond (.t 14) .skip (.exit 0))) (.seq (.blk 1 (sr [mt 17 0,mt 18 5,oz 19 (.ias 18 (.t 17) (.t 18)),oz 20 (.ld true 18 (.t 19)),mt 21 1,mt 22 5,oz 23 (.ias 18 (.t 21) (.t 22)),oz 24 (.ld true 18 (.t 23)),oz 25 (.eq true (.agg (kk [(1, .i .i64),(16, .i .u8),(1, .i .i64)])) (.t 20) (.t 24))] (.cond (.t 25) (sf [oz 4 (.mv (.k (.b false)))] .ret) .skip))) (rg false [mt 15 5,oz 16 (.bin .add (.t 15) (ki 1)),mt 5 16])))
noncomputable def Ip:EP:=⟨false,2,26,[.tmp 4],(sf [oz 4 (.mv (.k (.b false)))] (.seq (sf [mt 6 0,oz 7 (.len (.t 6)),mt 8 1,oz 9 (.len (.t 8)),oz 10 (.bin .neq (.t 7) (.t 9))] (.cond (.t 10) (sf [oz 4 (.mv (.k (.b false)))] .ret) .skip)) (.seq (sf [oz 5 (.mv (ki 0))] (.blk 0 (.loop [0,1,5] ON))) (sf [oz 4 (.mv (.k (.b true)))] .ret))))⟩
noncomputable def In:EP:=⟨false,1,9,[.tmp 2],(sf [oz 2 (.mv (.k (.b false)))] (sf [mt 3 0,oz 4 (.bin .geq (.t 3) (ki 0)),mt 5 4,⟨some 6,some (5,true), .mv (.t 0)⟩,⟨some 7,some (5,true), .bin .leq (.t 6) (ki 65535)⟩,oz 8 (.pick (.t 5) (.t 7) (.k (.b false))),mt 2 8] .ret))⟩
noncomputable def Ho:EP:=⟨false,1,16,[.tmp 2],(sf [oz 1 (.box 41 18 (.t 0)),oz 2 (.mv (.k (.b false)))] (sf [oz 3 (.fa 0 (.t 1)),oz 4 (.ld true 17 (.t 3)),oz 5 (.call CT [(.t 4)]),mt 6 5,⟨some 7,some (6,true), .fa 17 (.t 1)⟩,⟨some 8,some (6,true), .ld false 1 (.t 7)⟩,⟨some 9,some (6,true), .bin .geq (.t 8) (ki 1)⟩,oz 10 (.pick (.t 6) (.t 9) (.k (.b false))),mt 11 10,⟨some 12,some (11,true), .fa 17 (.t 1)⟩,⟨some 13,some (11,true), .ld false 1 (.t 12)⟩,⟨some 14,some (11,true), .bin .leq (.t 13) (ki 65535)⟩,oz 15 (.pick (.t 11) (.t 14) (.k (.b false))),mt 2 15] .ret))⟩
noncomputable def Hp:EP:=⟨false,1,28,[.tmp 2],(sf [oz 1 (.box 57 18 (.t 0)),oz 2 (.mv (.k (.b false)))] (.seq (sr [oz 3 (.fa 0 (.t 1)),oz 4 (.ld true 17 (.t 3)),oz 5 (.call CT [(.t 4)]),oz 6 (.un .not (.t 5)),mt 7 6,⟨some 8,some (7,false), .fa 17 (.t 1)⟩,⟨some 9,some (7,false), .ld false 1 (.t 8)⟩,⟨some 10,some (7,false), .bin .lss (.t 9) (ki 0)⟩,oz 11 (.pick (.t 7) (.k (.b true)) (.t 10)),mt 12 11,⟨some 13,some (12,false), .fa 17 (.t 1)⟩,⟨some 14,some (12,false), .ld false 1 (.t 13)⟩,⟨some 15,some (12,false), .fa 0 (.t 1)⟩,⟨some 16,some (12,false), .ld true 17 (.t 15)⟩,⟨some 17,some (12,false), .call DO [(.t 16)]⟩,⟨some 18,some (12,false), .bin .gtr (.t 14) (.t 17)⟩,oz 19 (.pick (.t 12) (.k (.b true)) (.t 18))] (.cond (.t 19) (sf [oz 2 (.mv (.k (.b false)))] .ret) .skip)) (sr [oz 20 (.fa 0 (.t 1)),oz 21 (.ld true 17 (.t 20)),oz 22 (.fa 0 (.t 1)),oz 23 (.ld true 17 (.t 22)),oz 24 (.fa 17 (.t 1)),oz 25 (.ld false 1 (.t 24)),oz 26 (.call EW [(.t 23),(.t 25)]),oz 27 (.eq false (.agg (kk [(1, .i .i64),(16, .i .u8)])) (.t 21) (.t 26)),mt 2 27] .ret)))⟩
noncomputable def Iq:EP:=⟨false,2,20,[.tmp 4],(sf [oz 2 (.box 57 18 (.t 0)),oz 3 (.box 57 18 (.t 1)),oz 4 (.mv (.k (.b false)))] (.seq (sf [oz 5 (.fa 0 (.t 2)),oz 6 (.ld true 17 (.t 5)),oz 7 (.fa 0 (.t 3)),oz 8 (.ld true 17 (.t 7)),oz 9 (.eq true (.agg (kk [(1, .i .i64),(16, .i .u8)])) (.t 6) (.t 8))] (.cond (.t 9) (sf [oz 10 (.fa 0 (.t 2)),oz 11 (.ld true 17 (.t 10)),oz 12 (.fa 0 (.t 3)),oz 13 (.ld true 17 (.t 12)),oz 14 (.call EX [(.t 11),(.t 13)]),mt 4 14] .ret) .skip)) (sf [oz 15 (.fa 17 (.t 2)),oz 16 (.ld false 1 (.t 15)),oz 17 (.fa 17 (.t 3)),oz 18 (.ld false 1 (.t 17)),oz 19 (.bin .lss (.t 16) (.t 18)),mt 4 19] .ret)))⟩
noncomputable def EG:EP:=⟨false,1,6,[.tmp 2],(sf [oz 1 (.box 41 18 (.t 0)),oz 2 (.mv (.k (.b false)))] (sf [oz 3 (.ld true 18 (.t 1)),oz 4 (.bld Az.zc []),oz 5 (.eq false (.agg (kk [(1, .i .i64),(16, .i .u8),(1, .i .i64)])) (.t 3) (.t 4)),mt 2 5] .ret))⟩
noncomputable def Gv:EP:=⟨false,1,9,[.tmp 2],(sf [oz 2 (.mv (.k (.b false)))] (sf [mt 3 0,oz 4 (.bin .geq (.t 3) (ki 0)),mt 5 4,⟨some 6,some (5,true), .mv (.t 0)⟩,⟨some 7,some (5,true), .bin .leq (.t 6) (ki 65535)⟩,oz 8 (.pick (.t 5) (.t 7) (.k (.b false))),mt 2 8] .ret))⟩
noncomputable def LK:AC:=(sf [oz 8 (.bin .lss (.t 7) (.t 6))] (.seq (.cond (.t 8) .skip (.exit 0)) (.seq (.blk 1 (sf [mt 9 7,oz 10 (.ias 18 (.t 5) (.t 7)),oz 11 (.ld true 18 (.t 10)),oz 4 (.alloc 57 An.zc),mt 3 9,on (.st 18 (.t 4) (.t 11))] (sr [oz 12 (.ld true 18 (.t 4)),oz 13 (.call DZ [(.t 12)]),oz 14 (.un .not (.t 13)),mt 15 14,⟨some 16,some (15,false), .mv (.t 3)⟩,⟨some 17,some (15,false), .bin .gtr (.t 16) (ki 0)⟩,⟨some 18,some (15,false), .mv (.t 17)⟩,⟨some 19,some (18,true), .mv (.t 0)⟩,⟨some 20,some (18,true), .mv (.t 3)⟩,⟨some 21,some (18,true), .bin .sub (.t 20) (ki 1)⟩,⟨some 22,some (18,true), .ias 18 (.t 19) (.t 21)⟩,⟨some 23,some (18,true), .ld true 18 (.t 22)⟩,⟨some 24,some (18,true), .ld true 18 (.t 4)⟩,⟨some 25,some (18,true), .call E3 [(.t 23),(.t 24)]⟩,⟨some 26,some (18,true), .un .not (.t 25)⟩,⟨some 27,some (15,false), .pick (.t 18) (.t 26) (.k (.b false))⟩,oz 28 (.pick (.t 15) (.k (.b true)) (.t 27))] (.cond (.t 28) (sf [oz 2 (.mv (.k (.b false)))] .ret) .skip)))) (rg false [oz 29 (.bin .add (.t 7) (ki 1)),mt 7 29]))))
noncomputable def FJ:EP:=⟨false,1,30,[.tmp 2],(sf [oz 2 (.mv (.k (.b false)))] (.seq (sf [mt 5 0,oz 6 (.len (.t 5)),oz 7 (.mv (ki 0))] (.blk 0 (.loop [0,5,6,7] LK))) (sf [oz 2 (.mv (.k (.b true)))] .ret)))⟩
noncomputable def E8:EP:=⟨false,1,16,[.tmp 2],(sf [oz 1 (.box 41 18 (.t 0)),oz 2 (.mv (.k (.b false)))] (sf [oz 3 (.fa 0 (.t 1)),oz 4 (.ld true 17 (.t 3)),oz 5 (.call CD [(.t 4)]),mt 6 5,⟨some 7,some (6,true), .fa 17 (.t 1)⟩,⟨some 8,some (6,true), .ld false 1 (.t 7)⟩,⟨some 9,some (6,true), .bin .geq (.t 8) (ki 1)⟩,oz 10 (.pick (.t 6) (.t 9) (.k (.b false))),mt 11 10,⟨some 12,some (11,true), .fa 17 (.t 1)⟩,⟨some 13,some (11,true), .ld false 1 (.t 12)⟩,⟨some 14,some (11,true), .bin .leq (.t 13) (ki 65535)⟩,oz 15 (.pick (.t 11) (.t 14) (.k (.b false))),mt 2 15] .ret))⟩
noncomputable def C7:EP:=⟨false,1,8,[.tmp 2],(sf [oz 2 (.mv (.k (.nils)))] (.seq (sf [mt 3 0,oz 4 (.eq false .sl (.t 3) (.k (.nils)))] (.cond (.t 4) (sf [oz 2 (.mv (.k (.nils)))] .ret) .skip)) (sf [oz 5 (.bls 57 18 (List.replicate 0 An.zc) []),mt 6 0,oz 7 (.app 57 18 32 (.t 5) (.t 6)),mt 2 7] .ret)))⟩
noncomputable def Fz:AC:=(.seq (sf [mt 16 6,mt 17 0,oz 18 (.len (.t 17)),oz 19 (.bin .lss (.t 16) (.t 18))] (.cond (.t 19) .skip (.exit 0))) (.seq (.blk 1 (sf [mt 22 0,mt 23 6,oz 24 (.ias 86 (.t 22) (.t 23)),oz 25 (.ld true 86 (.t 24)),oz 7 (.alloc 45 Ac.zc),on (.st 86 (.t 7) (.t 25))] (sf [mt 26 1,oz 27 (.ld true 86 (.t 7)),oz 28 (.callv (.t 26) [(.t 27)]),oz 29 (.un .not (.t 28))] (.cond (.t 29) (sf [mt 30 0,mt 31 5,oz 32 (.ld true 86 (.t 7)),oz 33 (.ias 86 (.t 30) (.t 31)),on (.st 86 (.t 33) (.t 32))] (rg false [mt 34 5,oz 35 (.bin .add (.t 34) (ki 1)),mt 5 35])) .skip)))) (rg false [mt 20 6,oz 21 (.bin .add (.t 20) (ki 1)),mt 6 21])))
noncomputable def CJ:EP:=⟨true,2,42,[.tmp 4],(sf [oz 4 (.mv (.k (.nils)))] (sf [mt 8 0,mt 9 1,oz 10 (.call BJ [(.t 8),(.t 9)]),mt 5 10] (.seq (sf [mt 11 5,oz 12 (.bin .eql (.t 11) (ki (-1)))] (.cond (.t 12) (sf [mt 13 0,mt 4 13] .ret) .skip)) (.seq (sf [mt 14 5,oz 15 (.bin .add (.t 14) (ki 1)),mt 6 15] (.blk 0 (.loop [0,1,5,6] Fz))) (sf [mt 36 0,mt 37 5,oz 38 (.sll 86 (.t 36) (some (.t 37)) none),on (.clr Ac.zc (.t 38))] (sf [mt 39 0,mt 40 5,oz 41 (.sll 86 (.t 39) none (some (.t 40))),mt 4 41] .ret))))))⟩
noncomputable def DA:EP:=⟨true,1,8,[.tmp 2],(sf [oz 2 (.mv (.k (.nils)))] (.seq (sf [mt 3 0,oz 4 (.eq false .sl (.t 3) (.k (.nils)))] (.cond (.t 4) (sf [oz 2 (.mv (.k (.nils)))] .ret) .skip)) (sf [oz 5 (.bls 45 86 (List.replicate 0 Ac.zc) []),mt 6 0,oz 7 (.app 45 86 144 (.t 5) (.t 6)),mt 2 7] .ret)))⟩
noncomputable def Fm:EP:=⟨true,2,15,[.tmp 3],(sf [oz 2 (.box 45 86 (.t 0)),oz 3 (.mv (.k (.b false)))] (sf [oz 7 (.ld false 1 (.t 1)),oz 8 (.fa 0 (.t 2)),oz 9 (.ld true 32 (.t 8)),oz 10 (.lkp (.agg (kk [(32, .i .u8)])) (.agg Ac.zc) true (.t 7) (.t 9)),mt 6 10,oz 11 (.ext (.t 6) 0),oz 12 (.ext (.t 6) 1),oz 4 (.alloc 45 Ac.zc),on (.st 86 (.t 4) (.t 11)),mt 5 12] (sf [mt 13 5,oz 14 (.un .not (.t 13)),mt 3 14] .ret)))⟩
noncomputable def Of:AC:=(.seq (sf [mt 7 3,oz 8 (.bin .lss (.t 7) (ki 16))] (.cond (.t 8) .skip (.exit 0))) (.seq (.blk 1 (sf [mt 11 3,oz 12 (.fa 1 (.t 1)),oz 13 (.iaa 16 1 (.t 12) (.t 11)),oz 14 (.ld false 1 (.t 13)),oz 15 (.bin .neq (.t 14) (.k (.i .u8 0)))] (.cond (.t 15) (sf [oz 2 (.mv (.k (.b false)))] .ret) .skip))) (rg false [mt 9 3,oz 10 (.bin .add (.t 9) (ki 1)),mt 3 10])))
noncomputable def Hs:EP:=⟨false,1,19,[.tmp 2],(sf [oz 1 (.box 39 17 (.t 0)),oz 2 (.mv (.k (.b false)))] (.seq (sf [oz 4 (.fa 0 (.t 1)),oz 5 (.ld false 1 (.t 4)),oz 6 (.bin .eql (.t 5) (ki 6))] (.cond (.t 6) (sf [oz 2 (.mv (.k (.b true)))] .ret) .skip)) (.seq (sf [oz 3 (.mv (ki 4))] (.blk 0 (.loop [1,3] Of))) (sf [oz 16 (.fa 0 (.t 1)),oz 17 (.ld false 1 (.t 16)),oz 18 (.bin .eql (.t 17) (ki 4)),mt 2 18] .ret))))⟩
noncomputable def Hr:EP:=⟨false,1,9,[.tmp 2],(sf [oz 1 (.box 39 17 (.t 0)),oz 2 (.mv (ki 0))] (.seq (sf [oz 3 (.ld true 17 (.t 1)),oz 4 (.call CT [(.t 3)]),oz 5 (.un .not (.t 4))] (.cond (.t 5) (sf [oz 2 (.mv (ki 0))] .ret) .skip)) (.seq (sf [oz 6 (.fa 0 (.t 1)),oz 7 (.ld false 1 (.t 6)),oz 8 (.bin .eql (.t 7) (ki 4))] (.cond (.t 8) (sf [oz 2 (.mv (ki 32))] .ret) .skip)) (sf [oz 2 (.mv (ki 128))] .ret))))⟩
noncomputable def OP:AC:=(.seq (sf [mt 33 9,mt 34 7,oz 35 (.bin .rem (.t 34) (ki 8)),oz 36 (.bin .lss (.t 33) (.t 35))] (.cond (.t 36) .skip (.exit 2))) (.seq (.blk 3 (rg false [mt 39 8,oz 40 (.bin .quo (.t 39) (ki 2)),mt 8 40])) (rg false [mt 37 9,oz 38 (.bin .add (.t 37) (ki 1)),mt 9 38])))
noncomputable def OO:AC:=(.seq (sf [mt 19 7,mt 20 6,oz 21 (.bin .lss (.t 19) (.t 20)),mt 22 21,⟨some 23,some (22,true), .mv (.t 7)⟩,⟨some 24,some (22,true), .mv (.t 1)⟩,⟨some 25,some (22,true), .bin .lss (.t 23) (.t 24)⟩,oz 26 (.pick (.t 22) (.t 25) (.k (.b false)))] (.cond (.t 26) .skip (.exit 0))) (.seq (.blk 1 (sf [oz 29 (.ld true 17 (.t 2)),mt 30 7,oz 31 (.call E2 [(.t 29),(.t 30)]),oz 32 (.bin .eql (.t 31) (ki 1))] (.cond (.t 32) (sf [oz 8 (.mv (ki 128))] (.seq (sf [oz 9 (.mv (ki 0))] (.blk 2 (.loop [1,2,4,5,6,7,8,9] OP))) (rg false [mt 41 7,oz 42 (.bin .quo (.t 41) (ki 8)),mt 43 7,oz 44 (.bin .quo (.t 43) (ki 8)),oz 45 (.fa 1 (.t 5)),oz 46 (.iaa 16 1 (.t 45) (.t 44)),oz 47 (.ld false 1 (.t 46)),mt 48 8,oz 49 (.cvi .u8 (.t 48)),oz 50 (.bin .add (.t 47) (.t 49)),oz 51 (.fa 1 (.t 5)),oz 52 (.iaa 16 1 (.t 51) (.t 42)),on (.st 1 (.t 52) (.t 50))]))) .skip))) (rg false [mt 27 7,oz 28 (.bin .add (.t 27) (ki 1)),mt 7 28])))
noncomputable def Ir:EP:=⟨false,2,54,[.cell true 17 4],(sf [oz 2 (.box 39 17 (.t 0)),oz 4 (.alloc 39 Ao.zc)] (.seq (sf [oz 10 (.ld true 17 (.t 2)),oz 11 (.call CT [(.t 10)]),oz 12 (.un .not (.t 11))] (.cond (.t 12) (sf [oz 13 (.bld Ao.zc []),on (.st 17 (.t 4) (.t 13))] .ret) .skip)) (sf [oz 14 (.fa 0 (.t 2)),oz 15 (.ld false 1 (.t 14)),oz 16 (.bld Ao.zc [(0,1,(.t 15))]),oz 5 (.alloc 39 Ao.zc),on (.st 17 (.t 5) (.t 16))] (sf [oz 17 (.ld true 17 (.t 2)),oz 18 (.call DO [(.t 17)]),mt 6 18] (.seq (sf [oz 7 (.mv (ki 0))] (.blk 0 (.loop [1,2,4,5,6,7] OO))) (sf [oz 53 (.ld true 17 (.t 5)),on (.st 17 (.t 4) (.t 53))] .ret))))))⟩
noncomputable def OQ:AC:=(.seq (sf [mt 16 5,oz 17 (.bin .lss (.t 16) (ki 16))] (.cond (.t 17) .skip (.exit 0))) (.seq (.blk 1 (sr [mt 20 5,oz 21 (.fa 1 (.t 2)),oz 22 (.iaa 16 1 (.t 21) (.t 20)),oz 23 (.ld false 1 (.t 22)),mt 24 5,oz 25 (.fa 1 (.t 3)),oz 26 (.iaa 16 1 (.t 25) (.t 24)),oz 27 (.ld false 1 (.t 26)),oz 28 (.bin .neq (.t 23) (.t 27))] (.cond (.t 28) (sr [mt 29 5,oz 30 (.fa 1 (.t 2)),oz 31 (.iaa 16 1 (.t 30) (.t 29)),oz 32 (.ld false 1 (.t 31)),mt 33 5,oz 34 (.fa 1 (.t 3)),oz 35 (.iaa 16 1 (.t 34) (.t 33)),oz 36 (.ld false 1 (.t 35)),oz 37 (.bin .lss (.t 32) (.t 36)),mt 4 37] .ret) .skip))) (rg false [mt 18 5,oz 19 (.bin .add (.t 18) (ki 1)),mt 5 19])))
noncomputable def Is:EP:=⟨false,2,38,[.tmp 4],(sf [oz 2 (.box 39 17 (.t 0)),oz 3 (.box 39 17 (.t 1)),oz 4 (.mv (.k (.b false)))] (.seq (sf [oz 6 (.fa 0 (.t 2)),oz 7 (.ld false 1 (.t 6)),oz 8 (.fa 0 (.t 3)),oz 9 (.ld false 1 (.t 8)),oz 10 (.bin .neq (.t 7) (.t 9))] (.cond (.t 10) (sf [oz 11 (.fa 0 (.t 2)),oz 12 (.ld false 1 (.t 11)),oz 13 (.fa 0 (.t 3)),oz 14 (.ld false 1 (.t 13)),oz 15 (.bin .lss (.t 12) (.t 14)),mt 4 15] .ret) .skip)) (.seq (sf [oz 5 (.mv (ki 0))] (.blk 0 (.loop [2,3,5] OQ))) (sf [oz 4 (.mv (.k (.b false)))] .ret))))⟩
noncomputable def Gx:EP:=⟨false,1,20,[.tmp 2],(sf [oz 1 (.box 57 18 (.t 0)),oz 2 (.mv (.k (.b false)))] (sf [oz 6 (.fa 0 (.t 1)),oz 7 (.ld true 17 (.t 6)),oz 8 (.fa 17 (.t 1)),oz 9 (.ld false 1 (.t 8)),oz 10 (.call F5 [(.t 7),(.t 9)]),mt 5 10,oz 11 (.ext (.t 5) 0),oz 12 (.ext (.t 5) 1),oz 3 (.alloc 57 An.zc),on (.st 18 (.t 3) (.t 11)),mt 4 12] (sf [mt 13 4,oz 14 (.bin .eql (.t 13) (ki 0)),mt 15 14,⟨some 16,some (15,true), .ld true 18 (.t 3)⟩,⟨some 17,some (15,true), .ld true 18 (.t 1)⟩,⟨some 18,some (15,true), .eq false (.agg (kk [(1, .i .i64),(16, .i .u8),(1, .i .i64)])) (.t 16) (.t 17)⟩,oz 19 (.pick (.t 15) (.t 18) (.k (.b false))),mt 2 19] .ret)))⟩
noncomputable def Hu:EP:=⟨false,2,20,[.tmp 4],(sf [oz 2 (.box 57 18 (.t 0)),oz 3 (.box 57 18 (.t 1)),oz 4 (.mv (.k (.b false)))] (.seq (sf [oz 5 (.fa 0 (.t 2)),oz 6 (.ld true 17 (.t 5)),oz 7 (.fa 0 (.t 3)),oz 8 (.ld true 17 (.t 7)),oz 9 (.eq false (.agg (kk [(1, .i .i64),(16, .i .u8)])) (.t 6) (.t 8))] (.cond (.t 9) (sf [oz 10 (.fa 17 (.t 2)),oz 11 (.ld false 1 (.t 10)),oz 12 (.fa 17 (.t 3)),oz 13 (.ld false 1 (.t 12)),oz 14 (.bin .lss (.t 11) (.t 13)),mt 4 14] .ret) .skip)) (sf [oz 15 (.fa 0 (.t 2)),oz 16 (.ld true 17 (.t 15)),oz 17 (.fa 0 (.t 3)),oz 18 (.ld true 17 (.t 17)),oz 19 (.call E5 [(.t 16),(.t 18)]),mt 4 19] .ret)))⟩
noncomputable def Gz:EP:=⟨false,1,20,[.tmp 2],(sf [oz 1 (.box 39 17 (.t 0)),oz 2 (.mv (.k (.b false)))] (sr [oz 3 (.fa 0 (.t 1)),oz 4 (.ld false 1 (.t 3)),oz 5 (.bin .eql (.t 4) (ki 6)),mt 6 5,⟨some 7,some (6,false), .fa 0 (.t 1)⟩,⟨some 8,some (6,false), .ld false 1 (.t 7)⟩,⟨some 9,some (6,false), .bin .eql (.t 8) (ki 4)⟩,⟨some 10,some (6,false), .mv (.t 9)⟩,⟨some 11,some (10,true), .ld true 17 (.t 1)⟩,⟨some 12,some (10,true), .fa 1 (.t 1)⟩,⟨some 13,some (10,true), .sla 16 1 (.t 12) none (some (ki 4))⟩,⟨some 14,some (10,true), .s2a 4 1 (.t 13)⟩,⟨some 15,some (10,true), .ld true 4 (.t 14)⟩,⟨some 16,some (10,true), .call E6 [(.t 15)]⟩,⟨some 17,some (10,true), .eq false (.agg (kk [(1, .i .i64),(16, .i .u8)])) (.t 11) (.t 16)⟩,⟨some 18,some (6,false), .pick (.t 10) (.t 17) (.k (.b false))⟩,oz 19 (.pick (.t 6) (.k (.b true)) (.t 18)),mt 2 19] .ret))⟩
noncomputable def F7:AC:=(sf [oz 9 (.bin .lss (.t 8) (.t 7))] (.seq (.cond (.t 9) .skip (.exit 0)) (.seq (.blk 1 (sf [mt 10 8,mt 5 10] (sf [mt 11 1,mt 12 0,mt 13 5,oz 14 (.ias 86 (.t 12) (.t 13)),oz 15 (.ld true 86 (.t 14)),oz 16 (.callv (.t 11) [(.t 15)])] (.cond (.t 16) (sf [mt 17 5,mt 4 17] .ret) .skip)))) (rg false [oz 18 (.bin .add (.t 8) (ki 1)),mt 8 18]))))
noncomputable def CV:EP:=⟨true,2,19,[.tmp 4],(sf [oz 4 (.mv (ki 0))] (.seq (sf [mt 6 0,oz 7 (.len (.t 6)),oz 8 (.mv (ki 0))] (.blk 0 (.loop [0,1,7,8] F7))) (sf [oz 4 (.mv (ki (-1)))] .ret)))⟩
noncomputable def Oe:AC:=(.seq (sf [mt 13 6,mt 14 1,oz 15 (.bin .rem (.t 14) (ki 8)),oz 16 (.bin .gtr (.t 13) (.t 15))] (.cond (.t 16) .skip (.exit 0))) (.seq (.blk 1 (rg false [mt 19 5,oz 20 (.bin .quo (.t 19) (ki 2)),mt 5 20])) (rg false [mt 17 6,oz 18 (.bin .sub (.t 17) (ki 1)),mt 6 18])))
noncomputable def Hq:EP:=⟨false,2,23,[.tmp 4],(sf [oz 2 (.box 39 17 (.t 0)),oz 4 (.mv (ki 0))] (sf [mt 7 1,oz 8 (.bin .quo (.t 7) (ki 8)),oz 9 (.fa 1 (.t 2)),oz 10 (.iaa 16 1 (.t 9) (.t 8)),oz 11 (.ld false 1 (.t 10)),oz 12 (.cvi .i64 (.t 11)),mt 5 12] (.seq (sf [oz 6 (.mv (ki 7))] (.blk 0 (.loop [1,5,6] Oe))) (sf [mt 21 5,oz 22 (.bin .rem (.t 21) (ki 2)),mt 4 22] .ret))))⟩
noncomputable def J7:EP:=⟨false,2,26,[.cell true 18 4, .tmp 5],(sf [oz 2 (.box 39 17 (.t 0)),oz 4 (.alloc 57 An.zc),oz 5 (.mv (ki 0))] (.seq (.blk 0 (sf [oz 7 (.ld true 17 (.t 2)),oz 8 (.call CD [(.t 7)]),oz 9 (.un .not (.t 8)),mt 6 9] (.cond (.t 6) (sf [oz 10 (.bld An.zc []),on (.st 18 (.t 4) (.t 10)),oz 5 (.mv (ki 1))] .ret) (sf [mt 12 1,oz 13 (.bin .lss (.t 12) (ki 0)),mt 14 13,⟨some 15,some (14,false), .mv (.t 1)⟩,⟨some 16,some (14,false), .ld true 17 (.t 2)⟩,⟨some 17,some (14,false), .call Ea [(.t 16)]⟩,⟨some 18,some (14,false), .bin .gtr (.t 15) (.t 17)⟩,oz 19 (.pick (.t 14) (.k (.b true)) (.t 18)),mt 11 19] (.cond (.t 11) (sf [oz 20 (.bld An.zc []),on (.st 18 (.t 4) (.t 20)),oz 5 (.mv (ki 6))] .ret) .skip))))) (sf [oz 21 (.ld true 17 (.t 2)),mt 22 1,oz 23 (.call E4 [(.t 21),(.t 22)]),mt 24 1,oz 25 (.bld An.zc [(0,17,(.t 23)),(17,1,(.t 24))]),on (.st 18 (.t 4) (.t 25)),oz 5 (.mv (ki 0))] .ret)))⟩
noncomputable def Hw:EP:=⟨false,2,21,[.tmp 4],(sf [oz 2 (.box 39 17 (.t 0)),oz 3 (.box 39 17 (.t 1)),oz 4 (.mv (.k (.b false)))] (.seq (sf [oz 5 (.fa 0 (.t 2)),oz 6 (.ld false 1 (.t 5)),oz 7 (.fa 0 (.t 3)),oz 8 (.ld false 1 (.t 7)),oz 9 (.bin .neq (.t 6) (.t 8))] (.cond (.t 9) (sf [oz 10 (.fa 0 (.t 2)),oz 11 (.ld false 1 (.t 10)),oz 12 (.fa 0 (.t 3)),oz 13 (.ld false 1 (.t 12)),oz 14 (.bin .lss (.t 11) (.t 13)),mt 4 14] .ret) .skip)) (sr [oz 15 (.fa 1 (.t 2)),oz 16 (.sla 16 1 (.t 15) none none),oz 17 (.fa 1 (.t 3)),oz 18 (.sla 16 1 (.t 17) none none),oz 19 (.call Db [(.t 16),(.t 18)]),oz 20 (.bin .lss (.t 19) (ki 0)),mt 4 20] .ret)))⟩
noncomputable def Hx:EP:=⟨false,1,10,[.cell true 17 2],(sf [oz 1 (.box 83 4 (.t 0)),oz 2 (.alloc 39 Ao.zc)] (sf [oz 4 (.bld Ao.zc [(0,1,(ki 4))]),oz 3 (.alloc 39 Ao.zc),on (.st 17 (.t 3) (.t 4))] (.seq (.regd [oz 5 (.fa 1 (.t 3)),oz 6 (.sla 16 1 (.t 5) none none),oz 7 (.sla 4 1 (.t 1) none none),oz 8 (.cpy 1 (.t 6) (.t 7))] [some (0,0),some (0,0),some (0,0),none]) (sf [oz 9 (.ld true 17 (.t 3)),on (.st 17 (.t 2) (.t 9))] .ret))))⟩
noncomputable def Gy:EP:=⟨false,1,11,[.tmp 2],(sf [oz 1 (.box 39 17 (.t 0)),oz 2 (.mv (ki 0))] (.seq (.blk 0 (sf [oz 4 (.ld true 17 (.t 1)),oz 5 (.call CD [(.t 4)]),oz 6 (.un .not (.t 5)),mt 3 6] (.cond (.t 3) (sf [oz 2 (.mv (ki 0))] .ret) (sf [oz 8 (.fa 0 (.t 1)),oz 9 (.ld false 1 (.t 8)),oz 10 (.bin .eql (.t 9) (ki 4)),mt 7 10] (.cond (.t 7) (sf [oz 2 (.mv (ki 32))] .ret) .skip))))) (sf [oz 2 (.mv (ki 128))] .ret)))⟩
noncomputable def Og:AC:=(sf [oz 12 (.bin .lss (.t 11) (ki 16))] (.seq (.cond (.t 12) .skip (.exit 0)) (.seq (.blk 1 (sf [mt 13 11,mt 5 13] (sf [mt 14 1,mt 15 5,oz 16 (.bin .mul (ki 8) (.t 15)),oz 17 (.bin .sub (.t 14) (.t 16)),oz 18 (.mnx true (.t 17) (ki 0)),oz 19 (.mnx false (.t 18) (ki 8)),mt 6 19] (.seq (sf [mt 20 1,oz 21 (.bin .lss (.t 20) (ki 0))] (.cond (.t 21) (rg false [oz 6 (.mv (ki 0))]) .skip)) (rg false [mt 22 5,oz 23 (.fa 1 (.t 2)),oz 24 (.iaa 16 1 (.t 23) (.t 22)),oz 25 (.ld false 1 (.t 24)),mt 26 6,oz 27 (.bin .sub (ki 8) (.t 26)),oz 28 (.cvi .u64 (.t 27)),oz 29 (.bin .shl (.k (.i .u8 255)) (.t 28)),oz 30 (.bin .and (.t 25) (.t 29)),oz 31 (.fa 1 (.t 2)),oz 32 (.iaa 16 1 (.t 31) (.t 22)),on (.st 1 (.t 32) (.t 30))]))))) (rg false [oz 33 (.bin .add (.t 11) (ki 1)),mt 11 33]))))
noncomputable def Hv:EP:=⟨false,2,35,[.cell true 17 4],(sf [oz 2 (.box 39 17 (.t 0)),oz 4 (.alloc 39 Ao.zc)] (.seq (sf [oz 7 (.ld true 17 (.t 2)),oz 8 (.call CD [(.t 7)]),oz 9 (.un .not (.t 8))] (.cond (.t 9) (sf [oz 10 (.bld Ao.zc []),on (.st 17 (.t 4) (.t 10))] .ret) .skip)) (.seq (sf [oz 11 (.mv (ki 0))] (.blk 0 (.loop [1,2,4,11] Og))) (sf [oz 34 (.ld true 17 (.t 2)),on (.st 17 (.t 4) (.t 34))] .ret))))⟩
noncomputable def EI:EP:=⟨false,2,8,[.tmp 4],(sf [oz 4 (.mv (ki 0))] (sf [mt 5 0,mt 6 1,oz 7 (.call Cv [(.t 5),(.t 6)]),mt 4 7] .ret))⟩
noncomputable def ZV:List (Nat×List AV):=[]
noncomputable def ZF:List (Nat×EP):=[(C9,Ei),(DN,Hn),(DP,Ht),(C5,Fo),(EU,Io),(Ew,Hj),(Cm,Fs),(Ey,Hl),(CS,Hm),(CI,Fq),(DM,Hk),(Du,Gw),(Di,Fk),(D9,Gb),(CH,GN),(CZ,Ga),(Bu,C6),(Da,EH),(Dj,Fl),(D8,FK),(Ez,Le),(DG,Ip),(Er,In),(E0,Ho),(E1,Hp),(EV,Iq),(BY,EG),(Dt,Gv),(D7,FJ),(CG,E8),(Bv,C7),(BF,CJ),(Cl,DA),(Bp,Fm),(CT,Hs),(DO,Hr),(EW,Ir),(EX,Is),(DZ,Gx),(E3,Hu),(CD,Gz),(BJ,CV),(E2,Hq),(F5,J7),(E5,Hw),(E6,Hx),(Ea,Gy),(E4,Hv),(Db,EI)]
def ZD:List (Nat×(List AV→A3→Option (AV×Option A3))):=[(Cv,IN)]
def ZU:List Nat:=[]
noncomputable def tb:Ce:=⟨fun n=>look n ZF,fun n=>look n ZV,fun n=>look n ZD,ZU⟩
theorem KV:tb.prim C9=none∧tb.fns C9=some Ei:=⟨rfl,rfl⟩
theorem RO:tb.prim DN=none∧tb.fns DN=some Hn:=⟨rfl,rfl⟩
theorem RU:tb.prim DP=none∧tb.fns DP=some Ht:=⟨rfl,rfl⟩
theorem NK:tb.prim C5=none∧tb.fns C5=some Fo:=⟨rfl,rfl⟩
theorem SZ:tb.prim EU=none∧tb.fns EU=some Io:=⟨rfl,rfl⟩
theorem RK:tb.prim Ew=none∧tb.fns Ew=some Hj:=⟨rfl,rfl⟩
theorem NM:tb.prim Cm=none∧tb.fns Cm=some Fs:=⟨rfl,rfl⟩
theorem RM:tb.prim Ey=none∧tb.fns Ey=some Hl:=⟨rfl,rfl⟩
theorem RN:tb.prim CS=none∧tb.fns CS=some Hm:=⟨rfl,rfl⟩
theorem NL:tb.prim CI=none∧tb.fns CI=some Fq:=⟨rfl,rfl⟩
theorem RL:tb.prim DM=none∧tb.fns DM=some Hk:=⟨rfl,rfl⟩
theorem Qz:tb.prim Du=none∧tb.fns Du=some Gw:=⟨rfl,rfl⟩
theorem NI:tb.prim Di=none∧tb.fns Di=some Fk:=⟨rfl,rfl⟩
theorem M7:tb.prim D9=none∧tb.fns D9=some Gb:=⟨rfl,rfl⟩
theorem GJ:tb.prim CH=none∧tb.fns CH=some GN:=⟨rfl,rfl⟩
theorem I7:tb.prim CZ=none∧tb.fns CZ=some Ga:=⟨rfl,rfl⟩
theorem GX:tb.prim Bu=none∧tb.fns Bu=some C6:=⟨rfl,rfl⟩
theorem M8:tb.prim Da=none∧tb.fns Da=some EH:=⟨rfl,rfl⟩
theorem NJ:tb.prim Dj=none∧tb.fns Dj=some Fl:=⟨rfl,rfl⟩
theorem OL:tb.prim D8=none∧tb.fns D8=some FK:=⟨rfl,rfl⟩
theorem VY:tb.prim Ez=none∧tb.fns Ez=some Le:=⟨rfl,rfl⟩
theorem Ta:tb.prim DG=none∧tb.fns DG=some Ip:=⟨rfl,rfl⟩
theorem SY:tb.prim Er=none∧tb.fns Er=some In:=⟨rfl,rfl⟩
theorem RP:tb.prim E0=none∧tb.fns E0=some Ho:=⟨rfl,rfl⟩
theorem RQ:tb.prim E1=none∧tb.fns E1=some Hp:=⟨rfl,rfl⟩
theorem Tb:tb.prim EV=none∧tb.fns EV=some Iq:=⟨rfl,rfl⟩
theorem M6:tb.prim BY=none∧tb.fns BY=some EG:=⟨rfl,rfl⟩
theorem Qy:tb.prim Dt=none∧tb.fns Dt=some Gv:=⟨rfl,rfl⟩
theorem OK:tb.prim D7=none∧tb.fns D7=some FJ:=⟨rfl,rfl⟩
theorem LH:tb.prim CG=none∧tb.fns CG=some E8:=⟨rfl,rfl⟩
theorem GY:tb.prim Bv=none∧tb.fns Bv=some C7:=⟨rfl,rfl⟩
theorem DW:tb.prim BF=none∧tb.fns BF=some CJ:=⟨rfl,rfl⟩
theorem EZ:tb.prim Cl=none∧tb.fns Cl=some DA:=⟨rfl,rfl⟩
theorem Ef:tb.prim Bp=none∧tb.fns Bp=some Fm:=⟨rfl,rfl⟩
theorem RT:tb.prim CT=none∧tb.fns CT=some Hs:=⟨rfl,rfl⟩
theorem RS:tb.prim DO=none∧tb.fns DO=some Hr:=⟨rfl,rfl⟩
theorem Tc:tb.prim EW=none∧tb.fns EW=some Ir:=⟨rfl,rfl⟩
theorem Td:tb.prim EX=none∧tb.fns EX=some Is:=⟨rfl,rfl⟩
theorem Q0:tb.prim DZ=none∧tb.fns DZ=some Gx:=⟨rfl,rfl⟩
theorem RV:tb.prim E3=none∧tb.fns E3=some Hu:=⟨rfl,rfl⟩
theorem Q2:tb.prim CD=none∧tb.fns CD=some Gz:=⟨rfl,rfl⟩
theorem Ee:tb.prim BJ=none∧tb.fns BJ=some CV:=⟨rfl,rfl⟩
theorem RR:tb.prim E2=none∧tb.fns E2=some Hq:=⟨rfl,rfl⟩
theorem U6:tb.prim F5=none∧tb.fns F5=some J7:=⟨rfl,rfl⟩
theorem RX:tb.prim E5=none∧tb.fns E5=some Hw:=⟨rfl,rfl⟩
theorem RY:tb.prim E6=none∧tb.fns E6=some Hx:=⟨rfl,rfl⟩
theorem Q1:tb.prim Ea=none∧tb.fns Ea=some Gy:=⟨rfl,rfl⟩
theorem RW:tb.prim E4=none∧tb.fns E4=some Hv:=⟨rfl,rfl⟩
theorem M9:tb.prim Db=none∧tb.fns Db=some EI:=⟨rfl,rfl⟩
end Go.Proofs.Ytapafbjgdfgodaa.Am
end
section
set_option linter.unusedVariables false
set_option maxRecDepth 100000
set_option maxHeartbeats 4000000
namespace Go.Proofs.Ytapafbjgdfgodaa.Am
open Go.Proofs
theorem KM:C8 (CE Try.prog) Try.prog Ei C9=true:=by kernel_rfl
theorem Rv:C8 (CE Try.prog) Try.prog Hn DN=true:=by kernel_rfl
theorem R1:C8 (CE Try.prog) Try.prog Ht DP=true:=by kernel_rfl
theorem N5:C8 (CE Try.prog) Try.prog Fo C5=true:=by kernel_rfl
theorem SO:C8 (CE Try.prog) Try.prog Io EU=true:=by kernel_rfl
theorem Rq:C8 (CE Try.prog) Try.prog Hj Ew=true:=by kernel_rfl
theorem N7:C8 (CE Try.prog) Try.prog Fs Cm=true:=by kernel_rfl
theorem Rt:C8 (CE Try.prog) Try.prog Hl Ey=true:=by kernel_rfl
theorem Ru:C8 (CE Try.prog) Try.prog Hm CS=true:=by kernel_rfl
theorem N6:C8 (CE Try.prog) Try.prog Fq CI=true:=by kernel_rfl
theorem Rr:C8 (CE Try.prog) Try.prog Hk DM=true:=by kernel_rfl
theorem Qp:C8 (CE Try.prog) Try.prog Gw Du=true:=by kernel_rfl
theorem N2:C8 (CE Try.prog) Try.prog Fk Di=true:=by kernel_rfl
theorem M3:C8 (CE Try.prog) Try.prog Gb D9=true:=by kernel_rfl
theorem N4:C8 (CE Try.prog) Try.prog GN CH=true:=by kernel_rfl
theorem M2:C8 (CE Try.prog) Try.prog Ga CZ=true:=by kernel_rfl
theorem GV:C8 (CE Try.prog) Try.prog C6 Bu=true:=by kernel_rfl
theorem M4:C8 (CE Try.prog) Try.prog EH Da=true:=by kernel_rfl
theorem N3:C8 (CE Try.prog) Try.prog Fl Dj=true:=by kernel_rfl
theorem OI:C8 (CE Try.prog) Try.prog FK D8=true:=by kernel_rfl
theorem VJ:C8 (CE Try.prog) Try.prog Le Ez=true:=by kernel_rfl
theorem SP:C8 (CE Try.prog) Try.prog Ip DG=true:=by kernel_rfl
theorem SN:C8 (CE Try.prog) Try.prog In Er=true:=by kernel_rfl
theorem Rw:C8 (CE Try.prog) Try.prog Ho E0=true:=by kernel_rfl
theorem Rx:C8 (CE Try.prog) Try.prog Hp E1=true:=by kernel_rfl
theorem SQ:C8 (CE Try.prog) Try.prog Iq EV=true:=by kernel_rfl
theorem M1:C8 (CE Try.prog) Try.prog EG BY=true:=by kernel_rfl
theorem Qo:C8 (CE Try.prog) Try.prog Gv Dt=true:=by kernel_rfl
theorem OH:C8 (CE Try.prog) Try.prog FJ D7=true:=by kernel_rfl
theorem LA:C8 (CE Try.prog) Try.prog E8 CG=true:=by kernel_rfl
theorem GW:C8 (CE Try.prog) Try.prog C7 Bv=true:=by kernel_rfl
theorem FW:C8 (CE Try.prog) Try.prog CJ BF=true:=by kernel_rfl
theorem HJ:C8 (CE Try.prog) Try.prog DA Cl=true:=by kernel_rfl
theorem KN:C8 (CE Try.prog) Try.prog Fm Bp=true:=by kernel_rfl
theorem R0:C8 (CE Try.prog) Try.prog Hs CT=true:=by kernel_rfl
theorem Rz:C8 (CE Try.prog) Try.prog Hr DO=true:=by kernel_rfl
theorem SS:C8 (CE Try.prog) Try.prog Ir EW=true:=by kernel_rfl
theorem ST:C8 (CE Try.prog) Try.prog Is EX=true:=by kernel_rfl
theorem Qq:C8 (CE Try.prog) Try.prog Gx DZ=true:=by kernel_rfl
theorem R2:C8 (CE Try.prog) Try.prog Hu E3=true:=by kernel_rfl
theorem Qs:C8 (CE Try.prog) Try.prog Gz CD=true:=by kernel_rfl
theorem Gq:C8 (CE Try.prog) Try.prog CV BJ=true:=by kernel_rfl
theorem Ry:C8 (CE Try.prog) Try.prog Hq E2=true:=by kernel_rfl
theorem Uy:C8 (CE Try.prog) Try.prog J7 F5=true:=by kernel_rfl
theorem R4:C8 (CE Try.prog) Try.prog Hw E5=true:=by kernel_rfl
theorem R5:C8 (CE Try.prog) Try.prog Hx E6=true:=by kernel_rfl
theorem Qr:C8 (CE Try.prog) Try.prog Gy Ea=true:=by kernel_rfl
theorem R3:C8 (CE Try.prog) Try.prog Hv E4=true:=by kernel_rfl
theorem M5:C8 (CE Try.prog) Try.prog EI Db=true:=by kernel_rfl
theorem GI:Xu Try.prog Cv=some Extern.BytealgCompare.compare:=by kernel_rfl
theorem ZG:XG (CE Try.prog) Try.prog tb:=by
 refine⟨by kernel_rfl,fun ao o h=>Uq ao o h,fun g p h=> ?_,fun g cs h=>(by cases h),fun g fn h=> ?_⟩
 ·have hm:=Nx h
  have all: ∀x∈ZD,E9 Try.prog tb fun g args h=>if g=x.1 then x.2 args h else none:=by
   simp only[ZD,List.forall_mem_cons]
   exact⟨Qc GI,fun x h=>(by cases h)⟩
  exact all _ hm
 have hm:=Nx h
 have all: ∀x∈ZF,C8 (CE Try.prog) Try.prog x.2 x.1=true:=by
  simp only[ZF,List.forall_mem_cons]
  exact⟨KM,Rv,R1,N5,SO,Rq,N7,Rt,Ru,N6,Rr,Qp,N2,M3,N4,M2,GV,M4,N3,OI,VJ,SP,SN,Rw,Rx,SQ,M1,Qo,OH,LA,GW,FW,HJ,KN,R0,Rz,SS,ST,Qq,R2,Qs,Gq,Ry,Uy,R4,R5,Qr,R3,M5,fun x h=>(by cases h)⟩
 exact all _ hm
end Go.Proofs.Ytapafbjgdfgodaa.Am
end
namespace Go.Proofs.Ytapafbjgdfgodaa.Am
theorem XI{x:Int}(h0: -9223372036854775808≤x)(h1:x<9223372036854775808):IntKind.i64.wrap x=x:=by
 simp only[IntKind.wrap,IntKind.bits,IntKind.signed];simp;omega
theorem CL{m:Nat}(h:m<9223372036854775808):IntKind.i64.wrap (m:Int)=m:=XI (by omega) (by omega)
section
variable{α:Type}
theorem Yb{l:List α}{n:Nat}(h:n≤l.length):XM (.mk l) none (some (n:Int))=some (.mk (l.take n)):=by
 simp[XM,WB,GS.l,h,S8]
theorem BG{l:List α}{n:Nat}:Gg l (n:Int)=l[n]? :=by simp[Gg]
theorem FQ{n k:Nat}(h:n<k):EM k (n:Int)=some n:=by simp[EM,h]
theorem QB{bytes:Nat}{g:GS α}{x:α}(h:(g.l.length+1)*bytes≤GH):MS bytes g [x]=some (.mk (g.l++[x])):=by
 unfold MS
 rw[if_pos (by simpa using h)]
 cases g<;>rfl
@[simp] theorem XF {l : List α} : (GS.mk l).l = l := rfl
@[simp] theorem Z7 : (GS.nil : GS α).l = [] := rfl
theorem N8{σ β:Type}{F:σ→Option (σ⊕β)}(m:σ→Nat)(I:σ→Prop)(Q:β→Prop)
  (step: ∀s,I s→(∃s',F s=some (.inl s')∧I s'∧m s'<m s)∨ ∃b,F s=some (.inr b)∧Q b): ∀{s},I s→ ∃b,iter F s=some b∧Q b:=by
 have key: ∀n s,m s<n→I s→ ∃b,iter F s=some b∧Q b:=by
  intro n
  induction n with
  |zero=>intro s h;omega
  |succ n ih=>
   intro s h hI
   rcases step s hI with ⟨s',e,hI',hm⟩|⟨b,e,hq⟩
   ·rw[DY e];exact ih s' (by omega) hI'
   ·exact⟨b,CY e,hq⟩
 intro s hI
 exact key _ s (Nat.lt_succ_self _) hI
theorem ES{σ β γ:Type}{F:σ→Option (σ⊕β)}{K:β→Option γ}{r:Option γ}{s:σ}(m:σ→Nat)(I:σ→Prop)(Q:β→Prop)(h:I s)
  (step: ∀s,I s→(∃s',F s=some (.inl s')∧I s'∧m s'<m s)∨ ∃b,F s=some (.inr b)∧Q b) (fin: ∀b,Q b→K b=r):(iter F s).bind K=r:=by
 obtain⟨b,e,hb⟩:=N8 m I Q step h
 rw[e];exact fin b hb
theorem R6{σ β:Type}{F:σ→Option (σ⊕β)}{b:β}(m:σ→Nat)(I:σ→Prop)
  (step: ∀s,I s→(∃s',F s=some (.inl s')∧I s'∧m s'<m s)∨F s=some (.inr b)) {s:σ} (h:I s):iter F s=some b:=by
 obtain⟨b',e,rfl⟩:=N8 m I (fun b'=>b'=b) (fun s hs=>(step s hs).imp_right fun e=>⟨b,e,rfl⟩) h
 exact e
end
end Go.Proofs.Ytapafbjgdfgodaa.Am
