/-
  Tests that wait for others, by cases; slices of arrays; literals of arrays; tables.
  Tests that wait inside regions whose order is drawn; tables; maps.
  Ways that meet again, each walked once: what comes behind them is told apart from them.
  strings.Builder's grow as a function that the machine takes as it is said.
  strings.Builder: room from the start.
  Variables in parts; what is cleared of a row.
  Slices of one's own cells that are handed on as they are; a slice as an array; tests that write.
  Structures, as Lean's and as types of the machine's. Printed by mkwalk.py.
  The functions: their numbers, their codes. Printed by mkwalk.py.
  strings.Builder's grow, at a builder without a buffer. Printed by mkwalk.py.
  Each code is the program's. Printed by mkwalk.py.
  What a law is given, as the machine's values: a reading is a value of the type, all of it memory that nobody writes.
-/
import Derived.Lib.MakeNoZero
import Derived.Test.YtobejhpigbllpaaGreatDoorProg
import Derived.Lib.Builder
import Derived.Lib.Walk
import Derived.WalkKit
import Derived.Laws.Externs
import Derived.Laws.IdiomCopy
import Derived.KernelRfl
import Derived.ProofKit
import Derived.Deep.Slices
import Derived.DataReads
import Derived.Test.YtobejhpigbllpaaGreatDoorX2
namespace Go.Proofs.YtobejhpigbllpaaGreatDoor.Am
theorem WA{tb:CW}{q:Bool}{g:Nat}{w:Bool}{R:List AT}: ∀{l:List AT} {f:Fr} {H:Av},get f g= .b w→g∉E0 l→AW tb (Ch tb) (rg q (l.map (gd g w)++R)) f H=AW tb (Ch tb) (rg q (l++R)) f H
 |[],_,_,_,_=>rfl
 |o::l,f,H,h,hn=>by
  have hd:o.d≠some g:=fun e=>hn (by simp[E0,e])
  have hn':g∉E0 l:=fun e=>hn (by
   simp only[E0,List.filterMap_cons]at e ⊢
   cases o.d<;>simp[e])
  have hwt:wanted f (gd g w o).g=wanted f o.g:=by
   cases ho:o.g with
   |none=>simp[gd,ho,wanted,h]
   |some p=>simp[gd,ho]
  have hoo:(gd g w o).o=o.o:=by cases ho:o.g<;>simp[gd,ho]
  have hod:(gd g w o).d=o.d:=by cases ho:o.g<;>simp[gd,ho]
  have ih: ∀v H',AW tb (Ch tb) (rg q (l.map (gd g w)++R)) (put f o.d v) H'=AW tb (Ch tb) (rg q (l++R)) (put f o.d v) H':=fun v H'=>WA (by rw[wanted_put (w:=w) hd];exact h) hn'
  cases q with
  |true=>
   have ih': ∀v H',Ia tb (Ch tb) H' (l.map (gd g w)++R) (put f o.d v)=Ia tb (Ch tb) H' (l++R) (put f o.d v):=fun v H'=>by
    have:=ih v H'
    simp only[rg,if_true,AW]at this
    cases h1:Ia tb (Ch tb) H' (l.map (gd g w)++R) (put f o.d v)<;>cases h2:Ia tb (Ch tb) H' (l++R) (put f o.d v)<;>simp_all
   simp only[rg,if_true,AW,List.map_cons,List.cons_append,Ia,hwt,hoo,hod,ih']
  |false=>
   have ih': ∀v H',ops tb (Ch tb) (l.map (gd g w)++R) (put f o.d v) H'=ops tb (Ch tb) (l++R) (put f o.d v) H':=fun v H'=>by
    have:=ih v H'
    simp only[rg,Bool.false_eq_true,if_false,AW]at this
    cases h1:ops tb (Ch tb) (l.map (gd g w)++R) (put f o.d v) H'<;>cases h2:ops tb (Ch tb) (l++R) (put f o.d v) H'<;>simp_all [Prod.ext_iff]
   simp only[rg,Bool.false_eq_true,if_false,AW,List.map_cons,List.cons_append,ops,hwt,hoo,hod,ih']
section
variable{tb:CW}{Γ:Cx}{a b:AO}{ks:List Kf}{ρ:Type}{Q:LT ρ}
def Aa.andI{q:Bool}{L l rest:List AT}{g t d:Nat}{b:Bool}(Γk:Cx)(n:Nat)(og:BB Γ.ts g=some (.val T.b b))(h:KC g true n L=some (l,⟨some d,none, .pick (.t g) (.t t) (.k (.b false))⟩::rest))(hc:VF g l Γ.ts=true)(hs: ∀z,Sub (Γk.push d (.val T.b z)) (Γ.push d (.val T.b z)))
  (k:(z:Bool)→Aa tb (Γk.push d (.val T.b z)) (rg q rest) ks Q)
  (main:((z:Bool)→Aa tb (Γk.push d (.val T.b z)) (rg q rest) ks Q)→Aa tb (Γ.push g (.val T.b true)) (rg q (l++⟨some d,none, .pick (.t g) (.t t) (.k (.b false))⟩::rest)) ks Q):Aa tb Γ (rg q L) ks Q:=
 ⟨if b=true then(main k).m else(k false).m,fun E f H ⟨rv,fp,I⟩ r hr=>by
  have hL:=GZ h
  simp only[VF,Bool.and_eq_true,Bool.not_eq_true']at hc
  obtain⟨hc1,hc2,hc3⟩:=hc
  have hg:=Gb.1 (I.temps g _ og)
  have hng:=JK hc2
  cases b with
  |true=>
   obtain⟨e,f',H',h4,h5⟩:=(main k).ok E f H ⟨rv,fp,I.le,I.base,I.wf,I.fplt,I.rvlt,I.scal,I.inj,I.slots,fun u φ e=>by
    simp only[Cx.push,BB]at e
    split at e
    ·rename_i hu;cases e;subst hu;exact Gb.2 hg
    ·exact I.temps u φ e,I.gh⟩ r (by simpa using hr)
   exact⟨e,f',H',by rw[hL,WA hg hng];exact h4,h5⟩
  |false=>
   obtain⟨f',h1,h2⟩:=PS (tb:=tb) (q:=q) (w:=true) (H:=H) hg hng hc1 (by simp)
   have hp:Bp tb (Ch tb) (eval tb f') H (.pick (.t g) (.t t) (.k (.b false)))=some (.b false,none):=by
    simp only[Bp,eval,h2 g hng,hg];rfl
   have I':Bo E Γ rv fp f' H:=I.fr fun u φ e=>h2 u (IC hc3 e)
   obtain⟨e,f2,H2,h4,h5⟩:=(k false).ok E _ H ⟨rv,fp,(WN I').sub (hs _)⟩ r (by simpa using hr)
   exact⟨e,f2,H2,by rw[hL,Ft h1,E6 hp rfl];exact h4,h5⟩⟩
theorem dG{n:Nat}{t:T}{zero:List AV}{ps:List (Nat×Nat×AO)}(z:Ar t.α n)(hz:zero=(Ay n t).zc)(h:oO tb Γ (Ay n t) ps (Ay n t).z z):Fw tb Γ (.bld zero ps) (some ()) fun _=> .val (Ay n t) z:=by
 rintro E rv fp f H R _ ⟨⟩
 exact Cy hz rfl h E rv fp f H R z rfl
theorem Nv{sz:Nat}: ∀{l:List (List AV)} {i:Nat},(∀e∈l,e.length=sz)→i≤l.length→l.flatten.take (i*sz)=(l.take i).flatten∧l.flatten.drop (i*sz)=(l.drop i).flatten
 |l,0,_,_=>by simp
 |[],i+1,_,h=>by simp at h
 |d::l,i+1,hl,h=>by
  have h1:=hl d List.mem_cons_self
  obtain⟨a,b⟩:=Nv (l:=l) (i:=i) (fun e he=>hl e (List.mem_cons_of_mem _ he)) (by simpa using h)
  have hs:(i+1)*sz=d.length+i*sz:=by rw[Nat.succ_mul];omega
  constructor
  ·rw[List.flatten_cons,hs,List.take_append,List.take_of_length_le (by omega),Nat.add_sub_cancel_left,a];simp
  ·rw[List.flatten_cons,hs,←List.drop_drop,List.drop_left' rfl,b];simp
theorem nH{sz k m:Nat}{l:List (List AV)}(hl: ∀e∈l,e.length=sz)(h:k+m≤l.length):sub l.flatten (k*sz) (m*sz)=((l.drop k).take m).flatten:=by
 simp only[sub]
 rw[(Nv hl (i:=k) (by omega)).2,(Nv (fun e he=>hl e (List.mem_of_mem_drop he)) (i:=m) (by rw[List.length_drop];omega)).1]
theorem jH{sz:Nat}{l:List (List AV)}(hl: ∀e∈l,e.length=sz):l.flatten.length=l.length*sz:=by
 induction l with
 |nil=>simp
 |cons d l ih=>
  have:=ih fun e he=>hl e (List.mem_cons_of_mem _ he)
  have:=hl d List.mem_cons_self
  simp only[List.flatten_cons,List.length_append,List.length_cons,Nat.succ_mul];omega
theorem dK{sz i:Nat}{l dss:List (List AV)}(hl: ∀e∈l,e.length=sz)(hd: ∀e∈dss,e.length=sz)(h:i+dss.length≤l.length):Bw l.flatten (i*sz) dss.flatten=(l.take i++dss++l.drop (i+dss.length)).flatten:=by
 simp only[Bw,List.flatten_append]
 rw[(Nv hl (i:=i) (by omega)).1,jH hd,←Nat.add_mul,(Nv hl (i:=i+dss.length) h).2]
def Uw(n:Nat)(t:T)(k m:Nat)(hkm:k+m≤n):AL (Ay n t) (Ay m t) (k*t.sz) where
 get:=fun x=>⟨(x.l.drop k).take m,by rw[List.length_take,List.length_drop,x.len];omega⟩
 put:=fun x y=>⟨x.l.take k++y.l++x.l.drop (k+m),by rw[List.length_append,List.length_append,List.length_take,List.length_drop,x.len,y.len];omega⟩
 le:=by
  show k*t.sz+m*t.sz≤n*t.sz
  rw[←Nat.add_mul];exact Nat.mul_le_mul_right _ hkm
 getR:=fun{P H cs x} ⟨css,e,h⟩=>by
  refine⟨(css.drop k).take m,?_,h.drop.take⟩
  have hlen:=h.length
  have hx:=x.len
  rw[e]
  exact nH h.lens (by omega)
 putR:=fun{P H cs x c y} ⟨css,e,h⟩ ⟨dss,e',h'⟩=>by
  refine⟨css.take k++dss++css.drop (k+m),?_,(h.take.app h').app h.drop⟩
  have hlen:=h.length
  have hx:=x.len
  have hlen':=h'.length
  have hy:=y.len
  rw[e,e']
  have:=dK (dss:=dss) h.lens h'.lens (i:=k) (by omega)
  rw[this,show dss.length=m by omega]
theorem dF{j off n sz:Nat}{ps:List (Nat×AK)}{lo hi:Option AO}{l h:Option Int}(hj:AG Γ.ss j=some (.cells ps))(hle:Nat.ble (off+n*sz) (U0 ps)=true)(ha:C7 tb Γ a (.cp j off))(hl:uG tb Γ lo l)(hh:uG tb Γ hi h):
  Fw tb Γ (.sla n sz a lo hi) (Tu n l h) fun p=> .oc j (off+p.1*sz) sz (p.2-p.1):=by
 intro E rv fp f H I p hp
 obtain⟨lv,id,e,hv⟩:=ha E rv fp f H I
 obtain⟨cs,h0,h2,h3⟩:=FX I hj e
 have hs:=PR.length h3
 have hle:=Nat.le_of_ble_eq_true hle
 refine⟨.ocel sz id (off+p.1*sz) (p.2-p.1),none,?_,rfl,lv,id,e,rfl⟩
 simp only[Bp,hv]
 rw[Um hl hh I,hp]
 simp only[Option.bind_some,qP,h2]
 rw[if_pos (by omega)]
 rfl
theorem Oa{j off n sz k m o' c:Nat}{ps:List (Nat×AK)}{lo hi:Option AO}{l h:Option Int}(hj:AG Γ.ss j=some (.cells ps))(hle:Nat.ble (off+n*sz) (U0 ps)=true)(ha:C7 tb Γ a (.cp j off))(hl:uG tb Γ lo l)(hh:uG tb Γ hi h)
  (hb:Tu n l h=some (k,m)) (ho:off+k*sz=o') (hc:m-k=c):Fw tb Γ (.sla n sz a lo hi) (some ()) fun _=> .oc j o' sz c:=by
 rintro E rv fp f H I _ ⟨⟩
 subst ho hc
 exact dF hj hle ha hl hh E rv fp f H I (k,m) hb
theorem tY{n:Nat}{h:Option Int}{p:Nat×Nat}(e:Tu n none h=some p):p.1=0∧p.2≤n:=by
 have h2:=(zU e).2
 unfold Tu at e
 obtain⟨u,hu,e⟩:=Option.bind_eq_some_iff.1 e
 obtain⟨l,hl,e⟩:=Option.bind_eq_some_iff.1 e
 cases hl
 cases e
 exact⟨rfl,h2⟩
theorem nE{j off n sz:Nat}{ps:List (Nat×AK)}{hi:Option AO}{h:Option Int}(hj:AG Γ.ss j=some (.cells ps))(hle:Nat.ble (off+n*sz) (U0 ps)=true)(ha:C7 tb Γ a (.cp j off))(hh:uG tb Γ hi h):
  Fw tb Γ (.sla n sz a none hi) ((Tu n none h).map fun p=>p.2) fun m=> .oc j off sz m:=by
 intro E rv fp f H I m hm
 obtain⟨p,hp,rfl⟩:=Option.map_eq_some_iff.1 hm
 have:=dF hj hle ha .none hh E rv fp f H I p hp
 simp only[(tY hp).1,Nat.zero_mul,Nat.add_zero,Nat.sub_zero]at this
 exact this
theorem yL{j off len sz n:Nat}(ha:C7 tb Γ a (.oc j off sz len))(hn:Nat.ble n len=true):Fw tb Γ (.s2a n sz a) (some ()) fun _=> .cp j off:=by
 rintro E rv fp f H I _ ⟨⟩
 obtain⟨lv,id,e,hv⟩:=ha E rv fp f H I
 have hn:=Nat.le_of_ble_eq_true hn
 exact⟨.ptr id off,none,by simp only[Bp,hv,qQ];rw[if_pos ⟨trivial,hn⟩];rfl,rfl,lv,id,e,rfl⟩
theorem h_lenC{j off len sz:Nat}(ha:C7 tb Γ a (.oc j off sz len)):Fw tb Γ (.len a) (some (len:Int)) fun n=> .val (T.int .i64) n:=by
 rintro E rv fp f H I _ ⟨⟩
 obtain⟨lv,id,e,hv⟩:=ha E rv fp f H I
 exact⟨.i .i64 len,none,by simp only[Bp,hv,P7,Option.map_some],rfl,BY.2 rfl⟩
theorem h_iasC{j off len sz:Nat}{k:IntKind}{i:Int}{ps:List (Nat×AK)}(hj:AG Γ.ss j=some (.cells ps))(hle:off+len*sz≤U0 ps)(ha:C7 tb Γ a (.oc j off sz len))(hb:C7 tb Γ b (.val (T.int k) i)):
  Fw tb Γ (.ias sz a b) (DQ len i) fun m=> .cp j (off+m*sz):=by
 intro E rv fp f H I m hm
 obtain⟨h0,rfl,h1⟩:=ZE hm
 obtain⟨lv,id,e,hv⟩:=ha E rv fp f H I
 obtain⟨cs,g0,g2,g3⟩:=FX I hj e
 have hs:=PR.length g3
 have hcl: ∀(n:Nat) (l:List AV),(BP sz n l).length=n:=by
  intro n
  induction n with
  |zero=>intro l;rfl
  |succ n ih=>intro l;simp[BP,ih]
 refine⟨.ptr id (off+i.toNat*sz),none,?_,rfl,lv,id,e,rfl⟩
 simp only[Bp,hv,BY.1 (hb E rv fp f H I),HQ,Option.bind_some,if_pos h0,UD,Eu,g2]
 rw[if_pos ⟨trivial,by omega⟩]
 simp only[Option.bind_some,hcl]
 rw[if_pos (by omega)]
 rfl
theorem I6{j off len sz:Nat}{k:IntKind}{i:Int}{ps:List (Nat×AK)}(N:Nat)(hj:AG Γ.ss j=some (.cells ps))(hN:N=U0 ps)(ha:C7 tb Γ a (.oc j off sz len))(hb:C7 tb Γ b (.val (T.int k) i)):
  Fw tb Γ (.ias sz a b) (if off+len*sz≤N then DQ len i else none) fun m=> .cp j (off+m*sz):=by
 intro E rv fp f H I m hm
 split at hm
 ·rename_i hle
  exact h_iasC hj (hN▸hle) ha hb E rv fp f H I m hm
 ·cases hm
theorem Bo.learn{E:Ph}{rv:Nat→AV}{fp:Fp}{f:Fr}{H:Av}(I:Bo E Γ rv fp f H){d:Nat}{φ:AK}(h:FR rv Γ.ss (Pf E Γ.ss fp H) H φ (get f d)):Bo E (Γ.push d φ) rv fp f H:=
 ⟨I.le,I.base,I.wf,I.fplt,I.rvlt,I.scal,I.inj,I.slots,fun t ψ e=>by
  simp only[Cx.push,BB]at e
  split at e
  ·rename_i hd;cases e;subst hd;exact h
  ·exact I.temps t ψ e,I.gh⟩
def yT{α:Type}(l:List α)(k m n:Nat):Option (GS α):=if k+m≤n then some (.mk ((l.drop k).take m))else none
theorem Bo.frzSl{E:Ph}{rv:Nat→AV}{fp:Fp}{f:Fr}{H:Av}(I:Bo E Γ rv fp f H){j N o k m n sz d:Nat}{t u:T}{x:t.α}{g:GS u.α}(F:AL t (Ay n u) o)(hsz:sz=u.sz)(hj:AG Γ.ss j=some (.cells [(N, .val t x)]))(hn:Nat.blt j cG=true)
  (hd:BB Γ.ts d=some (.oc j (o+k*sz) sz m)) (hg:yT (F.get x).l k m n=some g):Bo E ((Γ.turn j (eF t x)).push d (.val (T.sl u) g)) rv fp f H:=by
 have hlj:AZ Γ.ss j:=La hj rfl
 have hs:=I.slots j _ hj
 obtain⟨_,id,e,hv⟩:=I.temps d _ hd
 obtain⟨id',cs,h3,h0,h4,c,e',h5,h6,h7,h8⟩:=hs
 rw[e]at h3
 cases h3
 have h8':e'=[]:=h8
 subst h8'
 simp only[List.append_nil]at h5
 subst h5
 simp only[yT]at hg
 split at hg
 ·rename_i hkm
  cases hg
  have hlen:=t.len h7
  have hle:=F.le
  have J:=I.frzCell hj hn
  have hlv: ∀k,AZ (Γ.turn j (eF t x)).ss k↔k≠j∧AZ Γ.ss k:=Qk
  subst hsz
  have hk:=(h0 id).2 rfl
  have hPid:Pf E (Γ.turn j (eF t x)).ss fp H id:=Pf.gone I hlj hk (fun k lk=>(hlv k).1 lk) (I.new hlj hn id hk)
  have hr:=t.mono (G:=H) (fun i hi=>⟨Pf.same (ss':=(Γ.turn j (eF t x)).ss) (fun k l=>((hlv k).1 l).2) hi,rfl⟩) h7
  obtain⟨css,e1,e2⟩:=F.getR hr
  have hszA:(Ay n u).sz=n*u.sz:=rfl
  have hwhole:Tn u (Pf E (Γ.turn j (eF t x)).ss fp H) H (.ocel u.sz id o n) (.mk (F.get x).l):=by
   refine⟨hPid,css,?_,e2⟩
   simp only[Eu,h4,Option.bind_some]
   rw[if_pos ⟨trivial,by omega⟩]
   congr 1
   have key: ∀(k:Nat) (css:List (List AV)) (cs:List AV),css.length=k→(∀e∈css,e.length=u.sz)→cs.take (k*u.sz)=css.flatten→BP u.sz k cs=css:=by
    intro k
    induction k with
    |zero=>intro css cs h _ _;rw[List.eq_nil_of_length_eq_zero h];rfl
    |succ k ih=>
     intro css cs hk hall hc
     match css,hk with
     |y::css,hk=>
      have hy:=hall y (by simp)
      simp only[BP]
      simp only[List.flatten_cons]at hc
      have hA:cs.take u.sz=y:=by
       have:=congrArg (List.take u.sz) hc
       rw[List.take_take,Nat.min_eq_left (by rw[Nat.succ_mul];omega),List.take_left' hy]at this
       exact this
      have hB:(cs.drop u.sz).take (k*u.sz)=css.flatten:=by
       have:=congrArg (List.drop u.sz) hc
       rw[List.drop_left' hy,List.drop_take,Nat.succ_mul,Nat.add_sub_cancel]at this
       exact this
      rw[hA,ih css (cs.drop u.sz) (by simpa using hk) (fun e he=>hall e (by simp[he])) hB]
   exact key n css (cs.drop o) (by rw[e2.length];exact(F.get x).len) e2.lens (by rw[←e1];rfl)
  have hlenx:(F.get x).l.length=n:=(F.get x).len
  obtain⟨w,h9,h10⟩:=hwhole.resl (c:=k) (d:=k+m) (by omega) (by simp only[GS.l];omega)
  have hw:Am.resl H u.sz (.ocel u.sz id o n) k (k+m)=some (.ocel u.sz id (o+k*u.sz) m):=by simp[Am.resl]
  rw[hw]at h9
  cases h9
  refine J.learn ?_
  rw[hv]
  have:TJ (GS.mk (F.get x).l) k (k+m)= .mk (((F.get x).l.drop k).take m):=by simp[TJ,List.drop_take]
  rw[this]at h10
  exact JU.2 h10
 ·cases hg
def Aa.frzSl{c:AC}{j N o k m n sz:Nat}(d:Nat){t u:T}{x:t.α}(F:AL t (Ay n u) o)(hsz:sz=u.sz)(hj:AG Γ.ss j=some (.cells [(N, .val t x)]))(hn:Nat.blt j cG=true)
  (hd:BB Γ.ts d=some (.oc j (o+k*sz) sz m)) (s:(g:GS u.α)→Aa tb ((Γ.turn j (eF t x)).push d (.val (T.sl u) g)) c ks Q):Aa tb Γ c ks Q:=
 ⟨(yT (F.get x).l k m n).bind fun g=>(s g).m,fun E f H ⟨rv,fp,I⟩ r hr=>by
  obtain⟨g,hg,hr⟩:=Option.bind_eq_some_iff.1 hr
  exact(s g).ok E f H ⟨rv,fp,I.frzSl F hsz hj hn hd hg⟩ r hr⟩
def cpyA{α:Type}{n:Nat}(x:Ar α n)(k m:Nat)(ys:List α):Option (Ar α n):=
 if h:k+m≤n then some ⟨x.l.take k++ys.take m++x.l.drop (k+min ys.length m),by
  rw[List.length_append,List.length_append,List.length_take,List.length_take,List.length_drop,x.len];omega⟩else none
theorem Bo.cpy{E:Ph}{rv:Nat→AV}{fp:Fp}{f:Fr}{H:Av}(I:Bo E Γ rv fp f H){s t:T}{x:s.α}{n j o o' k sz m N:Nat}{ps:List (Nat×AK)}{ys:List t.α}{z:Ar t.α n}(F:AL s (Ay n t) o')(hk:sz=t.sz)
  (ha:C7 tb Γ a (.oc j (o+k*sz) sz m)) (hb:Aa9 tb Γ b t ys) (hj:AG Γ.ss j=some (.cells ps)) (hp:Jm ps o=some (N, .val s x,o')) (hz:cpyA (F.get x) k m ys=some z):
  ∃v H',Bp tb (Ch tb) (eval tb f) H (.cpy sz a b)=some (v,some H')∧v= .i .i64 ((min ys.length m:Nat):Int)∧ ∃rv' fp',Bo E (Γ.setS j (.cells (Vm ps o (.val s (F.put x z))))) rv' fp' f H':=by
 subst hk
 simp only[cpyA]at hz
 split at hz
 ·rename_i hkm
  cases hz
  obtain⟨l,id,e,hv⟩:=ha E rv fp f H I
  obtain⟨cs,h0,h2,h3⟩:=FX I hj e
  obtain⟨b',c,e0,e1,e2,e3,e4,e5,e6⟩:=FA h3 hp
  obtain⟨els,g1,g2⟩:=hb E rv fp f H I
  have hel:=g2.length
  have hlens:=(g2.take (n:=m)).lens
  have htl:(els.take m).length=min ys.length m:=by rw[List.length_take,hel,Nat.min_comm]
  have hfl:=jH hlens
  rw[htl]at hfl
  let G:=J0 F (Uw n t k (min ys.length m) (by omega))
  have hle:=G.le
  have hszA:(Ay (min ys.length m) t).sz=min ys.length m*t.sz:=rfl
  have hl:=s.len e4
  have hy:(Ay (min ys.length m) t).R (Pf E Γ.ss fp H) H (els.take m).flatten ⟨ys.take m,by rw[List.length_take,Nat.min_comm]⟩:=⟨els.take m,rfl,g2.take⟩
  have hput:=G.putR e4 hy
  have hpr:=e6 (o'+k*t.sz) (els.take m).flatten (.val s (G.put x ⟨ys.take m,by rw[List.length_take,Nat.min_comm]⟩)) (by rw[hfl];omega) hput
  rw[show b'+(o'+k*t.sz)=o+k*t.sz by omega]at hpr
  have hmen:=PR.men I.ltP I.rvlt h3
  have hym:=(Ay (min ys.length m) t).men hy I.ltP
  have hlt':=(I.fplt j id l ((h0 id).2 rfl)).1
  have hx:G.put x ⟨ys.take m,by rw[List.length_take,Nat.min_comm]⟩=F.put x ⟨(F.get x).l.take k++ys.take m++(F.get x).l.drop (k+min ys.length m),by
    rw[List.length_append,List.length_append,List.length_take,List.length_take,List.length_drop,(F.get x).len];omega⟩:=rfl
  rw[hx]at hpr
  obtain⟨rv',fp',_,_,R'⟩:=I.set (j:=j) (S:= .cells (Vm ps o (.val s (F.put x ⟨(F.get x).l.take k++ys.take m++(F.get x).l.drop (k+min ys.length m),by
    rw[List.length_append,List.length_append,List.length_take,List.length_take,List.length_drop,(F.get x).len];omega⟩)))) (v:=rv j) (o:= .cells (Ek H id) (Bw cs (o+k*t.sz) (els.take m).flatten)) (by rw[hj];rfl) l h0 (by simp only[Ej];exact NP hmen hym) rfl (I.rvlt j l) (.inl rfl) (I.scal j l) fun rv' fp' e1 e2 hP hs=>
   ⟨id,_,by rw[e1,e],e2,by simp[BX,hlt'],PR.mono hP (by simp) (fun p _=>hs p.2 (.inl rfl)) hpr⟩
  refine⟨_,H.set id (BF.cells (Ek H id) (Bw cs (o+k*t.sz) (els.take m).flatten)),?_,rfl,rv',fp',R'⟩
  have hmn:min els.length m=min ys.length m:=by rw[hel]
  have hbnd:o+k*t.sz+m*t.sz≤cs.length:=by
   have hF:=F.le
   have hszF:(Ay n t).sz=n*t.sz:=rfl
   have:(k+m)*t.sz≤n*t.sz:=Nat.mul_le_mul_right _ hkm
   rw[Nat.add_mul]at this
   omega
  simp only[Bp,g1,Option.bind_some,hv,eD,h2]
  rw[if_pos ⟨trivial,hbnd⟩,hmn]
  have hte:els.take (min ys.length m)=els.take m:=by
   rw[←hmn]
   rcases Nat.le_total els.length m with h|h
   ·rw[Nat.min_eq_left h,List.take_of_length_le (Nat.le_refl _),List.take_of_length_le h]
   ·rw[Nat.min_eq_right h]
  rw[hte,Bw,hfl]
 ·cases hz
theorem M_cpyD{s t:T}{x:s.α}{n j o o' k sz m N d:Nat}{ps:List (Nat×AK)}{ys:List t.α}(F:AL s (Ay n t) o')(hk:sz=t.sz)
  (ha:C7 tb Γ a (.oc j (o+k*sz) sz m)) (hb:Aa9 tb Γ b t ys) (hj:AG Γ.ss j=some (.cells ps)) (hp:Jm ps o=some (N, .val s x,o')):
  Wd tb Γ (some d) (.cpy sz a b) (cpyA (F.get x) k m ys) fun z=>(Γ.setS j (.cells (Vm ps o (.val s (F.put x z))))).push d (.val (T.int .i64) ((min ys.length m:Nat):Int)):=fun E rv fp f H I z hz=>by
 obtain⟨v,H',h1,rfl,rv',fp',h2⟩:=I.cpy F hk ha hb hj hp hz
 exact⟨_,some H',h1,rv',fp',h2.push (BY.2 rfl)⟩
def lX:AK→Bool
 | .own _=>true
 | .rp _ _=>true
 | .cp _ _=>true
 | .ep _ _ _=>true
 | .con _=>true
 | .fnv _ _ _=>true
 | .val t _=> !t.agg
 |_=>false
theorem sF{φ:AK}(h:lX φ=true){E:Ph}{rv:Nat→AV}{fp:Fp}{f:Fr}{H:Av}(R:Bo E Γ rv fp f H)(hs:szF Γ.ss φ=some 1){v:AV}(r:FR rv Γ.ss (Pf E Γ.ss fp H) H φ v):
  cellsOf v=[v]∧B7 v≤H.length∧ ∀rv ss P H,FC rv ss P H φ [v]↔FR rv ss P H φ v:=by
 obtain⟨g1,g2⟩:=RL R hs r
 have ha:Aa2 φ=false:=by cases φ<;>first|rfl|(simp only[lX,Bool.false_eq_true]at h;done)|(simp only[lX,Bool.not_eq_true']at h;exact h)
 rw[ha]at g2
 refine⟨?_,FR.men R.ltP R.rvlt (by rintro rfl;cases h) r,fun rv ss P H=> ?_⟩
 ·match hc:cellsOf v,g1 with
  |[w],_=>
   rw[hc]at g2
   simp only[Ho,Option.some.injEq]at g2
   rw[g2]
 ·cases φ<;>first
   |(simp only[lX,Bool.false_eq_true]at h;done)
   |exact⟨fun⟨w,e,r⟩=>by cases e;exact r,fun r=>⟨v,rfl,r⟩⟩
   |exact⟨fun r=> .inr ⟨by simpa [lX]using h,r⟩,fun r=>r.elim (fun⟨e,_⟩=>by simp[lX,e]at h) (fun e=>e.2)⟩
theorem Ct{d t0:Nat}{z:List AV}(j:Nat)(ps:List (Nat×AK))(hz: ∀rv ss P H,PR rv ss P H ps z)(hm:Bg z=0)(hj:AG Γ.ss j=none):Wd tb Γ (some d) (.alloc t0 z) (some ()) fun _=>⟨(d, .cp j 0)::Γ.ts,(j, .cells ps)::Γ.ss⟩:=by
 intro E rv fp f H R _ hz0
 obtain⟨rv',fp',h1,h2,h3⟩:=R.more (j:=j) (S:= .cells ps) (v:= .ptr H.length 0) (o:= .cells (some t0) z) (Hy hj) (by simp only[Ej];omega) rfl (by simp[B7]) rfl fun rv' fp' e1 e2 hP hs=>
  ⟨_,z,e1,e2,by simp[BX],hz _ _ _ _⟩
 exact⟨_,_,rfl,rv',fp',h3.push (φ:= .cp j 0) ⟨h2,_,h1,rfl⟩⟩
theorem h_cvcI{I:IT}{x:I.t.α}(ha:C7 tb Γ a (.val I.t x)):Fw tb Γ (.cvc a) (some (Utf8.encode (I.toI x)).data.toList) fun z=> .val Ax z:=by
 rintro E rv fp f H R z ⟨⟩
 exact⟨_,none,by simp only[Bp,I.V.1 (ha E rv fp f H R)],rfl,E8.2 rfl⟩
end
section
variable{tb:CW}{Γ:Cx}{a b:AO}
def Z6(ss:Ss):List Nat→Bool
 |[]=>true
 |j::r=>(match AG ss j with
  |some (.keep φ)=>lX φ&&(match szF ss φ with|some 1=>true|_=>false)
  |_=>false)&&Z6 ss r
theorem Ry{E:Ph}{rv:Nat→AV}{fp:Fp}{f:Fr}{H:Av}(R:Bo E Γ rv fp f H): ∀{js:List Nat},Z6 Γ.ss js=true→(js.flatMap fun j=>cellsOf (rv j))=js.map rv∧Np Γ.ss js∧ ∀j∈js,B7 (rv j)≤H.length
 |[],_=>⟨rfl,fun _ hj=>absurd hj (by simp),fun _ hj=>absurd hj (by simp)⟩
 |j::r,h=>by
  simp only[Z6,Bool.and_eq_true]at h
  obtain⟨h1,h2⟩:=h
  obtain⟨g1,g2,g3⟩:=Ry R h2
  split at h1
  ·rename_i φ e
   simp only[Bool.and_eq_true]at h1
   have hs:szF Γ.ss φ=some 1:=by
    have:=h1.2
    split at this
    ·assumption
    ·cases this
   obtain⟨k1,k2,_⟩:=sF h1.1 R hs (R.slots j _ e).1
   refine⟨by simp only[List.flatMap_cons,List.map_cons,k1,g1];rfl,fun k hk=> ?_,fun k hk=> ?_⟩
   ·rcases List.mem_cons.1 hk with rfl|hk
    ·rw[e];rfl
    ·exact g2 k hk
   ·rcases List.mem_cons.1 hk with rfl|hk
    ·exact k2
    ·exact g3 k hk
  ·cases h1
def kvs(js:List Nat):List (Nat×AK):=js.map fun k=>(1, .kv k)
theorem yA{rv:Nat→AV}{ss:Ss}{P:Nat→Prop}{H:Av}: ∀{js:List Nat},Np ss js→PR rv ss P H (kvs js) (js.map rv)
 |[],_=>rfl
 |j::r,h=>⟨[rv j],r.map rv,rfl,rfl,⟨rv j,rfl,fun k hk=>by rw[List.mem_singleton.1 hk];exact h j (by simp),rfl⟩,yA fun k hk=>h k (by simp[hk])⟩
theorem Aa8{rv:Nat→AV}{ss:Ss}{P:Nat→Prop}{H:Av}: ∀{js:List Nat} {cs:List AV},PR rv ss P H (kvs js) cs→cs=js.map rv
 |[],cs,h=>h
 |j::r,cs,⟨c,d,e,_,⟨v,hc,_,hv⟩,g⟩=>by rw[e,hc,Aa8 g,hv];rfl
theorem Dy{js:List Nat}{j n:Nat}{ps:List (Nat×AK)}(ha:C7 tb Γ a (.cp j 0))(hb:C7 tb Γ b (.aggk js))(ho:Z6 Γ.ss js=true)(hj:AG Γ.ss j=some (.cells ps))(hn:n=js.length)(hs:n=U0 ps):
  Wd tb Γ none (.st n a b) (some ()) fun _=>Γ.setS j (.cells (kvs js)):=by
 rintro E rv fp f H R z ⟨⟩
 obtain⟨l,id,e,hv⟩:=ha E rv fp f H R
 obtain⟨cs,h0,h2,h3⟩:=FX R hj e
 obtain⟨g1,g2,g3⟩:=Ry R ho
 have hbv:=(hb E rv fp f H R).2
 rw[g1]at hbv
 have hlen:=PR.length h3
 have hlt:=(R.fplt j id l ((h0 id).2 rfl)).1
 have hm:Bg (js.map rv)≤H.length:=by
  have key: ∀l:List Nat,(∀j∈l,B7 (rv j)≤H.length)→Bg (l.map rv)≤H.length:=by
   intro l
   induction l with
   |nil=>intro _;simp[Bg]
   |cons x l ih=>intro h;simp only[List.map_cons,Bg];have:=h x (by simp);have:=ih fun j hj=>h j (by simp[hj]);omega
  exact key js g3
 obtain⟨rv',fp',_,_,R'⟩:=R.set (j:=j) (S:= .cells (kvs js)) (v:=rv j) (o:= .cells (Ek H id) (js.map rv)) (by rw[hj];rfl) l h0 (by simp only[Ej];exact hm) rfl (R.rvlt j l) (.inl rfl) (R.scal j l) fun rv' fp' e1 e2 hP hs=>
  ⟨id,_,by rw[e1,e],e2,by simp[BX,hlt],PR.mono hP (by simp) (fun p _=>hs p.2 (.inl rfl)) (yA (rv:=rv) g2)⟩
 have hsp:Bw cs 0 (js.map rv)=js.map rv:=by
  simp only[Bw,List.take_zero,List.nil_append,Nat.zero_add]
  rw[List.drop_eq_nil_of_le (by rw[List.length_map];omega),List.append_nil]
 refine⟨.junk,some (H.set id (BF.cells (Ek H id) (js.map rv))),?_,rv',fp',R'⟩
 simp only[Bp,hv,store,h2,Option.bind_some,hbv,cellsOf]
 rw[if_pos ⟨by rw[List.length_map,hn],by omega⟩,hsp]
 rfl
theorem h_ldKs{js:List Nat}{j n:Nat}(ha:C7 tb Γ a (.cp j 0))(ho:Z6 Γ.ss js=true)(hj:AG Γ.ss j=some (.cells (kvs js)))(hn:n=js.length):Fw tb Γ (.ld true n a) (some ()) fun _=> .aggk js:=by
 rintro E rv fp f H R z ⟨⟩
 obtain⟨l,id,e,hv⟩:=ha E rv fp f H R
 obtain⟨cs,h0,h2,h3⟩:=FX R hj e
 obtain⟨g1,g2,g3⟩:=Ry R ho
 have hcs:=Aa8 h3
 subst hcs
 have hsub:sub (js.map rv) 0 n=js.map rv:=by
  simp only[sub,List.drop_zero];exact List.take_of_length_le (by rw[List.length_map];omega)
 refine⟨.agg (js.map rv),none,?_,rfl,g2,by rw[g1]⟩
 simp only[Bp,hv,Am.load,place,h2,Option.map_some,Option.bind_some]
 rw[if_pos (by rw[List.length_map];omega),hsub]
 rfl
theorem DX{js:List Nat}{j n m:Nat}(h:BB Γ.ts n=some (.cp j 0))(ho:Z6 Γ.ss js=true)(hj:AG Γ.ss j=some (.cells (kvs js)))(hm:m=js.length):ResG Γ (.cell true m n) (.aggk js):=by
 intro E rv fp f H R r vs hr
 obtain⟨v,u,h1,_,h3⟩:=h_ldKs (tb:=⟨fun _=>none,fun _=>none,fun _=>none⟩) (Ae h) ho hj hm E rv fp f H R () rfl
 simp only[Bp,eval,val]at h1
 obtain⟨w,hw,e⟩:=Option.map_eq_some_iff.1 h1
 cases e
 exact⟨v,by simp only[results,hw,Option.bind_some,hr,Option.map_some],h3⟩
end
def HH{t:T}{l:List CK}(p:CT t l)(x y:t.α):Bool:= @decide (x=y) (p.d x y)
theorem K9{t:T}{l:List CK}{p:CT t l}{x y:t.α}(h:x=y):HH p x y=true:= @decide_eq_true _ (p.d x y) h
theorem VZ{t:T}{l:List CK}{p:CT t l}{x y:t.α}(h: ¬x=y):HH p x y=false:= @decide_eq_false _ (p.d x y) h
open Classical in
noncomputable def ZK{β:Type}(g:Nat→Option β):Option β:=if h: ∃n,(g n).isSome=true then g (Classical.choose h)else none
theorem jD{β:Type}{g:Nat→Option β}{b:β}(h: ∀n,g n=none∨g n=some b){m:Nat}(hm:g m=some b):ZK g=some b:=by
 have hx: ∃n,(g n).isSome=true:=⟨m,by rw[hm];rfl⟩
 unfold ZK
 rw[dif_pos hx]
 rcases h (Classical.choose hx)with e|e
 ·have:=Classical.choose_spec hx
  rw[e]at this;cases this
 ·exact e
theorem Yc{tb:CW}{g:Nat}{As Rs:List T}:Spec tb g As Rs fun _=>none:=fun _ _ _ _ _ _ _ _ h=>by cases h
theorem aH{tb:CW}{g:Nat}{As Rs:List T}{G:Nat→BS As→Option (BS Rs)}(h: ∀n,Spec tb g As Rs (G n)):Spec tb g As Rs fun a=>ZK fun n=>G n a:=by
 intro P hp args xs h1 h2 h3 r hr
 simp only[ZK]at hr
 by_cases e: ∃n,(G n xs).isSome=true
 ·rw[dif_pos e]at hr
  exact h _ P hp args xs h1 h2 h3 r hr
 ·rw[dif_neg e]at hr
  cases hr
end Go.Proofs.YtobejhpigbllpaaGreatDoor.Am
namespace Go.Proofs.YtobejhpigbllpaaGreatDoor.Am
section
variable{tb:CW}{cl:Nat→List AV→Av→KB}{N:Nat}
theorem sD{d:Option Nat}{g g':Option (Nat×Bool)}{o:HN}{l l':List AT}{p:Fr×Av}: ∀{k:Nat} {ms:List VN} {es:List uI} {w:List (Option (Nat×Nat))} {f:Fr} {h:Av},wanted f g'=wanted f g→
  (∀k ms es w v h,Gq tb cl N k ms es l w (put f d v) h p→Gq tb cl N k ms es l' w (put f d v) h p)→Gq tb cl N k ms es (⟨d,g,o⟩::l) w f h p→Gq tb cl N k ms es (⟨d,g',o⟩::l') w f h p
 |k,ms,es,[],f,h,hw,ih,e=>by simp[Gq]at e
 |k,ms,es,none::w,f,h,hw,ih,e=>by
  simp only[Gq]at e ⊢
  rw[hw]
  rcases e with ⟨h0,q,es',h1,h2,h3,h4,e⟩|⟨h0,h1,e⟩
  ·exact .inl ⟨h0,q,es',h1,h2,h3,h4,ih _ _ _ _ _ _ e⟩
  ·exact .inr ⟨h0,h1,ih _ _ _ _ _ _ e⟩
 |k,ms,es,some (lo,hi)::w,f,h,hw,ih,e=>by
  simp only[Gq]at e ⊢
  rw[hw]
  rcases e with ⟨h0,q,h1,h2,h3,⟨h4,e⟩|⟨h4,h5,e⟩⟩|⟨h0,h1,e⟩
  ·exact .inl ⟨h0,q,h1,h2,h3, .inl ⟨h4,ih _ _ _ _ _ _ e⟩⟩
  ·exact .inl ⟨h0,q,h1,h2,h3, .inr ⟨h4,h5,ih _ _ _ _ _ _ e⟩⟩
  ·exact .inr ⟨h0,h1,ih _ _ _ _ _ _ e⟩
theorem VU{p:Fr×Av}: ∀{l:List AT} {k:Nat} {ms:List VN} {es es2:List uI} {w:List (Option (Nat×Nat))} {f:Fr} {h:Av},(∀e∈es,e∈es2)→Gq tb cl N k ms es l w f h p→Gq tb cl N k ms es2 l w f h p
 |[],k,ms,es,es2,w,f,h,hs,e=>by cases w<;>exact e
 |⟨d,g,o⟩::l,k,ms,es,es2,[],f,h,hs,e=>by simp[Gq]at e
 |⟨d,g,o⟩::l,k,ms,es,es2,none::w,f,h,hs,e=>by
  simp only[Gq]at e ⊢
  rcases e with ⟨h0,q,es',h1,h2,h3,h4,e⟩|⟨h0,h1,e⟩
  ·exact .inl ⟨h0,q,es',h1,h2,h3,fun x hx=>⟨(h4 x hx).1.imp (hs x) id,(h4 x hx).2⟩,e⟩
  ·exact .inr ⟨h0,h1,e⟩
 |⟨d,g,o⟩::l,k,ms,es,es2,some (lo,hi)::w,f,h,hs,e=>by
  simp only[Gq]at e ⊢
  rcases e with ⟨h0,q,h1,h2,h3,⟨h4,e⟩|⟨h4,⟨x,hx,h5⟩,e⟩⟩|⟨h0,h1,e⟩
  ·exact .inl ⟨h0,q,h1,h2,h3, .inl ⟨h4,VU hs e⟩⟩
  ·exact .inl ⟨h0,q,h1,h2,h3, .inr ⟨h4,⟨x,hs x hx,h5⟩,VU hs e⟩⟩
  ·exact .inr ⟨h0,h1,VU hs e⟩
theorem pZ{g:Nat}{b:Bool}{R:List AT}{p:Fr×Av}: ∀{l:List AT} {k:Nat} {ms:List VN} {es:List uI} {w:List (Option (Nat×Nat))} {f:Fr} {h:Av},get f g= .b b→g∉E0 l→
  Gq tb cl N k ms es (l++R) w f h p→Gq tb cl N k ms es (l.map (gd g b)++R) w f h p
 |[],_,_,_,_,_,_,_,_,e=>e
 |o::l,k,ms,es,w,f,h,hg,hn,e=>by
  have hd:o.d≠some g:=fun e=>hn (by simp[E0,e])
  have hn':g∉E0 l:=fun e=>hn (by
   simp only[E0,List.filterMap_cons]at e ⊢
   cases o.d<;>simp[e])
  have hwt:wanted f (gd g b o).g=wanted f o.g:=by
   cases ho:o.g with
   |none=>simp[gd,ho,wanted,hg]
   |some p=>simp[gd,ho]
  have hoo:gd g b o=⟨o.d,(gd g b o).g,o.o⟩:=by
   obtain⟨d,og,oo⟩:=o
   cases og<;>rfl
  rw[List.map_cons,List.cons_append,hoo]
  rw[List.cons_append]at e
  exact sD hwt (fun k ms es w v h e=>pZ (by rw[wanted_put (w:=b) hd];exact hg) hn' e) e
def Pm:Nat→List (Option (Nat×Nat))→Option (Nat×List (Option (Nat×Nat)))
 |0,w=>some (0,w)
 |n+1,none::w=>(Pm n w).map fun p=>(p.1+1,p.2)
 |n+1,some _::w=>Pm n w
 |_+1,[]=>none
theorem T4{g:Nat}{b:Bool}{R:List AT}: ∀{l:List AT} {seen:List Nat} {k m:Nat} {w w2:List (Option (Nat×Nat))} {f:Fr} {H:Av},get f g= .b (!b)→g∉E0 l→Zs seen l=true→(∀t∈seen,get f t= .tup [])→
  Pm l.length w=some (m,w2)→ ∃f',(∀u,u∉E0 l→get f' u=get f u)∧ ∀p,Gq tb cl N (k+m) [] [] R w2 f' H p→Gq tb cl N k [] [] (l.map (gd g b)++R) w f H p
 |[],seen,k,m,w,w2,f,H,_,_,_,_,e=>by
  simp only[List.length_nil,Pm,Option.some.injEq,Prod.mk.injEq]at e
  obtain⟨rfl,rfl⟩:=e
  exact⟨f,fun _ _=>rfl,fun p h=>h⟩
 |o::l,seen,k,m,w,w2,f,H,h,hn,hs,hseen,e=>by
  have hd:o.d≠some g:=fun e=>hn (by simp[E0,e])
  have hn':g∉E0 l:=fun e=>hn (by
   simp only[E0,List.filterMap_cons]at e ⊢
   cases o.d<;>simp[e])
  simp only[Zs,Bool.and_eq_true]at hs
  have hwt:wanted f (gd g b o).g=some false:=by
   cases ho:o.g with
   |none=>simp[gd,ho,wanted,h]
   |some p=>
    obtain⟨t,b⟩:=p
    simp only[gd,ho,wanted]
    have:=hs.1
    rw[ho]at this
    obtain⟨x,hx,hb⟩:=List.any_eq_true.1 this
    have hb:=Nat.eq_of_beq_eq_true hb
    subst hb
    rw[hseen _ hx]
  have hoo:gd g b o=⟨o.d,(gd g b o).g,o.o⟩:=by
   obtain⟨d,og,oo⟩:=o
   cases og<;>rfl
  have h1:get (put f o.d (.tup [])) g= .b (!b):=by rw[wanted_put (w:=b) hd];exact h
  have h2: ∀t∈(match o.d with|some d=>d::seen|none=>seen),get (put f o.d (.tup [])) t= .tup []:=fun t ht=>by
   cases hdd:o.d with
   |none=>rw[hdd]at ht;exact hseen t ht
   |some d=>
    rw[hdd]at ht
    simp only[put,get]
    by_cases e:d=t
    ·rw[if_pos e]
    ·rw[if_neg e]
     rcases List.mem_cons.1 ht with e'|ht
     ·exact absurd e'.symm e
     ·exact hseen t ht
  have hu: ∀f':Fr,(∀u,u∉E0 l→get f' u=get (put f o.d (.tup [])) u)→ ∀u,u∉E0 (o::l)→get f' u=get f u:=fun f' h3 u hu=>by
   have hu':u∉E0 l:=fun e=>hu (by
    simp only[E0,List.filterMap_cons]at e ⊢
    cases o.d<;>simp[e])
   rw[h3 u hu']
   exact wanted_put (w:=b) fun e=>hu (by simp[E0,e])
  cases w with
  |nil=>simp[Pm]at e
  |cons x w=>
   cases x with
   |none=>
    simp only[List.length_cons,Pm]at e
    obtain⟨q,hq,e⟩:=Option.map_eq_some_iff.1 e
    obtain⟨f',h3,h4⟩:=T4 (k:=k+1) (m:=q.1) (w2:=q.2) (H:=H) (R:=R) h1 hn' hs.2 h2 hq
    simp only[Prod.mk.injEq]at e
    obtain⟨rfl,rfl⟩:=e
    refine⟨f',hu f' h3,fun p hp=> ?_⟩
    rw[List.map_cons,List.cons_append,hoo]
    exact .inr ⟨hwt,rfl,h4 p (by rw[Nat.add_assoc,Nat.add_comm 1];exact hp)⟩
   |some y=>
    simp only[List.length_cons,Pm]at e
    obtain⟨f',h3,h4⟩:=T4 (k:=k) (H:=H) (R:=R) h1 hn' hs.2 h2 e
    refine⟨f',hu f' h3,fun p hp=> ?_⟩
    rw[List.map_cons,List.cons_append,hoo]
    exact .inr ⟨hwt,rfl,h4 p hp⟩
end
section
variable{tb:CW}{Γ:Cx}{a b:AO}{ks:List Kf}{ρ:Type}{Q:LT ρ}
theorem Bo.sure{E:Ph}{rv:Nat→AV}{fp:Fp}{f:Fr}{H:Av}(I:Bo E Γ rv fp f H){g:Nat}{b:Bool}(hg:get f g= .b b):Bo E (Γ.push g (.val T.b b)) rv fp f H:=
 ⟨I.le,I.base,I.wf,I.fplt,I.rvlt,I.scal,I.inj,I.slots,fun u φ e=>by
  simp only[Cx.push,BB]at e
  split at e
  ·rename_i hu;cases e;subst hu;exact Gb.2 hg
  ·exact I.temps u φ e,I.gh⟩
def N4{L l rest:List AT}{g t d:Nat}{b:Bool}{w w2:List (Option (Nat×Nat))}{y:Nat×Nat}{N k m:Nat}(Γk:Cx)(n:Nat)(og:BB Γ.ts g=some (.val T.b b))(h:KC g true n L=some (l,⟨some d,none, .pick (.t g) (.t t) (.k (.b false))⟩::rest))(hc:VF g l Γ.ts=true)(hs: ∀z,Sub (Γk.push d (.val T.b z)) (Γ.push d (.val T.b z)))
  (hw:Pm l.length w=some (m,some y::w2)) (hq:YY N (k+m) [] [] y (some d) (.pick (.t g) (.t t) (.k (.b false)))=true)
  (kk:(z:Bool)→A9 tb (Γk.push d (.val T.b z)) N (k+m) [] [] rest w2 ks Q)
  (main:((z:Bool)→A9 tb (Γk.push d (.val T.b z)) N (k+m) [] [] rest w2 ks Q)→A9 tb (Γ.push g (.val T.b true)) N k [] [] (l++⟨some d,none, .pick (.t g) (.t t) (.k (.b false))⟩::rest) w ks Q):A9 tb Γ N k [] [] L w ks Q:=
 ⟨if b=true then(main kk).m else(kk false).m,fun E f H ⟨rv,fp,I⟩ ms hms es hes r hr=>by
  cases hms;cases hes
  have hL:=GZ h
  simp only[VF,Bool.and_eq_true,Bool.not_eq_true']at hc
  obtain⟨hc1,hc2,hc3⟩:=hc
  have hg:=Gb.1 (I.temps g _ og)
  have hng:=JK hc2
  cases b with
  |true=>
   obtain⟨p,e,f',H',h4,h5⟩:=(main kk).ok E f H ⟨rv,fp,I.sure hg⟩ [] .nil [] .nil r (by simpa using hr)
   exact⟨p,e,f',H',by rw[hL];exact pZ hg hng h4,h5⟩
  |false=>
   obtain⟨f',h1,h2⟩:=T4 (tb:=tb) (cl:=Ch tb) (N:=N) (b:=true) (H:=H) (k:=k) (R:=⟨some d,none, .pick (.t g) (.t t) (.k (.b false))⟩::rest) hg hng hc1 (by simp) hw
   have hp:Bp tb (Ch tb) (eval tb f') H (.pick (.t g) (.t t) (.k (.b false)))=some (.b false,none):=by
    simp only[Bp,eval,h1 g hng,hg];rfl
   have I':Bo E Γ rv fp f' H:=I.fr fun u φ e=>h1 u (IC hc3 e)
   obtain⟨p,e,f2,H2,h4,h5⟩:=(kk false).ok E _ H ⟨rv,fp,(WN I').sub (hs _)⟩ [] .nil [] .nil r (by simpa using hr)
   exact⟨p,e,f2,H2,by rw[hL];exact h2 p (uR hq .nil hp rfl h4),h5⟩⟩
def LN{Γ0:Cx}{rest:List AT}{g d:Nat}{x b:Bool}{y z:AO}{w:List (Option (Nat×Nat))}{q:Nat×Nat}{N k:Nat}(og:BB Γ.ts g=some (.val T.b b))(ht:C7 tb Γ (bif b then y else z) (.val T.b x))(hs:Sub (Γ0.push d (.val T.b x)) (Γ.push d (.val T.b x)))
  (hq:YY N k [] [] q (some d) (.pick (.t g) y z)=true) (kk:(z:Bool)→A9 tb (Γ0.push d (.val T.b z)) N k [] [] rest w ks Q) {C:List Cb}:A9 tb Γ N k [] C (⟨some d,none, .pick (.t g) y z⟩::rest) (some q::w) ks Q:=
 ⟨(kk x).m,fun E f H ⟨rv,fp,I⟩ ms hms es hes r hr=>by
  cases hms
  have hg:=Gb.1 (I.temps g _ og)
  have hp:Bp tb (Ch tb) (eval tb f) H (.pick (.t g) y z)=some (.b x,none):=by
   have hv:=Gb.1 (ht E rv fp f H I)
   simp only[Bp,eval,hg]
   cases b<;>exact congrArg (fun v=>some (v,none)) hv
  obtain⟨p,e,f2,H2,h4,h5⟩:=(kk x).ok E _ H ⟨rv,fp,(WN I).sub hs⟩ [] .nil [] .nil r hr
  exact⟨p,e,f2,H2,VU (es:=[]) (fun _ hx=>absurd hx (by simp)) (uR hq .nil hp rfl h4),h5⟩⟩
def T.err:T:=Tm Bool (fun x=>if x then .ifc 0 .junk else .nili) false (fun x=>by cases x<;>rfl) (fun x=>by cases x<;>rfl)
theorem T.err_V{P:Nat→Prop}{H:Av}{v:AV}{x:Bool}:T.err.V P H v x↔v=if x then .ifc 0 .junk else .nili:=PN
theorem yM{t:Nat}:Fw tb Γ (.mkif t a) (some ()) fun _=> .val T.err true:=by
 rintro E rv fp f H R _ ⟨⟩
 exact⟨_,none,rfl,rfl,T.err_V.2 rfl⟩
theorem o_g{n:Nat}{t:T}{cs:List AV}{x:t.α}(h:tb.gl n=some cs)(hm:Bg cs=0)(hr: ∀P H,t.R P H cs x):C7 tb Γ (.g n) (.rp t x):=fun E rv fp f H R=>by
 have hl:=t.len (hr (Pf E Γ.ss fp H) H)
 have he:eval tb f (.g n)= .ip cs 0:=by simp only[eval,h]
 show Zh t _ _ _ _
 rw[he]
 refine⟨trivial,cs,0,rfl,by omega,?_,fun m _=>by simp only[B7,hm];omega⟩
 have:sub cs 0 t.sz=cs:=by simp[sub,←hl]
 rw[this];exact hr _ _
theorem uO{α:Type}(c:α→AV)(hm: ∀x,B7 (c x)=0): ∀l:List α,Bg (l.map c)=0
 |[]=>rfl
 |x::l=>by simp only[List.map_cons,Bg,hm x,uO c hm l];rfl
theorem tab_R{α:Type}{c:α→AV}{z:α}{hs hm}{n:Nat}{P:Nat→Prop}{H:Av}(x:Ar α n):(Ay n (Tm α c z hs hm)).R P H (x.l.map c) x:=by
 have key: ∀l:List α,l.map c=(l.map fun y=>[c y]).flatten∧CG (Tm α c z hs hm) P H (l.map fun y=>[c y]) l:=fun l=>by
  induction l with
  |nil=>exact⟨rfl,trivial⟩
  |cons y l ih=>exact⟨by simp[ih.1],rfl,ih.2⟩
 exact⟨_,(key x.l).1,(key x.l).2⟩
end
def eR(K V:T)(P:Nat→Prop)(H:Av):List (AV×AV)→List (K.α×V.α)→Prop
 |[],[]=>True
 |(a,b)::r,(x,y)::q=>K.V P H a x∧V.V P H b y∧eR K V P H r q
 |_,_=>False
section
variable{K V:T}{P Q:Nat→Prop}{H G:Av}
theorem eR.mono(m: ∀i,P i→Q i∧G[i]? =H[i]?): ∀{es:List (AV×AV)} {l:List (K.α×V.α)},eR K V P H es l→eR K V Q G es l
 |[],[],_=>trivial
 |(_,_)::_,(_,_)::_,⟨h1,h2,h3⟩=>⟨h1.mono m,h2.mono m,h3.mono m⟩
theorem eR.men{m:Nat}(hp: ∀i,P i→i<m): ∀{es:List (AV×AV)} {l:List (K.α×V.α)},eR K V P H es l→Bg (es.map (·.1))≤m∧Bg (es.map (·.2))≤m
 |[],[],_=>by simp[Bg]
 |(_,_)::_,(_,_)::_,⟨h1,h2,h3⟩=>by
  have:=h1.men hp;have:=h2.men hp;have:=h3.men hp
  simp only[List.map_cons,Bg];omega
theorem eR.app: ∀{es fs:List (AV×AV)} {l m:List (K.α×V.α)},eR K V P H es l→eR K V P H fs m→eR K V P H (es++fs) (l++m)
 |[],_,[],_,_,h=>h
 |(_,_)::_,_,(_,_)::_,_,⟨h1,h2,h3⟩,h=>⟨h1,h2,h3.app h⟩
theorem eR.length: ∀{es:List (AV×AV)} {l:List (K.α×V.α)},eR K V P H es l→es.length=l.length
 |[],[],_=>rfl
 |(_,_)::_,(_,_)::_,⟨_,_,h3⟩=>by simp[h3.length]
end
def Sz{κ ν:Type}(e:κ→κ→Bool):List (κ×ν)→κ→Option ν
 |[],_=>none
 |(x,v)::r,k=>bif e k x then some v else Sz e r k
def Sy{κ ν:Type}(e:κ→κ→Bool):List (κ×ν)→κ→ν→List (κ×ν)
 |[],k,v=>[(k,v)]
 |(x,y)::r,k,v=>bif e k x then(k,v)::r else(x,y)::Sy e r k v
def sH{κ ν:Type}(e:κ→κ→Bool):List (κ×ν)→κ→List (κ×ν)
 |[],_=>[]
 |(x,y)::r,k=>bif e k x then r else(x,y)::sH e r k
def PQ(K V:T):Dom where
 α:=List (K.α×V.α)
 R:=fun F P H v x=> ∃id es,v= .mp id∧(∀i,F i↔i=id)∧H[id]? =some (.map es)∧eR K V P H es x
 lt:=fun⟨id,es,_,hF,h,_⟩ i hi=>by rw[(hF i).1 hi];exact(List.getElem?_eq_some_iff.1 h).1
 men:=fun⟨id,es,e,hF,_,_⟩ _ hm=>by rw[e];simp only[B7];exact hm id ((hF id).2 rfl)
 mono:=fun m g ⟨id,es,e,hF,h,r⟩=>⟨id,es,e,hF,by rw[g id ((hF id).2 rfl)];exact h,r.mono m⟩
structure eP(K:T)(ek:EK) where
 l:List CK
 p:CT K l
 h:(K.agg=true∧ek= .agg l)∨(K.agg=false∧ ∃c,l=[c]∧ek= .one c)
def eP.e{K:T}{ek:EK}(q:eP K ek):K.α→K.α→Bool:=HH q.p
theorem qA: ∀{l:List CK} {c d:List AV} {b:Bool},L3 l c d=some b→c.length=l.length
 |[],[],[],_,_=>rfl
 |[],[],_::_,_,h=>by simp[L3]at h
 |[],_::_,_,_,h=>by simp[L3]at h
 |_::_,[],_,_,h=>by simp[L3]at h
 |_::_,_::_,[],_,h=>by simp[L3]at h
 |k::l,x::c,y::d,b,h=>by
  simp only[L3]at h
  obtain⟨a,_,h⟩:=Option.bind_eq_some_iff.1 h
  obtain⟨b',h,_⟩:=Option.map_eq_some_iff.1 h
  simp[qA h]
section
variable{K V:T}{P Q:Nat→Prop}{H G:Av}{ek:EK}
theorem eP.eq(q:eP K ek){v w:AV}{x y:K.α}(h:K.V P H v x)(g:K.V Q G w y):X8 ek v w=some (q.e x y):=by
 rcases q.h with ⟨ha,e⟩|⟨ha,c,hl,e⟩
 ·rcases h with ⟨_,cs,rfl,h⟩|⟨hb,_⟩
  ·rcases g with ⟨_,ds,rfl,g⟩|⟨hb,_⟩
   ·exact(congrArg (fun e=>X8 e _ _) e).trans (q.p.h h g)
   ·rw[ha]at hb;cases hb
  ·rw[ha]at hb;cases hb
 ·rcases h with ⟨hb,_⟩|⟨_,h⟩
  ·rw[ha]at hb;cases hb
  ·rcases g with ⟨hb,_⟩|⟨_,g⟩
   ·rw[ha]at hb;cases hb
   ·have:=q.p.h h g
    refine(congrArg (fun e=>X8 e _ _) e).trans ?_
    simp only[hl,L3]at this
    simp only[X8]
    obtain⟨b,h1,h2⟩:=Option.bind_eq_some_iff.1 this
    simp only[Option.map_some,Bool.and_true,Option.some.injEq]at h2
    rw[h1,h2];rfl
theorem eP.ok(q:eP K ek){v:AV}{x:K.α}(h:K.V P H v x):Mc ek v=true:=by
 rcases q.h with ⟨ha,e⟩|⟨ha,c,hl,e⟩
 ·rcases h with ⟨_,cs,rfl,h⟩|⟨hb,_⟩
  ·refine(congrArg (fun e=>Mc e _) e).trans ?_
   simp only[Mc,qA (q.p.h h h),Nat.beq_refl]
  ·rw[ha]at hb;cases hb
 ·exact(congrArg (fun e=>Mc e _) e).trans rfl
theorem Uc(q:eP K ek){k:AV}{x:K.α}(hk:K.V P H k x): ∀{es:List (AV×AV)} {m:List (K.α×V.α)} (i:Nat),eR K V P H es m→
  (∃j b y,Am.find ek k es i=some (some (i+j,b))∧Sz q.e m x=some y∧V.V P H b y∧(∀b' y',V.V P H b' y'→eR K V P H (es.set j (k,b')) (Sy q.e m x y'))∧eR K V P H (es.eraseIdx j) (sH q.e m x))∨
  (Am.find ek k es i=some none∧Sz q.e m x=none∧(∀y',Sy q.e m x y'=m++[(x,y')])∧sH q.e m x=m)
 |[],[],i,_=> .inr ⟨rfl,rfl,fun _=>rfl,rfl⟩
 |(a,b)::r,(x',y)::m,i,⟨h1,h2,h3⟩=>by
  have he:=q.eq hk h1
  cases hq:q.e x x' with
  |true=>
   refine .inl ⟨0,b,y,?_,?_,h2,fun b' y' h=> ?_,?_⟩
   ·simp only[Am.find,he,hq,Option.bind_some,if_true,Nat.add_zero]
   ·simp only[Sz,hq,cond_true]
   ·simp only[List.set_cons_zero,Sy,hq,cond_true];exact⟨hk,h,h3⟩
   ·simp only[List.eraseIdx_cons_zero,sH,hq,cond_true];exact h3
  |false=>
   rcases Uc q hk (i+1) h3 with ⟨j,b',y',g1,g2,g3,g4,g5⟩|⟨g1,g2,g3,g4⟩
   ·refine .inl ⟨j+1,b',y',?_,?_,g3,fun b2 y2 h=> ?_,?_⟩
    ·simp only[Am.find,he,hq,Option.bind_some,Bool.false_eq_true,if_false,g1];congr 3;omega
    ·simp only[Sz,hq,cond_false,g2]
    ·simp only[List.set_cons_succ,Sy,hq,cond_false];exact⟨h1,h2,g4 b2 y2 h⟩
    ·simp only[List.eraseIdx_cons_succ,sH,hq,cond_false];exact⟨h1,h2,g5⟩
   ·refine .inr ⟨?_,?_,fun y2=> ?_,?_⟩
    ·simp only[Am.find,he,hq,Option.bind_some,Bool.false_eq_true,if_false,g1]
    ·simp only[Sz,hq,cond_false,g2]
    ·simp only[Sy,hq,cond_false,g3,List.cons_append]
    ·simp only[sH,hq,cond_false,g4]
end
section
variable{tb:CW}{Γ:Cx}{a b c:AO}{K V:T}{ek:EK}
def Aa5(V:T)(z:AV):Prop:=(V.agg=true∧z= .agg V.zc)∨(V.agg=false∧V.zc=[z])
theorem Aa5.v{V:T}{z:AV}(h:Aa5 V z){P:Nat→Prop}{H:Av}:V.V P H z V.z:=by
 rcases h with ⟨h,rfl⟩|⟨h,e⟩
 ·exact .inl ⟨h,_,rfl,V.hz P H⟩
 ·exact .inr ⟨h,by rw[←e];exact V.hz P H⟩
theorem M_mkm{d:Nat}(j:Nat)(hj:AG Γ.ss j=none):Wd tb Γ (some d) .mkm (some ()) fun _=>⟨(d, .own j)::Γ.ts,(j, .dom (PQ K V) [])::Γ.ss⟩:=by
 rintro E rv fp f H R _ ⟨⟩
 obtain⟨rv',fp',h1,h2,h3⟩:=R.more (j:=j) (S:= .dom (PQ K V) []) (v:= .mp H.length) (o:= .map []) (Hy hj) (by simp[Ej,Bg]) rfl (by simp[B7]) rfl fun rv' fp' e1 e2 hP hs=>
  ⟨_,[],e1,e2,by simp,trivial⟩
 exact⟨.mp H.length,some (H++[BF.map []]),rfl,rv',fp',h3.push (d:=d) (φ:= .own j) ⟨h2,h1.symm⟩⟩
theorem mH{E:Ph}{rv:Nat→AV}{fp:Fp}{f:Fr}{H:Av}(R:Bo E Γ rv fp f H){j:Nat}{m:List (K.α×V.α)}(hj:AG Γ.ss j=some (.dom (PQ K V) m))(ha:C7 tb Γ a (.own j)):
  ∃id es,eval tb f a= .mp id∧rv j= .mp id∧(∀i,fp j i↔i=id)∧H[id]? =some (.map es)∧eR K V (Pf E Γ.ss fp H) H es m:=by
 obtain⟨_,hv⟩:=ha E rv fp f H R
 obtain⟨id,es,e,hF,hH,h⟩:=R.slots j _ hj
 exact⟨id,es,hv.trans e,e,hF,hH,h⟩
theorem h_lkp{j:Nat}{m:List (K.α×V.α)}{x:K.α}{z:AV}(q:eP K ek)(hz:Aa5 V z)(ha:C7 tb Γ a (.own j))(hj:AG Γ.ss j=some (.dom (PQ K V) m))(hb:C7 tb Γ b (.val K x)):
  Fw tb Γ (.lkp ek z false a b) (some ()) fun _=> .val V ((Sz q.e m x).getD V.z):=by
 rintro E rv fp f H R _ ⟨⟩
 obtain⟨id,es,e1,_,_,e2,e3⟩:=mH R hj ha
 have hk:=hb E rv fp f H R
 have he:Lf H (.mp id)=some es:=by simp only[Lf,Mb,e2]
 rcases Uc q hk 0 e3 with ⟨j',b',y,g1,g2,g3,_,_⟩|⟨g1,g2,_,_⟩
 ·exact⟨b',none,by simp only[Bp,q.ok hk,if_true,e1,he,Option.bind_some,g1,Option.map_some,Bool.false_eq_true,if_false],rfl,by rw[g2];exact g3⟩
 ·exact⟨z,none,by simp only[Bp,q.ok hk,if_true,e1,he,Option.bind_some,g1,Option.map_some,Bool.false_eq_true,if_false],rfl,by rw[g2];exact hz.v⟩
theorem h_lenm{j:Nat}{m:List (K.α×V.α)}(ha:C7 tb Γ a (.own j))(hj:AG Γ.ss j=some (.dom (PQ K V) m)):Fw tb Γ (.lenm a) (some (m.length:Int)) fun n=> .val (T.int .i64) n:=by
 rintro E rv fp f H R _ ⟨⟩
 obtain⟨id,es,e1,_,_,e2,e3⟩:=mH R hj ha
 exact⟨.i .i64 es.length,none,by simp only[Bp,e1,Lf,Mb,e2,Option.map_some],rfl,BY.2 (by rw[e3.length])⟩
theorem pK{E:Ph}{rv:Nat→AV}{fp:Fp}{f:Fr}{H:Av}(R:Bo E Γ rv fp f H){j id:Nat}{m m':List (K.α×V.α)}{es':List (AV×AV)}(hj:AG Γ.ss j=some (.dom (PQ K V) m))(e0:rv j= .mp id)(hF: ∀i,fp j i↔i=id)
  (h:eR K V (Pf E Γ.ss fp H) H es' m'): ∃rv' fp',Bo E ⟨Γ.ts,(j, .dom (PQ K V) m')::Γ.ss⟩ rv' fp' f (H.set id (.map es')):=by
 have hl:AZ Γ.ss j:=La hj rfl
 have hm:=h.men R.ltP
 obtain⟨rv',fp',h1,h2,h3⟩:=R.set (j:=j) (S:= .dom (PQ K V) m') (v:=rv j) (o:= .map es') (by rw[hj];rfl) hl hF (by simp only[Ej];omega) rfl (R.rvlt j hl) (.inl rfl) (R.scal j hl)
  fun rv' fp' e1 e2 hP _=>⟨id,es',by rw[e1,e0],e2,by rw[List.getElem?_set_self (R.fplt j id hl ((hF id).2 rfl)).1],h.mono hP⟩
 exact⟨rv',fp',h3⟩
theorem AaA{j:Nat}{m:List (K.α×V.α)}{x:K.α}{y:V.α}(q:eP K ek)(ha:C7 tb Γ a (.own j))(hj:AG Γ.ss j=some (.dom (PQ K V) m))(hb:C7 tb Γ b (.val K x))(hc:C7 tb Γ c (.val V y)):
  Wd tb Γ none (.mup ek a b c) (some (Sy q.e m x y)) fun m'=>⟨Γ.ts,(j, .dom (PQ K V) m')::Γ.ss⟩:=by
 rintro E rv fp f H R _ ⟨⟩
 obtain⟨id,es,e1,e0,hF,e2,e3⟩:=mH R hj ha
 have hk:=hb E rv fp f H R
 have hv:=hc E rv fp f H R
 have he:Mb H id=some es:=by simp only[Mb,e2]
 rcases Uc q hk 0 e3 with ⟨j',b',y',g1,g2,g3,g4,_⟩|⟨g1,g2,g3,_⟩
 ·obtain⟨rv',fp',h⟩:=pK R hj e0 hF (g4 _ y hv)
  exact⟨.junk,some (H.set id (.map (es.set j' (eval tb f b,eval tb f c)))),by simp only[Bp,q.ok hk,if_true,e1,he,Option.bind_some,g1,Option.map_some,Nat.zero_add],rv',fp',h⟩
 ·obtain⟨rv',fp',h⟩:=pK R hj e0 hF (e3.app (fs:=[(eval tb f b,eval tb f c)]) (m:=[(x,y)]) ⟨hk,hv,trivial⟩)
  exact⟨.junk,some (H.set id (.map (es++[(eval tb f b,eval tb f c)]))),by simp only[Bp,q.ok hk,if_true,e1,he,Option.bind_some,g1,Option.map_some],rv',fp',by rw[g3];exact h⟩
end
end Go.Proofs.YtobejhpigbllpaaGreatDoor.Am
namespace Go.Proofs.YtobejhpigbllpaaGreatDoor.Am
section
variable{tb:CW}{Γ:Cx}{ks:List Kf}{ρ:Type}{Q:LT ρ}
def QJ(tb:CW){τ:Type}(Γj:τ→Cx)(ks:List Kf)(Q:LT ρ):LT (τ⊕ρ):=fun E r e f H=>
 match r with
 | .inl p=>e= .normal∧Rel E (Γj p) f H
 | .inr r=>e≠ .normal∧ ∃e' f' H',I4 tb ks (e,f,H)=some (e',f',H')∧Q E r e' f' H'
def Fi{c:AC}{τ:Type}(Γj:τ→Cx)(k:(p:τ)→Aa tb (Γj p) (rg false []) ks Q)(main:Aa tb Γ c [] (QJ tb Γj ks Q)):Aa tb Γ c ks Q:=
 ⟨main.m.bind (Sum.elim (fun p=>(k p).m) some),fun E f H R r hr=>by
  obtain⟨b,hb,hr⟩:=Option.bind_eq_some_iff.1 hr
  obtain⟨e,f1,H1,h1,h2⟩:=main.ok E f H R b hb
  have h1':AW tb (Ch tb) c f H=some (e,f1,H1):=by
   obtain⟨p,hp,h⟩:=Option.bind_eq_some_iff.1 h1
   rw[hp,←h];rfl
  rw[h1']
  cases b with
  |inr r'=>
   simp only[Sum.elim_inr,Option.some.injEq]at hr
   subst hr
   exact h2.2
  |inl p=>
   obtain⟨rfl,R'⟩:=h2
   simp only[Sum.elim_inl]at hr
   obtain⟨e2,f2,H2,h4,h5⟩:=(k p).ok E f1 H1 R' r hr
   exact⟨e2,f2,H2,by simpa [Dv]using h4,h5⟩⟩
def DW{q:Bool}{τ:Type}{Γj:τ→Cx}(p:τ)(h:Sub (Γj p) Γ):Aa tb Γ (rg q []) [] (QJ tb Γj ks Q):=
 ⟨some (.inl p),fun E f H ⟨rv,fp,I⟩ r hr=>by
  cases hr
  exact⟨.normal,f,H,by simp[Dv,I4],rfl,rv,fp,I.sub h⟩⟩
def Ag{q:Bool}{d:Nat}{o:HN}{l:List AT}{β:Type}{a:β}{φ:β→AK}(h:Fw tb Γ o (some a) φ)(k:(b:β)→Aa tb (Γ.push d (φ b)) (rg q l) ks Q):Aa tb Γ (rg q (⟨some d,none,o⟩::l)) ks Q:=
 ⟨(k a).m,(Aa.op h k).ok⟩
def Bf{q:Bool}{d t:Nat}{o:HN}{l:List AT}{β:Type}{a:β}{φ:β→AK}(h:Fw tb Γ o (some a) φ)(k:(b:β)→Bj tb (Γ.push d (φ b)) q l t):Bj tb Γ q (⟨some d,none,o⟩::l) t:=
 ⟨(k a).m,(Bj.op h k).ok⟩
def Al{d:Option Nat}{o:HN}{l:List AT}{β:Type}{a:β}{Γ':β→Cx}(h:Wd tb Γ d o (some a) Γ')(k:(b:β)→Aa tb (Γ' b) (rg false l) ks Q):Aa tb Γ (rg false (⟨d,none,o⟩::l)) ks Q:=
 ⟨(k a).m,(Cq h k).ok⟩
variable{w:List (Option (Nat×Nat))}{N k:Nat}{B:List Ob}{C C':List Cb}{o:HN}{l:List AT}{y:Nat×Nat}
def B0{d:Nat}{β:Type}{a:β}{φ:β→AK}(hq:YY N k B C y (some d) o=true)(h:Fw tb Γ o (some a) φ)(s:(b:β)→A9 tb (Γ.push d (φ b)) N k B C l w ks Q):A9 tb Γ N k B C (⟨some d,none,o⟩::l) (some y::w) ks Q:=
 ⟨(s a).m,(A9.op hq h s).ok⟩
def uE{d:Option Nat}{β:Type}{a:β}{Γ':β→Cx}(hq:kU B C' d=true)(hb: ∀b,VM tb (Γ' b) B)(hc:JX Γ k C C')(h:Wd tb Γ d o (some a) Γ')(s:(b:β)→A9 tb (Γ' b) N (k+1) (eB B) C' l w ks Q):A9 tb Γ N k B C (⟨d,none,o⟩::l) (none::w) ks Q:=
 ⟨(s a).m,(DC hq hb hc h s).ok⟩
end
end Go.Proofs.YtobejhpigbllpaaGreatDoor.Am
namespace Go.Proofs.YtobejhpigbllpaaGreatDoor.Am
def Z3(tB te:Nat):List AV→Av→Option (AV×Option Av)
 |[.ptr id off, .i .i64 n],h=>match h[id]? with
  |some (.cells (some t) [a, .nils])=>if off=0∧t=tB∧0≤n∧n≤Be then some (.tup [],some (h.set id (.cells (some t) [a, .orow h.length 0 0 0])++[.row (some te) false 1 []]))else none
  |_=>none
 |_,_=>none
def lE(P:Program)(g te:Nat):Prop:= ∀(b n:Nat) (w:World),w.cell? ⟨b,1,none⟩=some (.slice none 0 0)→b<w.heap.size→w.frozen? ⟨b,1,none⟩=false→n≤281474976710656→
 ∃cs:Array Value,n≤cs.size∧Calls P g #[.pointer (some ⟨b,0,none⟩), .int .i64 n] w fun e w'=>e= .returned (.tuple #[])∧w'=((w.setCell ⟨b,1,none⟩ (.slice (some ⟨w.heap.size,0,none⟩) 0 cs.size)).alloc (.cells cs te)).drew.drew.drew
def entB(P:Program)(g:Nat):Bool:=match P.funcs[g]? with
 |some fn=>fn.body.isSome&& !(fn.name== "runtime.NumGoroutine")
 |none=>false
section
variable{P:Program}{tb:CW}
theorem X9{g:Nat}(h:entB P g=true)(vs:Array Value)(w:World):(callFunc g vs).run P w= .ok (.enter g vs) w:=by
 unfold entB at h
 split at h
 ·rename_i fn hf
  simp only[Bool.and_eq_true,Bool.not_eq_true']at h
  obtain⟨h1,h2⟩:=h
  obtain⟨c,hc⟩:=Option.isSome_iff_exists.1 h1
  have h2': ¬fn.name= "runtime.NumGoroutine" :=by simpa using h2
  simp[callFunc,hf,hc,h2']
 ·cases h
theorem rW{tB te g:Nat}(hen:entB P g=true)(hg:lE P g te):Fv P tb fun g' args h=>if g'=g then Z3 tB te args h else none:=by
 intro g' C args vs r I hr h
 dsimp only at h
 split at h
 ·rename_i hgg
  subst hgg
  unfold Z3 at h
  split at h
  ·rename_i hp id off n
   split at h
   ·rename_i t x hid
    split at h
    ·rename_i hc
     obtain⟨rfl,rfl,h0,hm⟩:=hc
     cases h
     obtain⟨v,vs',e1,r1,v2,vs2,e2,r2,e3⟩:=hr
     have e3':vs2=[]:=e3
     have r2':v2= .int .i64 n:=r2
     subst e3';subst e2;subst e1;subst r2'
     obtain⟨_,rfl⟩:=r1
     obtain⟨us,arr,e,fr,⟨h1,hb⟩,h2,h3,h4,h5,h6⟩:=I.obj id _ hid
     obtain⟨ux,us1,eu1,rx,uy,us2,eu2,ry,eu3⟩:=h4
     have eu3':us2=[]:=eu3
     have ry':uy= .slice none 0 0:=ry
     subst eu3';subst eu2;subst eu1;subst ry'
     have hlt:(C.φ id).blk<C.w.heap.size:=I.lt id (AS hid)
     have hidl:=AS hid
     have c1:C.w.cell? ⟨(C.φ id).blk,1,none⟩=some (.slice none 0 0):=by
      have:=h5 1 (.slice none 0 0) rfl
      simpa using this
     have hnn:((n.toNat:Nat):Int)=n:=Int.toNat_of_nonneg h0
     have hmm:n.toNat≤281474976710656:=by unfold Be at hm;omega
     obtain⟨cs,hcs,hcall⟩:=hg (C.φ id).blk n.toNat C.w c1 hlt (h6 1 (by simp)) hmm
     rw[hnn]at hcall
     refine .inr ⟨g',_,X9 hen _ _,hcall.mono ?_⟩
     rintro ee w' ⟨rfl,hw'⟩
     have hszA:C.w.heap.size<(C.w.alloc (.cells cs te)).heap.size:=by rw[G7];omega
     obtain⟨XA,hIA,hφA⟩:=more I (p:=⟨C.w.heap.size,0,cs.size⟩) (o:=BF.row (some te) false 1 []) (w:=C.w.alloc (.cells cs te)) ⟨rfl,rfl,rfl⟩ hszA rfl (fun b hb=>alloc_old _ _ hb)
     have hfA: ∀o,(C.w.alloc (.cells cs te)).frozen? ⟨C.w.heap.size,o,none⟩=false:=fun o=>by simp only[World.frozen?,HM];simp
     have IA:=hIA ⟨[],cs,te,(0,0),⟨HM _ _,Nat.le_refl _,fun k hk=>by cases hk;rfl⟩,rfl,by omega,by simp,rfl,by simp,fun j v hj=>by simp at hj,fun _ o _=>hfA o,fun _ o _ _=>hfA o⟩
     have hφid:(C.more ⟨C.w.heap.size,0,cs.size⟩ (BF.row (some te) false 1 []) (C.w.alloc (.cells cs te))).φ id=C.φ id:=if_neg (by omega)
     have hgA:(C.more ⟨C.w.heap.size,0,cs.size⟩ (BF.row (some te) false 1 []) (C.w.alloc (.cells cs te))).H[id]? =some (.cells (some t) [x, .nils]):=(List.getElem?_append_left hidl).trans hid
     have hws:w'.heap.size=C.w.heap.size+1:=by rw[hw'];simp
     have hwn:w'.heap[C.w.heap.size]? =some (.cells cs te):=by
      rw[hw']
      have:(C.w.setCell ⟨(C.φ id).blk,1,none⟩ (.slice (some ⟨C.w.heap.size,0,none⟩) 0 cs.size)).heap.size=C.w.heap.size:=by simp
      have hq:=HM (C.w.setCell ⟨(C.φ id).blk,1,none⟩ (.slice (some ⟨C.w.heap.size,0,none⟩) 0 cs.size)) (.cells cs te)
      rw[this]at hq
      exact hq
     have hwo: ∀b,b<C.w.heap.size→w'.heap[b]? =(C.w.setCell ⟨(C.φ id).blk,1,none⟩ (.slice (some ⟨C.w.heap.size,0,none⟩) 0 cs.size)).heap[b]? :=fun b hb=>by
      rw[hw']
      exact alloc_old _ _ (by simpa using hb)
     have hwid:w'.heap[(C.φ id).blk]? =some (.cells (arr.setIfInBounds 1 (.slice (some ⟨C.w.heap.size,0,none⟩) 0 cs.size)) e fr):=by
      rw[hwo _ hlt];exact SC h1
     let D0:=C.more ⟨C.w.heap.size,0,cs.size⟩ (BF.row (some te) false 1 []) (C.w.alloc (.cells cs te))
     obtain⟨X,hI⟩:=uH (C:=D0) (D:=⟨D0.φ,D0.H.set id (.cells (some t) [x, .orow C.H.length 0 0 0]),w'⟩) IA (o':= .cells (some t) [x, .orow C.H.length 0 0 0]) (by rw[hw'];exact⟨rfl,rfl,rfl⟩) hgA rfl (fun _ _=>rfl)
      (by show(C.w.alloc (.cells cs te)).heap.size≤w'.heap.size;rw[G7,hws];exact Nat.le_refl _)
      (fun b hb hne=>by
       have hb':b<C.w.heap.size+1:=by have:b<(C.w.alloc (.cells cs te)).heap.size:=hb;rw[G7]at this;exact this
       show w'.heap[b]? =(C.w.alloc (.cells cs te)).heap[b]?
       by_cases hbe:b=C.w.heap.size
       ·subst hbe;rw[hwn,HM]
       ·have hbl:b<C.w.heap.size:=by omega
        have hne':b≠(C.φ id).blk:=fun e=>hne (by rw[e];exact congrArg Place.blk hφid.symm)
        rw[hwo b hbl,alloc_old _ _ hbl,heap_setCell_other hne'])
      (.inl rfl) (fun _=>⟨rfl,rfl⟩) (fun _ _ _ _ e=>by cases e)
     have hrow:rowAt (D0.H.set id (.cells (some t) [x, .orow C.H.length 0 0 0])) C.H.length=some (false,1,[]):=by
      have:(D0.H.set id (BF.cells (some t) [x, .orow C.H.length 0 0 0]))[C.H.length]? =some (BF.row (some te) false 1 []):=by
       rw[List.getElem?_set_ne (by omega)]
       show(C.H++[_])[C.H.length]? =_
       simp
      simp only[rowAt,this]
     have hI2:=hI (by
      show Obj _ (D0.φ id) _
      rw[hφid]
      refine⟨[ux, .slice (some ⟨C.w.heap.size,0,none⟩) 0 cs.size],_,e,fr,⟨hwid,hb⟩,by simpa using h2,by simp only[List.all_cons,List.all_nil,Bool.and_true,Bool.and_eq_true]at h3 ⊢;exact⟨h3.1,rfl⟩,⟨ux,_,rfl,FI.ext (XA.trans X) rx,_,_,rfl,?_,rfl⟩,?_,?_⟩
      ·refine⟨⟨_,_,rfl⟩,false,1,[],hrow,Nat.le_refl _,fun _=>⟨Nat.le_refl _,0,cs.size,?_,Nat.zero_le _,fun h=>absurd h (by omega),?_,?_⟩⟩
       ·show _=Value.slice (some ⟨(D0.φ C.H.length).blk,0,none⟩) 0 cs.size
        rw[show D0.φ C.H.length=_ from hφA]
       ·show 0+cs.size*1≤(D0.φ C.H.length).size
        rw[show D0.φ C.H.length=_ from hφA];simp
       ·show(D0.φ C.H.length).base≤0
        rw[show D0.φ C.H.length=_ from hφA];exact Nat.le_refl _
      ·intro j v hj
       simp only[World.cell?,hwid,Nat.zero_add]
       match j,hj with
       |0,hj=>
        have:=h5 0 ux rfl
        simp only[World.cell?,h1]at this
        simp only[List.getElem?_cons_zero,Option.some.injEq]at hj
        subst hj
        simpa using this
       |1,hj=>
        simp only[List.getElem?_cons_succ,List.getElem?_cons_zero,Option.some.injEq]at hj
        subst hj
        have h2':arr.size=2:=by simpa using h2
        simp[h2']
       |j+2,hj=>simp at hj
      ·intro o ho
       have:=h6 o (by simpa using ho)
       simp only[World.frozen?,h1]at this
       simp only[World.frozen?,hwid]
       exact this)
     refine⟨_,_,rfl,XA.trans X,hI2,rfl,?_,⟨[],rfl,rfl⟩⟩
     show(C.H++[BF.row (some te) false 1 []]).set id _=(C.H.set id _++[_])
     rw[List.set_append_left _ _ hidl]
    ·cases h
   ·cases h
  ·cases h
 ·cases h
end
end Go.Proofs.YtobejhpigbllpaaGreatDoor.Am
namespace Go.Proofs.YtobejhpigbllpaaGreatDoor.Am
def R7(tS ncc ngr:Nat):CI:=⟨false,2,25,[],
 (.seq (rg false [⟨some 4,none, .mv (.t 0)⟩,⟨some 5,none, .call ncc [(.t 4)]⟩])
 (.seq (.seq (rg false [⟨some 6,none, .mv (.t 1)⟩,⟨some 7,none, .bin .lss (.t 6) (.k (.i .i64 0))⟩])
 (.cond (.t 7)
  (rg false [⟨some 8,none, .mkif tS (.k (.s [115,116,114,105,110,103,115,46,66,117,105,108,100,101,114,46,71,114,111,119,58,32,110,101,103,97,116,105,118,101,32,99,111,117,110,116]))⟩,⟨none,none, .die⟩])
  .skip))
 (.seq (rg true [⟨some 9,none, .mv (.t 0)⟩,⟨some 10,none, .nilc (.t 9)⟩,⟨some 11,none, .fa 1 (.t 10)⟩,⟨some 12,none, .ld false 1 (.t 11)⟩,⟨some 13,none, .capn (.t 12)⟩,⟨some 14,none, .mv (.t 0)⟩,⟨some 15,none, .nilc (.t 14)⟩,⟨some 16,none, .fa 1 (.t 15)⟩,⟨some 17,none, .ld false 1 (.t 16)⟩,⟨some 18,none, .len (.t 17)⟩,⟨some 19,none, .bin .sub (.t 13) (.t 18)⟩,⟨some 20,none, .mv (.t 1)⟩,⟨some 21,none, .bin .lss (.t 19) (.t 20)⟩])
 (.cond (.t 21)
  (rg false [⟨some 22,none, .mv (.t 0)⟩,⟨some 23,none, .mv (.t 1)⟩,⟨some 24,none, .call ngr [(.t 22),(.t 23)]⟩])
  .skip))))⟩
section
variable{tb:CW}{tB te tS ncc nne ngw ngr:Nat}{h:Av}{id:Nat}{a b:AV}
theorem rD{cl:Nat→List AV→Av→KB}{d:Option Nat}{o:HN}{l:List AT}{f:Fr}{v:AV}{r:Option Fr}(e:Bp tb cl (eval tb f) h o=some (v,none))(k:Ia tb cl h l (put f d v)=r):Ia tb cl h (⟨d,none,o⟩::l) f=r:=by
 simp[Ia,wanted,e,k]
theorem vE{l:List AT}{y:AC}{f f':Fr}(e:Ia tb (Ch tb) h l f=some f'):AW tb (Ch tb) (.seq (rg true l) y) f h=AW tb (Ch tb) y f' h:=by
 simp[AW,rg,e]
theorem gB{c:AO}{x y:AC}{f:Fr}{b:Bool}(e:eval tb f c= .b b):AW tb (Ch tb) (.cond c x y) f h=if b then AW tb (Ch tb) x f h else AW tb (Ch tb) y f h:=by
 simp[AW,e]
theorem yS{n:Int}{h1 G:Av}(h0:0≤n)(hc:B1 tb (Ch tb) h ncc [.ptr id 0]=some (.tup [],some h1))(hld:load h1 false 1 (.ptr id 1)=some .nils)(hg:if 0<n then B1 tb (Ch tb) h1 ngr [.ptr id 0, .i .i64 n]=some (.tup [],some G)else G=h1):
  ∃f',AW tb (Ch tb) (R7 tS ncc ngr).body [(0, .ptr id 0),(1, .i .i64 n)] h=some (.normal,f',G):=by
 have hn0:decide (n<0)=false:=by simp;omega
 have key: ∃F,AW tb (Ch tb) (R7 tS ncc ngr).body [(0, .ptr id 0),(1, .i .i64 n)] h=AW tb (Ch tb) (.cond (.t 21)
  (rg false [⟨some 22,none, .mv (.t 0)⟩,⟨some 23,none, .mv (.t 1)⟩,⟨some 24,none, .call ngr [(.t 22),(.t 23)]⟩])
  .skip) F h1∧get F 21= .b (decide (0<n))∧get F 0= .ptr id 0∧get F 1= .i .i64 n:=by
  apply Exists.intro
  refine⟨?_,?_⟩
  ·unfold R7
   simp only
   refine(Jf (MS (v:= .ptr id 0) (u:=none) rfl (MS (v:= .tup []) (u:=some h1) (Wb (by exact hc)) rfl))).trans ?_
   refine(oZ ((Jf (MS (v:= .i .i64 n) (u:=none) rfl (MS (v:= .b false) (u:=none) (by rw[←hn0];rfl) rfl))).trans ((gB (b:=false) rfl).trans rfl))).trans ?_
   exact(vE (rD (v:= .ptr id 0) rfl (rD (v:= .ptr id 0) rfl (rD (v:= .ptr id 1) rfl (rD (v:= .nils) (aC (by exact hld)) (rD (v:= .i .i64 0) rfl (rD (v:= .ptr id 0) rfl (rD (v:= .ptr id 0) rfl (rD (v:= .ptr id 1) rfl (rD (v:= .nils) (aC (by exact hld)) (rD (v:= .i .i64 0) rfl (rD (v:= .i .i64 0) rfl (rD (v:= .i .i64 n) rfl (rD (v:= .b (decide (0<n))) rfl rfl))))))))))))))
  ·exact⟨rfl,rfl,rfl⟩
 obtain⟨F,e,f21,f0,f1⟩:=key
 rw[e,gB (b:=decide (0<n)) (by simpa [eval]using f21)]
 by_cases hp:0<n
 ·rw[if_pos hp]at hg
  rw[if_pos (by simpa using hp)]
  simp only[AW,rg,Bool.false_eq_true,if_false]
  rw[MS (v:= .ptr id 0) (u:=none) (by simp[Bp,eval,f0]) (MS (v:= .i .i64 n) (u:=none) (by simp[Bp,eval,get,put,f1]) (MS (v:= .tup []) (u:=some G) (Wb (by exact hg)) rfl))]
  exact⟨_,rfl⟩
 ·rw[if_neg hp]at hg
  rw[if_neg (by simpa using hp),hg]
  exact⟨_,rfl⟩
theorem gr_eval(hf:tb.prim ngw=none∧tb.fns ngw=some (R7 tS ncc ngr))(hcc:tb.prim ncc=none∧tb.fns ncc=some (MO tB nne))(hne:tb.prim nne=some OL)(hgr:tb.prim ngr=some (Z3 tB te))(hh:h[id]? =some (.cells (some tB) [a, .nils]))(ha:a= .nilp∨a= .ptr id 0)
  {n:Int} (h0:0≤n) (hm:n≤Be):
  B1 tb (Ch tb) h ngw [.ptr id 0, .i .i64 n]=some (.tup [],some (if 0<n then h.set id (.cells (some tB) [.ptr id 0, .orow h.length 0 0 0])++[.row (some te) false 1 []]else h.set id (.cells (some tB) [.ptr id 0, .nils]))):=by
 have hc:=Wa hcc hne hh ha
 have hid:=(List.getElem?_eq_some_iff.1 hh).1
 have hs:(h.set id (BF.cells (some tB) [.ptr id 0, .nils]))[id]? =some (.cells (some tB) [.ptr id 0, .nils]):=List.getElem?_set_self hid
 have h2:=G3 hs
 simp only[B1,hf.1]
 rw[PI,hf.2]
 simp only[Option.bind_some]
 have hld:load (h.set id (BF.cells (some tB) [.ptr id 0, .nils])) false 1 (.ptr id 1)=some .nils:=by simp[load,place,h2.1,Ho,sub]
 by_cases hp:0<n
 ·have hgc:B1 tb (Ch tb) (h.set id (.cells (some tB) [.ptr id 0, .nils])) ngr [.ptr id 0, .i .i64 n]=some (.tup [],some (h.set id (.cells (some tB) [.ptr id 0, .orow h.length 0 0 0])++[.row (some te) false 1 []])):=by
   simp only[B1,hgr,Z3,hs]
   simp[h0,hm,List.set_set]
  obtain⟨f',e1⟩:=yS (tb:=tb) (tS:=tS) (ncc:=ncc) (ngr:=ngr) h0 hc hld (by rw[if_pos hp];exact hgc)
  rw[OE (tb:=tb) (h:=h) (fn:=R7 tS ncc ngr) (args:=[.ptr id 0, .i .i64 n]) (vs:=[]) rfl rfl e1 (.inr rfl) rfl,if_pos hp]
  exact congrArg some (TH h.length _ (aB (te:=te) (tB:=tB) (s:=[]) hid rfl) [] rfl false)
 ·obtain⟨f',e1⟩:=yS (tb:=tb) (tS:=tS) (ncc:=ncc) (ngr:=ngr) h0 hc hld (by rw[if_neg hp])
  rw[OE (tb:=tb) (h:=h) (fn:=R7 tS ncc ngr) (args:=[.ptr id 0, .i .i64 n]) (vs:=[]) rfl rfl e1 (.inr rfl) rfl,if_neg hp]
  obtain⟨u,hu,rfl⟩:=LD false h.length (h.set id (.cells (some tB) [.ptr id 0, .nils])) (by simp) [] rfl
  exact congrArg some hu
variable{Γ:Cx}{x y:AO}
def iZ(l:AM)(n:Int):Option AM:=if l=[]∧0≤n∧n≤Be then some []else none
theorem M_bldR{d j:Nat}{l:AM}{n:Int}(hcc:tb.prim ncc=none∧tb.fns ncc=some (MO tB nne))(hne:tb.prim nne=some OL)(hf:tb.prim ngw=none∧tb.fns ngw=some (R7 tS ncc ngr))(hgr:tb.prim ngr=some (Z3 tB te))
  (ha:C7 tb Γ x (.own j)) (hj:AG Γ.ss j=some (.dom (OG tB te false) l)) (hb:C7 tb Γ y (.val (T.int .i64) n)):
  Wd tb Γ (some d) (.call ngw [x,y]) (iZ l n) fun _=>⟨(d, .junk)::Γ.ts,(j, .dom (OG tB te (decide (0<n))) ([]:AM))::Γ.ss⟩:=by
 intro E rv fp f H R l' hl'
 simp only[iZ]at hl'
 split at hl'
 ·rename_i hm
  cases hl'
  obtain⟨rfl,h0,hm⟩:=hm
  obtain⟨hl,hv⟩:=ha E rv fp f H R
  obtain⟨id,e,⟨_,_,a,hx,hh,hF⟩|⟨hg,r,hne',hh,hr,hF⟩⟩:=R.slots j _ hj
  ·have hid:=AS hh
   have hev:=gr_eval (te:=te) hf hcc hne hgr hh hx h0 hm
   by_cases hp:0<n
   ·rw[if_pos hp]at hev
    obtain⟨rv',fp',g1,g2,g3⟩:=R.dom (D:=OG tB te (decide (0<n))) (y:=([]:AM)) (G:=H.set id (.cells (some tB) [.ptr id 0, .orow H.length 0 0 0])++[.row (some te) false 1 []]) (F':=fun i=>i=id∨i=H.length) (by rw[hj];rfl) hl (by simp)
     (fun i hi hn=>by rw[List.getElem?_append_left (by simpa using hi)];exact List.getElem?_set_ne fun e=>hn ((hF i).2 e.symm))
     (fun i hi=>by
      rcases hi with rfl|rfl
      ·exact .inl ((hF _).2 rfl)
      ·exact .inr ⟨Nat.le_refl _,by simp⟩)
     (by
      rw[Qh]
      have:=Hx (l:=H) (i:=id) (o:= .cells (some tB) [.ptr id 0, .orow H.length 0 0 0]) (m:=H.length+1) (by have:=R.wf;omega) (by simp only[Ej,Bg,B7];omega)
      simp only[CB,Ej,CJ,List.length_append,List.length_set,List.length_cons,List.length_nil]
      omega) rfl
     (fun Q=>⟨id,e, .inr ⟨.inl (by simpa using hp),H.length,by omega,by
      rw[List.getElem?_append_left (by simpa using hid)]
      exact List.getElem?_set_self hid,by
      rw[List.getElem?_append_right (by simp)];simp[Bu],fun i=>Iff.rfl⟩⟩)
    refine⟨.tup [],some _,?_,rv',fp',g3.push (d:=d) (φ:= .junk) trivial⟩
    simp only[Bp,List.map_cons,List.map_nil,hv,e,BY.1 (hb E rv fp f H R)]
    exact hev
   ·rw[if_neg hp]at hev
    obtain⟨rv',fp',g1,g2,g3⟩:=R.dom (D:=OG tB te (decide (0<n))) (y:=([]:AM)) (G:=H.set id (.cells (some tB) [.ptr id 0, .nils])) (F':=fp j) (by rw[hj];rfl) hl (by simp)
     (fun i hi hn=>List.getElem?_set_ne fun e=>hn ((hF i).2 e.symm)) (fun i hi=> .inl hi)
     (by simp only[List.length_set];exact Hx R.wf (by simp only[Ej,Bg,B7];omega)) rfl
     (fun Q=>⟨id,e, .inl ⟨by simpa using hp,rfl,_, .inr rfl,List.getElem?_set_self hid,hF⟩⟩)
    refine⟨.tup [],some _,?_,rv',fp',g3.push (d:=d) (φ:= .junk) trivial⟩
    simp only[Bp,List.map_cons,List.map_nil,hv,e,BY.1 (hb E rv fp f H R)]
    exact hev
  ·rcases hg with hg|hg
   ·cases hg
   ·exact absurd rfl hg
 ·cases hl'
end
end Go.Proofs.YtobejhpigbllpaaGreatDoor.Am
namespace Go.Proofs.YtobejhpigbllpaaGreatDoor.Am
section
variable{tb:CW}{Γ:Cx}
variable{ks:List Kf}{ρ:Type}{Q:LT ρ}
def Q7(n:Int):UInt8:=UInt8.ofNat (n%256).toNat
def WS(n:Int):UInt16:=UInt16.ofNat (n%65536).toNat
def C8(n:Int):UInt32:=UInt32.ofNat (n%4294967296).toNat
def BQ(n:Int):UInt64:=UInt64.ofNat (n%18446744073709551616).toNat
def XF(a b:List UInt8):Int:=Extern.BytealgCompare.cmp ⟨a.toArray⟩ ⟨b.toArray⟩
theorem Tn.bytes{P:Nat→Prop}{H:Av}{v:AV}{g:GS UInt8}(h:(T.sl T.u8).V P H v g):PL H v=some g.l:=by
 obtain⟨els,e,h'⟩:=(JU.1 h).els
 have e':Eu H 1 v=some els:=e
 have hs: ∀l,v≠ .s l:=by rintro l rfl;simp[Eu]at e'
 cases v<;>first
  |exact absurd rfl (hs _)
  |(simp only[PL,e',Option.bind_some];exact Qu h')
theorem Spec.cmp{g:Nat}(hp:tb.prim g=some Px):Spec tb g [T.sl T.u8,T.sl T.u8] [T.int .i64] fun a=>some (XF a.1.l a.2.l):=by
 rintro P h args ⟨x,y⟩ _ _ ⟨v,q,rfl,h1,w,rfl,h2⟩ r hr
 cases hr
 refine⟨.i .i64 (XF x.l y.l),none,?_,rfl,[.i .i64 (XF x.l y.l)],rfl,_,rfl,BY.2 rfl⟩
 simp only[B1,hp,Px,Tn.bytes h1,Tn.bytes h2,Option.bind_some,Option.map_some]
 rfl
end
end Go.Proofs.YtobejhpigbllpaaGreatDoor.Am
namespace Go.Proofs.YtobejhpigbllpaaGreatDoor.Am
section
variable{tb:CW}{Γ:Cx}{a b:AO}
theorem ZU{sz:Nat}: ∀(k:Nat) (css:List (List AV)) (cs:List AV),css.length=k→(∀e∈css,e.length=sz)→cs.take (k*sz)=css.flatten→BP sz k cs=css
 |0,css,cs,h,_,_=>by rw[List.eq_nil_of_length_eq_zero h];rfl
 |k+1,y::css,cs,hk,hall,hc=>by
  have hy:=hall y (by simp)
  simp only[BP]
  simp only[List.flatten_cons]at hc
  have hA:cs.take sz=y:=by
   have:=congrArg (List.take sz) hc
   rw[List.take_take,Nat.min_eq_left (by rw[Nat.succ_mul];omega),List.take_left' hy]at this
   exact this
  have hB:(cs.drop sz).take (k*sz)=css.flatten:=by
   have:=congrArg (List.drop sz) hc
   rw[List.drop_left' hy,List.drop_take,Nat.succ_mul,Nat.add_sub_cancel]at this
   exact this
  rw[hA,ZU k css (cs.drop sz) (by simpa using hk) (fun e he=>hall e (by simp[he])) hB]
theorem xO{t u:T}{x:t.α}{j o o' k m n N sz:Nat}{ps:List (Nat×AK)}(F:AL t (Ay n u) o')(hsz:sz=u.sz)(ha:C7 tb Γ a (.oc j (o+k*sz) sz m))(hj:AG Γ.ss j=some (.cells ps))(hp:Jm ps o=some (N, .val t x,o'))(hkm:k+m≤n)
  {E:Ph} {rv:Nat→AV} {fp:Fp} {f:Fr} {H:Av} (R:Bo E Γ rv fp f H):
  ∃id els,id<H.length∧fp j id∧eval tb f a= .ocel u.sz id (o+k*u.sz) m∧Eu H u.sz (.ocel u.sz id (o+k*u.sz) m)=some els∧CG u (Pf E Γ.ss fp H) H els (((F.get x).l.drop k).take m):=by
 subst hsz
 obtain⟨l,id,e,hv⟩:=ha E rv fp f H R
 obtain⟨cs,h0,h2,h3⟩:=FX R hj e
 obtain⟨b',c,e0,e1,e2,e3,e4,e5,_⟩:=FA h3 hp
 have hfp:fp j id:=(h0 id).2 rfl
 have hlt:=(R.fplt j id l hfp).1
 have hlen:=t.len e4
 have hle:=F.le
 have hszA:(Ay n u).sz=n*u.sz:=rfl
 rw[hszA]at hle
 have hmul:k*u.sz+m*u.sz≤n*u.sz:=by rw[←Nat.add_mul];exact Nat.mul_le_mul_right _ hkm
 obtain⟨css,q1,q2⟩:=F.getR e4
 have hlc:css.length=n:=by rw[q2.length];exact(F.get x).len
 have hs1:=e5 o' (n*u.sz) (by omega)
 rw[←e1]at hs1
 have hch:BP u.sz n (cs.drop o)=css:=ZU n css (cs.drop o) hlc q2.lens (by rw[show(cs.drop o).take (n*u.sz)=sub cs o (n*u.sz)from rfl,hs1,←q1];rfl)
 have hsub:=Ol (sz:=u.sz) (len:=n) (c:=k) (d:=k+m) (l:=cs.drop o) (by omega) hkm
 refine⟨id,(css.take (k+m)).drop k,hlt,hfp,hv,?_,?_⟩
 ·simp only[Eu,h2,Option.bind_some]
  rw[if_pos ⟨trivial,by omega⟩]
  rw[←hch,hsub,List.drop_drop,Nat.add_sub_cancel_left]
 ·have:=(q2.take (n:=k+m)).drop (n:=k)
  simp only[List.drop_take,Nat.add_sub_cancel_left]at this ⊢
  exact this
theorem a_s{t u:T}{x:t.α}{j o o' k m n N sz:Nat}{ps:List (Nat×AK)}(F:AL t (Ay n u) o')(hsz:sz=u.sz)(ha:C7 tb Γ a (.oc j (o+k*sz) sz m))(hj:AG Γ.ss j=some (.cells ps))(hp:Jm ps o=some (N, .val t x,o'))(hkm:k+m≤n):
  ArgP tb Γ a (T.sl u) (.mk (((F.get x).l.drop k).take m)):=by
 intro E rv fp f H R
 obtain⟨id,els,h1,_,h3,h4,h5⟩:=xO F hsz ha hj hp hkm R
 rw[h3]
 exact JU.2 ⟨h1,els,h4,h5.mono fun i hi=>⟨Pf.lt R.le hi,rfl⟩⟩
theorem iX{c:Prop} [Decidable c]{g:Nat}{As Rs:List T}{F:BS As→Option (BS Rs)}{l:List AO}{x:BS As}(sp:Spec tb g As Rs F)(fl:Tp Rs)(hx:c→Zi tb Γ As l x):Fw tb Γ (.call g l) (if c then F x else none) fun r=>vY Rs r:=by
 intro E rv fp f H R r hr
 split at hr
 ·rename_i hc;exact pW sp fl (hx hc) E rv fp f H R r hr
 ·cases hr
theorem L1{c:Prop} [Decidable c]{g:Nat}{As:List T}{t:T}{F:BS As→Option (BS [t])}{l:List AO}{x:BS As}(sp:Spec tb g As [t] F)(fl:Tp [t])(hx:c→Zi tb Γ As l x):Fw tb Γ (.call g l) (if c then F x else none) fun r:t.α=> .val t r:=iX sp fl hx
theorem tC{c:Prop} [Decidable c]{g:Nat}{As:List T}{t u:T}{Rs:List T}{F:BS As→Option (BS (t::u::Rs))}{l:List AO}{x:BS As}(sp:Spec tb g As (t::u::Rs) F)(fl:Tp (t::u::Rs))(hx:c→Zi tb Γ As l x):
  Fw tb Γ (.call g l) (if c then F x else none) fun r=> .tup (rB (t::u::Rs) r):=iX sp fl hx
theorem n_oc{t u:T}{x:t.α}{j o o' k m n N sz:Nat}{ps:List (Nat×AK)}(F:AL t (Ay n u) o')(hsz:sz=u.sz)(ha:C7 tb Γ a (.oc j (o+k*sz) sz m))(hj:AG Γ.ss j=some (.cells ps))(hp:Jm ps o=some (N, .val t x,o'))(hkm:k+m≤n):
  Aa9 tb Γ a u (((F.get x).l.drop k).take m):=by
 intro E rv fp f H R
 obtain⟨id,els,h1,_,h3,h4,h5⟩:=xO F hsz ha hj hp hkm R
 exact⟨els,by rw[h3];exact h4,h5⟩
theorem M_if{c:Prop} [Decidable c]{d:Option Nat}{o:HN}{α:Type}{A:Option α}{G:α→Cx}(h:c→Wd tb Γ d o A G):Wd tb Γ d o (if c then A else none) G:=by
 intro E rv fp f H R r hr
 split at hr
 ·rename_i hc;exact h hc E rv fp f H R r hr
 ·cases hr
variable{ks:List Kf}{ρ:Type}{Q:LT ρ}
def Ab{q:Bool}{d n:Nat}{l:List AT}{φ:AK}(h:BB Γ.ts n=some φ)(k:Aa tb (Γ.push d φ) (rg q l) ks Q):Aa tb Γ (rg q (⟨some d,none, .mv (.t n)⟩::l)) ks Q:=Ai (A1 (Ae h)) k
def Ah{q:Bool}{x y:AC}(s:Aa tb Γ x (.seq y::ks) Q):Aa tb Γ (rg q []) (.seq (.seq x y)::ks) Q:=Ac (Ad s)
theorem A4{op:BinOp}{a b:AO}{x y:Int}(h:pT op=true)(ha:C7 tb Γ a (.val (T.int .i64) x))(hb:C7 tb Γ b (.val (T.int .i64) y)):Fw tb Γ (.bin op a b) (some (cmpI op x y)) fun z=> .val T.b z:=ER (I:=IT.int .i64) h ha hb
abbrev oz(d:Nat)(x:HN):AT:=⟨some d,none,x⟩
abbrev on(x:HN):AT:=⟨none,none,x⟩
def tO(n:Int):AM:=(Utf8.encode n).data.toList
theorem h_cvcE{I:IT}{x:I.t.α}(ha:C7 tb Γ a (.val I.t x)):Fw tb Γ (.cvc a) (some (tO (I.toI x))) fun z=> .val Ax z:=h_cvcI ha
end
theorem sB{p:Prop}(h:p:=by repeat' constructor):p:=h
abbrev B6(tb:CW)(c:CI)(As Rs:List T)(a:BS As):=Aa tb ⟨UX As 0 a,[]⟩ c.body [] (QRes Rs c.res)
end Go.Proofs.YtobejhpigbllpaaGreatDoor.Am
section
set_option linter.unusedVariables false
set_option maxRecDepth 100000
set_option maxHeartbeats 4000000
namespace Go.Proofs.YtobejhpigbllpaaGreatDoor.Am
structure AB where
 V:Int
 B:(Ar UInt8 16)
 deriving DecidableEq
def Ak:T:=OW (CE (T.int .i64) (Ay 16 T.u8)) AB (fun x=>(x.V,x.B)) (fun p=>⟨p.1,p.2⟩) (fun _=>rfl)
def B8:AL Ak (T.int .i64) 0:=Dg (DN (Aw _))
def B5:AL Ak (Ay 16 T.u8) 1:=Dg (Bb (Aw _))
def EW:=Tq (g:=fun p=>⟨p.1,p.2⟩) (hfg:=fun _=>rfl) (JW (CT.int .i64) (Hs 16 CT.u8)) (fun(x y:AB)=>inferInstance) (f:=fun x=>(x.V,x.B)) (by rintro⟨⟩ ⟨⟩ h;cases h;rfl)
structure AF where
 A:AB
 Port:Int
 deriving DecidableEq
def Ao:T:=OW (CE Ak (T.int .i64)) AF (fun x=>(x.A,x.Port)) (fun p=>⟨p.1,p.2⟩) (fun _=>rfl)
def Dz:AL Ao Ak 0:=Dg (DN (Aw _))
def DF:AL Ao (T.int .i64) 17:=Dg (Bb (Aw _))
def Cu:=Tq (g:=fun p=>⟨p.1,p.2⟩) (hfg:=fun _=>rfl) (JW EW (CT.int .i64)) (fun(x y:AF)=>inferInstance) (f:=fun x=>(x.A,x.Port)) (by rintro⟨⟩ ⟨⟩ h;cases h;rfl)
structure Aq where
 A:AB
 Bits:Int
 deriving DecidableEq
def Aj:T:=OW (CE Ak (T.int .i64)) Aq (fun x=>(x.A,x.Bits)) (fun p=>⟨p.1,p.2⟩) (fun _=>rfl)
def BC:AL Aj Ak 0:=Dg (DN (Aw _))
def Cc:AL Aj (T.int .i64) 17:=Dg (Bb (Aw _))
def E9:=Tq (g:=fun p=>⟨p.1,p.2⟩) (hfg:=fun _=>rfl) (JW EW (CT.int .i64)) (fun(x y:Aq)=>inferInstance) (f:=fun x=>(x.A,x.Bits)) (by rintro⟨⟩ ⟨⟩ h;cases h;rfl)
structure Ba where
 Key:(Ar UInt8 32)
 Psk:(Ar UInt8 32)
 End:AF
 Keep:Int
 Sent:UInt64
 Got:UInt64
 Allowed:(GS Aq)
 deriving DecidableEq
def A5:T:=OW (CE (Ay 32 T.u8) (CE (Ay 32 T.u8) (CE Ao (CE (T.int .i64) (CE T.u64 (CE T.u64 (T.sl Aj))))))) Ba (fun x=>(x.Key,x.Psk,x.End,x.Keep,x.Sent,x.Got,x.Allowed)) (fun p=>⟨p.1,p.2.1,p.2.2.1,p.2.2.2.1,p.2.2.2.2.1,p.2.2.2.2.2.1,p.2.2.2.2.2.2⟩) (fun _=>rfl)
def EV:AL A5 (Ay 32 T.u8) 0:=Dg (DN (Aw _))
def PO:AL A5 (Ay 32 T.u8) 32:=Dg (Bb (DN (Aw _)))
def Eo:AL A5 Ao 64:=Dg (Bb (Bb (DN (Aw _))))
def Ix:AL A5 (T.int .i64) 82:=Dg (Bb (Bb (Bb (DN (Aw _)))))
def OX:AL A5 T.u64 83:=Dg (Bb (Bb (Bb (Bb (DN (Aw _))))))
def PP:AL A5 T.u64 84:=Dg (Bb (Bb (Bb (Bb (Bb (DN (Aw _)))))))
def Cr:AL A5 (T.sl Aj) 85:=Dg (Bb (Bb (Bb (Bb (Bb (Bb (Aw _)))))))
structure B4 where
 Private:(Ar UInt8 32)
 Port:Int
 Mark:UInt32
 Peers:(GS Ba)
 deriving DecidableEq
def AD:T:=OW (CE (Ay 32 T.u8) (CE (T.int .i64) (CE T.u32 (T.sl A5)))) B4 (fun x=>(x.Private,x.Port,x.Mark,x.Peers)) (fun p=>⟨p.1,p.2.1,p.2.2.1,p.2.2.2⟩) (fun _=>rfl)
def LO:AL AD (Ay 32 T.u8) 0:=Dg (DN (Aw _))
def Iy:AL AD (T.int .i64) 32:=Dg (Bb (DN (Aw _)))
def OY:AL AD T.u32 33:=Dg (Bb (Bb (DN (Aw _))))
def BV:AL AD (T.sl A5) 34:=Dg (Bb (Bb (Bb (Aw _))))
structure A7 where
 Key:AM
 Value:AM
 deriving DecidableEq
def Au:T:=OW (CE Ax Ax) A7 (fun x=>(x.Key,x.Value)) (fun p=>⟨p.1,p.2⟩) (fun _=>rfl)
def C0:AL Au Ax 0:=Dg (DN (Aw _))
def C3:AL Au Ax 1:=Dg (Bb (Aw _))
structure Ap where
 Word:Int
 Key:(Ar UInt8 32)
 N:UInt64
 End:AF
 P:Aq
 deriving DecidableEq
def Af:T:=OW (CE (T.int .i64) (CE (Ay 32 T.u8) (CE T.u64 (CE Ao Aj)))) Ap (fun x=>(x.Word,x.Key,x.N,x.End,x.P)) (fun p=>⟨p.1,p.2.1,p.2.2.1,p.2.2.2.1,p.2.2.2.2⟩) (fun _=>rfl)
def Az:AL Af (T.int .i64) 0:=Dg (DN (Aw _))
def Dr:AL Af (Ay 32 T.u8) 1:=Dg (Bb (DN (Aw _)))
def By:AL Af T.u64 33:=Dg (Bb (Bb (DN (Aw _))))
def Fj:AL Af Ao 34:=Dg (Bb (Bb (Bb (DN (Aw _)))))
def GO:AL Af Aj 52:=Dg (Bb (Bb (Bb (Bb (Aw _)))))
def CF:=Tq (g:=fun p=>⟨p.1,p.2.1,p.2.2.1,p.2.2.2.1,p.2.2.2.2⟩) (hfg:=fun _=>rfl) (JW (CT.int .i64) (JW (Hs 32 CT.u8) (JW CT.u64 (JW Cu E9)))) (fun(x y:Ap)=>inferInstance) (f:=fun x=>(x.Word,x.Key,x.N,x.End,x.P)) (by rintro⟨⟩ ⟨⟩ h;cases h;rfl)
structure Bm where
 Key:AM
 Value:AM
 deriving DecidableEq
def C2:T:=OW (CE Ax Ax) Bm (fun x=>(x.Key,x.Value)) (fun p=>⟨p.1,p.2⟩) (fun _=>rfl)
def Hr:AL C2 Ax 0:=Dg (DN (Aw _))
def JV:AL C2 Ax 1:=Dg (Bb (Aw _))
def Nx:(Ar UInt8 32)→(Ar UInt8 32)→Bool:=HH (Hs 32 CT.u8)
def GN:Aq→Aq→Bool:=HH E9
abbrev EZ:AM:=[48,48,48,49,48,50,48,51,48,52,48,53,48,54,48,55,48,56,48,57,49,48,49,49,49,50,49,51,49,52,49,53,49,54,49,55,49,56,49,57,50,48,50,49,50,50,50,51,50,52,50,53,50,54,50,55,50,56,50,57,51,48,51,49,51,50,51,51,51,52,51,53,51,54,51,55,51,56,51,57,52,48,52,49,52,50,52,51,52,52,52,53,52,54,52,55,52,56,52,57,53,48,53,49,53,50,53,51,53,52,53,53,53,54,53,55,53,56,53,57,54,48,54,49,54,50,54,51,54,52,54,53,54,54,54,55,54,56,54,57,55,48,55,49,55,50,55,51,55,52,55,53,55,54,55,55,55,56,55,57,56,48,56,49,56,50,56,51,56,52,56,53,56,54,56,55,56,56,56,57,57,48,57,49,57,50,57,51,57,52,57,53,57,54,57,55,57,56,57,57]
abbrev str_1:AM:=[0,1,2,2,3,3,3,3,4,4,4,4,4,4,4,4,5,5,5,5,5,5,5,5,5,5,5,5,5,5,5,5,6,6,6,6,6,6,6,6,6,6,6,6,6,6,6,6,6,6,6,6,6,6,6,6,6,6,6,6,6,6,6,6,7,7,7,7,7,7,7,7,7,7,7,7,7,7,7,7,7,7,7,7,7,7,7,7,7,7,7,7,7,7,7,7,7,7,7,7,7,7,7,7,7,7,7,7,7,7,7,7,7,7,7,7,7,7,7,7,7,7,7,7,7,7,7,7,8,8,8,8,8,8,8,8,8,8,8,8,8,8,8,8,8,8,8,8,8,8,8,8,8,8,8,8,8,8,8,8,8,8,8,8,8,8,8,8,8,8,8,8,8,8,8,8,8,8,8,8,8,8,8,8,8,8,8,8,8,8,8,8,8,8,8,8,8,8,8,8,8,8,8,8,8,8,8,8,8,8,8,8,8,8,8,8,8,8,8,8,8,8,8,8,8,8,8,8,8,8,8,8,8,8,8,8,8,8,8,8,8,8,8,8,8,8,8,8,8,8,8,8,8,8,8,8]
end Go.Proofs.YtobejhpigbllpaaGreatDoor.Am
end
section
set_option linter.unusedVariables false
set_option maxRecDepth 100000
set_option maxHeartbeats 4000000
namespace Go.Proofs.YtobejhpigbllpaaGreatDoor.Am
def DS:Nat:=6
def H8:Nat:=20
def H5:Nat:=22
def G0:Nat:=23
def ES:Nat:=24
def IK:Nat:=25
def H4:Nat:=26
def Ep:Nat:=28
def FQ:Nat:=29
def Gw:Nat:=30
def Es:Nat:=32
def GI:Nat:=35
def H7:Nat:=36
def IP:Nat:=38
def Dc:Nat:=39
def Gz:Nat:=41
def GJ:Nat:=43
def GG:Nat:=46
def FT:Nat:=47
def DA:Nat:=48
def Et:Nat:=49
def Cz:Nat:=50
def Hh:Nat:=51
def Gx:Nat:=52
def IR:Nat:=53
def Ea:Nat:=55
def CU:Nat:=60
def Bd:Nat:=61
def BE:Nat:=62
def E2:Nat:=64
def Ge:Nat:=65
def F6:Nat:=72
def FP:Nat:=73
def DT:Nat:=74
def Dd:Nat:=75
def EE:Nat:=76
def GK:Nat:=77
def IN:Nat:=78
def IM:Nat:=79
def Gy:Nat:=80
def IS:Nat:=81
def IU:Nat:=82
def Fd:Nat:=85
def EF:Nat:=90
def IX:Nat:=95
def Dk:Nat:=100
def B2:Nat:=105
def Fc:Nat:=106
def CD:Nat:=107
def IV:Nat:=108
def IW:Nat:=109
def EB:Nat:=118
def HD:Nat:=119
def D6:Nat:=120
def CM:Nat:=121
def DE:Nat:=122
def FV:Nat:=123
def EG:Nat:=124
def F8:Nat:=125
def Hg:Nat:=126
def JO:Nat:=127
def IQ:Nat:=128
def IL:Nat:=129
def H3:Nat:=130
def H6:Nat:=131
def BI:Nat:=132
def F9:Nat:=134
def Fs:Nat:=135
def Dh:Nat:=139
def F7:Nat:=142
def Bi:Nat:=144
def GH:Nat:=145
def I7:Nat:=146
def Hi:Nat:=147
def JQ:Nat:=154
def HF:Nat:=155
def HG:Nat:=156
def DD:Nat:=157
def ED:Nat:=158
def Hj:Nat:=159
def Hk:Nat:=160
def FU:Nat:=161
def CS:Nat:=162
def Id:Nat:=163
def H9:Nat:=165
def GL:Nat:=166
def BJ:Nat:=172
def Cj:Nat:=175
def E3:Nat:=176
def HE:Nat:=181
def EI:Nat:=182
def CC:Nat:=183
def BT:Nat:=184
def C9:Nat:=185
def BH:Nat:=186
def BL:Nat:=187
def HA:Nat:=188
def CO:Nat:=189
def CN:Nat:=190
def HB:Nat:=191
def CQ:Nat:=192
def CP:Nat:=193
def G1:Nat:=194
def Cp:Nat:=196
def HC:Nat:=197
def Co:Nat:=198
def B9:Nat:=199
def Bl:Nat:=200
def Bh:Nat:=201
def Im:Nat:=202
def Dj:Nat:=203
def Di:Nat:=204
def Fg:Nat:=205
def EH:Nat:=206
def Fq:Nat:=207
def Cn:Nat:=212
def BM:Nat:=213
def BW:Nat:=214
def JP:Nat:=215
def D2:Nat:=226
def Cm:Nat:=227
def D1:Nat:=228
def DI:Nat:=229
def Cs:Nat:=230
def Ff:Nat:=232
def FS:Nat:=233
def BN:Nat:=239
def DR:Nat:=240
def BO:Nat:=241
def B3:Nat:=248
def Fe:Nat:=249
noncomputable def GU:CI:=⟨false,1,39,[.tmp 2],(.seq (rg false [oz 1 (.box 54 35 (.t 0)),oz 2 (.mv (.k (.b false)))]) (.seq (.seq (rg false [oz 7 (.ld true 35 (.t 1)),oz 8 (.call H5 [(.t 7)])]) (.cond (.t 8) (.seq (rg false [oz 9 (.call G0 []),oz 2 (.mv (.t 9))]) .ret) .skip)) (.seq (rg false [oz 11 (.ld true 35 (.t 1)),oz 12 (.call ES [(.t 11)]),oz 10 (.mv (.t 12)),oz 13 (.ext (.t 10) 0),oz 14 (.ext (.t 10) 1),oz 3 (.mv (.t 13)),oz 4 (.mv (.t 14))]) (.seq (rg false [oz 16 (.ld true 35 (.t 1)),oz 17 (.call IK [(.t 16)]),oz 15 (.mv (.t 17)),oz 18 (.ext (.t 15) 0),oz 19 (.ext (.t 15) 1),oz 5 (.mv (.t 18)),oz 6 (.mv (.t 19))]) (.seq (rg false [oz 20 (.mv (.t 3)),oz 21 (.mv (.t 5)),oz 22 (.bin .eql (.t 20) (.t 21)),oz 23 (.mv (.t 22)),⟨some 24,some (23,true), .mv (.t 4)⟩,⟨some 25,some (23,true), .bin .eql (.t 24) (.k (.i .i64 0))⟩,⟨some 26,some (23,true), .mv (.t 6)⟩,⟨some 27,some (23,true), .eq false (.one (.b)) (.t 25) (.t 26)⟩,oz 28 (.pick (.t 23) (.t 27) (.k (.b false))),oz 29 (.mv (.t 28)),⟨some 30,some (29,true), .mv (.t 6)⟩,⟨some 31,some (29,true), .mv (.t 30)⟩,⟨some 32,some (31,false), .mv (.t 4)⟩,⟨some 33,some (31,false), .bin .eql (.t 32) (.k (.i .i64 1))⟩,⟨some 34,some (29,true), .pick (.t 31) (.k (.b true)) (.t 33)⟩,oz 35 (.pick (.t 29) (.t 34) (.k (.b false))),oz 36 (.mv (.t 35)),⟨some 37,some (36,true), .call G0 []⟩,oz 38 (.pick (.t 36) (.t 37) (.k (.b false))),oz 2 (.mv (.t 38))]) .ret)))))⟩
noncomputable def Mv:CI:=⟨false,1,19,[.tmp 2],(.seq (rg false [oz 2 (.mv (.k (.nils)))]) (.seq (rg false [oz 4 (.mv (.t 0)),oz 5 (.call Gz [(.t 4),(.k (.i .u8 10))]),oz 3 (.mv (.t 5))]) (.seq (.seq (rg false [oz 6 (.mv (.t 3)),oz 7 (.mv (.t 3)),oz 8 (.len (.t 7)),oz 9 (.bin .sub (.t 8) (.k (.i .i64 1))),oz 10 (.ias 1 (.t 6) (.t 9)),oz 11 (.ld false 1 (.t 10)),oz 12 (.bin .eql (.t 11) (.k (.s [])))]) (.cond (.t 12) (.seq (rg false [oz 13 (.mv (.t 3)),oz 14 (.mv (.t 3)),oz 15 (.len (.t 14)),oz 16 (.bin .sub (.t 15) (.k (.i .i64 1))),oz 17 (.sll 1 (.t 13) none (some (.t 16))),oz 2 (.mv (.t 17))]) .ret) .skip)) (.seq (rg false [oz 18 (.mv (.t 3)),oz 2 (.mv (.t 18))]) .ret))))⟩
noncomputable def XL:AC:=(.seq (.seq (rg false [oz 8 (.mv (.t 3)),oz 9 (.fa 34 (.t 1)),oz 10 (.ld false 1 (.t 9)),oz 11 (.len (.t 10)),oz 12 (.bin .lss (.t 8) (.t 11))]) (.cond (.t 12) .skip (.exit 0))) (.seq (.blk 1 (.seq (rg false [oz 15 (.fa 34 (.t 1)),oz 16 (.ld false 1 (.t 15)),oz 17 (.mv (.t 3)),oz 18 (.ias 86 (.t 16) (.t 17)),oz 19 (.fa 85 (.t 18)),oz 20 (.ld false 1 (.t 19)),oz 21 (.len (.t 20)),oz 22 (.bin .gtr (.t 21) (.k (.i .i64 80)))]) (.cond (.t 22) (.seq (rg false [oz 2 (.mv (.k (.b true)))]) .ret) .skip))) (rg false [oz 13 (.mv (.t 3)),oz 14 (.bin .add (.t 13) (.k (.i .i64 1))),oz 3 (.mv (.t 14))])))
noncomputable def Mn:CI:=⟨false,1,23,[.tmp 2],(.seq (rg false [oz 1 (.box 54 35 (.t 0)),oz 2 (.mv (.k (.b false)))]) (.seq (.seq (rg false [oz 4 (.fa 34 (.t 1)),oz 5 (.ld false 1 (.t 4)),oz 6 (.len (.t 5)),oz 7 (.bin .gtr (.t 6) (.k (.i .i64 20)))]) (.cond (.t 7) (.seq (rg false [oz 2 (.mv (.k (.b true)))]) .ret) .skip)) (.seq (.seq (rg false [oz 3 (.mv (.k (.i .i64 0)))]) (.blk 0 (.loop [1,3] XL))) (.seq (rg false [oz 2 (.mv (.k (.b false)))]) .ret))))⟩
noncomputable def Mz:CI:=⟨false,0,20,[.tmp 0],(.seq (rg false [oz 0 (.mv (.k (.b false)))]) (.seq (rg false [oz 4 (.bld AD.zc []),oz 5 (.call ES [(.t 4)]),oz 3 (.mv (.t 5)),oz 6 (.ext (.t 3) 0),oz 7 (.ext (.t 3) 1),oz 1 (.mv (.t 6)),oz 2 (.mv (.t 7))]) (.seq (rg false [oz 8 (.mv (.t 2)),oz 9 (.bin .eql (.t 8) (.k (.i .i64 0))),oz 10 (.mv (.t 9)),⟨some 11,some (10,true), .mv (.t 1)⟩,⟨some 12,some (10,true), .call H8 [(.t 11)]⟩,⟨some 13,some (10,true), .len (.t 12)⟩,⟨some 14,some (10,true), .bin .eql (.t 13) (.k (.i .i64 5))⟩,oz 15 (.pick (.t 10) (.t 14) (.k (.b false))),oz 16 (.mv (.t 15)),⟨some 17,some (16,true), .call Ep [(.k (.i .i64 7))]⟩,⟨some 18,some (16,true), .bin .eql (.t 17) (.k (.s [101,114,114,110,111,61,55,10,10]))⟩,oz 19 (.pick (.t 16) (.t 18) (.k (.b false))),oz 0 (.mv (.t 19))]) .ret)))⟩
noncomputable def Ul:AC:=(.seq (rg false [oz 26 (.bin .lss (.t 25) (.t 24))]) (.seq (.cond (.t 26) .skip (.exit 0)) (.seq (.blk 1 (.seq (rg false [oz 27 (.ias 86 (.t 23) (.t 25)),oz 28 (.ld true 86 (.t 27)),oz 6 (.alloc 89 A5.zc),on (.st 86 (.t 6) (.t 28))]) (rg false [oz 29 (.mv (.t 4)),oz 30 (.ld true 86 (.t 6)),oz 31 (.call FT [(.t 30)]),oz 32 (.app 93 70 112 (.t 29) (.t 31)),oz 4 (.mv (.t 32))]))) (rg false [oz 33 (.bin .add (.t 25) (.k (.i .i64 1))),oz 25 (.mv (.t 33))]))))
noncomputable def Kk:CI:=⟨false,1,42,[.tmp 2, .tmp 3],(.seq (rg false [oz 1 (.box 54 35 (.t 0)),oz 2 (.mv (.k (.s []))),oz 3 (.mv (.k (.i .i64 0)))]) (.seq (.seq (rg false [oz 7 (.ld true 35 (.t 1)),oz 8 (.call GG [(.t 7)]),oz 9 (.un .not (.t 8))]) (.cond (.t 9) (.seq (rg false [oz 2 (.mv (.k (.s []))),oz 3 (.mv (.k (.i .i64 1)))]) .ret) .skip)) (.seq (rg false [oz 10 (.fa 0 (.t 1)),oz 11 (.ld true 32 (.t 10)),oz 12 (.bld Af.zc [(0,1,(.k (.i .i64 1))),(1,32,(.t 11))]),oz 13 (.fa 32 (.t 1)),oz 14 (.ld false 1 (.t 13)),oz 15 (.cvi .u64 (.t 14)),oz 16 (.bld Af.zc [(0,1,(.k (.i .i64 2))),(33,1,(.t 15))]),oz 17 (.fa 33 (.t 1)),oz 18 (.ld false 1 (.t 17)),oz 19 (.cvi .u64 (.t 18)),oz 20 (.bld Af.zc [(0,1,(.k (.i .i64 3))),(33,1,(.t 19))]),oz 21 (.bls 93 70 (List.replicate 3 Af.zc) [(0,(.t 12)),(1,(.t 16)),(2,(.t 20))]),oz 4 (.mv (.t 21))]) (.seq (.seq (rg false [oz 22 (.fa 34 (.t 1)),oz 23 (.ld false 1 (.t 22)),oz 24 (.len (.t 23)),oz 25 (.mv (.k (.i .i64 0)))]) (.blk 0 (.loop [4,23,24,25] Ul))) (.seq (rg false [oz 34 (.mv (.t 4)),oz 35 (.bld Af.zc [(0,1,(.k (.i .i64 16)))]),oz 36 (.bll 70 (List.replicate 1 Af.zc) [(0,(.t 35))]),oz 37 (.app 93 70 112 (.t 34) (.t 36)),oz 38 (.call Et [(.t 37)]),oz 39 (.call DA [(.t 38)]),oz 40 (.ext (.t 39) 0),oz 41 (.ext (.t 39) 1),oz 2 (.mv (.t 40)),oz 3 (.mv (.t 41))]) .ret)))))⟩
noncomputable def Za:AC:=(.seq (.seq (rg false [oz 80 (.mv (.t 7)),oz 81 (.fa 85 (.t 6)),oz 82 (.ld false 1 (.t 81)),oz 83 (.len (.t 82)),oz 84 (.bin .lss (.t 80) (.t 83))]) (.cond (.t 84) .skip (.exit 2))) (.seq (.blk 3 (rg false [oz 87 (.mv (.t 4)),oz 88 (.fa 85 (.t 6)),oz 89 (.ld false 1 (.t 88)),oz 90 (.mv (.t 7)),oz 91 (.ias 18 (.t 89) (.t 90)),oz 92 (.ld true 18 (.t 91)),oz 93 (.bld Af.zc [(0,1,(.k (.i .i64 12))),(52,18,(.t 92))]),oz 94 (.call Cz [(.t 93)]),oz 95 (.bin .add (.t 87) (.t 94)),oz 4 (.mv (.t 95))])) (rg false [oz 85 (.mv (.t 7)),oz 86 (.bin .add (.t 85) (.k (.i .i64 1))),oz 7 (.mv (.t 86))])))
noncomputable def YZ:AC:=(.seq (.seq (rg false [oz 27 (.mv (.t 5)),oz 28 (.fa 34 (.t 1)),oz 29 (.ld false 1 (.t 28)),oz 30 (.len (.t 29)),oz 31 (.bin .lss (.t 27) (.t 30))]) (.cond (.t 31) .skip (.exit 0))) (.seq (.blk 1 (.seq (rg false [oz 34 (.fa 34 (.t 1)),oz 35 (.ld false 1 (.t 34)),oz 36 (.mv (.t 5)),oz 37 (.ias 86 (.t 35) (.t 36)),oz 38 (.ld true 86 (.t 37)),oz 6 (.alloc 89 A5.zc),on (.st 86 (.t 6) (.t 38))]) (.seq (rg true [oz 39 (.mv (.t 4)),oz 40 (.fa 0 (.t 6)),oz 41 (.ld true 32 (.t 40)),oz 42 (.bld Af.zc [(0,1,(.k (.i .i64 5))),(1,32,(.t 41))]),oz 43 (.call Cz [(.t 42)]),oz 44 (.bin .add (.t 39) (.t 43)),oz 45 (.fa 32 (.t 6)),oz 46 (.ld true 32 (.t 45)),oz 47 (.bld Af.zc [(0,1,(.k (.i .i64 8))),(1,32,(.t 46))]),oz 48 (.call Cz [(.t 47)]),oz 49 (.bin .add (.t 44) (.t 48)),oz 50 (.bld Af.zc [(0,1,(.k (.i .i64 13))),(33,1,(.k (.i .u64 1)))]),oz 51 (.call Cz [(.t 50)]),oz 52 (.bin .add (.t 49) (.t 51)),oz 4 (.mv (.t 52))]) (.seq (.seq (rg false [oz 53 (.fa 64 (.t 6)),oz 54 (.ld true 18 (.t 53)),oz 55 (.bld Ao.zc []),oz 56 (.eq true (.agg (kk [(1, .i .i64),(16, .i .u8),(1, .i .i64)])) (.t 54) (.t 55))]) (.cond (.t 56) (rg false [oz 57 (.mv (.t 4)),oz 58 (.fa 64 (.t 6)),oz 59 (.ld true 18 (.t 58)),oz 60 (.bld Af.zc [(0,1,(.k (.i .i64 9))),(34,18,(.t 59))]),oz 61 (.call Cz [(.t 60)]),oz 62 (.bin .add (.t 57) (.t 61)),oz 4 (.mv (.t 62))]) .skip)) (.seq (rg true [oz 63 (.mv (.t 4)),oz 64 (.fa 83 (.t 6)),oz 65 (.ld false 1 (.t 64)),oz 66 (.bld Af.zc [(0,1,(.k (.i .i64 14))),(33,1,(.t 65))]),oz 67 (.call Cz [(.t 66)]),oz 68 (.bin .add (.t 63) (.t 67)),oz 69 (.fa 84 (.t 6)),oz 70 (.ld false 1 (.t 69)),oz 71 (.bld Af.zc [(0,1,(.k (.i .i64 15))),(33,1,(.t 70))]),oz 72 (.call Cz [(.t 71)]),oz 73 (.bin .add (.t 68) (.t 72)),oz 74 (.fa 82 (.t 6)),oz 75 (.ld false 1 (.t 74)),oz 76 (.cvi .u64 (.t 75)),oz 77 (.bld Af.zc [(0,1,(.k (.i .i64 10))),(33,1,(.t 76))]),oz 78 (.call Cz [(.t 77)]),oz 79 (.bin .add (.t 73) (.t 78)),oz 4 (.mv (.t 79))])
  (.seq (rg false [oz 7 (.mv (.k (.i .i64 0)))]) (.blk 2 (.loop [1,4,5,6,7] Za)))))))) (rg false [oz 32 (.mv (.t 5)),oz 33 (.bin .add (.t 32) (.k (.i .i64 1))),oz 5 (.mv (.t 33))])))
noncomputable def Oy:CI:=⟨false,1,99,[.tmp 2, .tmp 3],(.seq (rg false [oz 1 (.box 54 35 (.t 0)),oz 2 (.mv (.k (.s []))),oz 3 (.mv (.k (.b false)))]) (.seq (.seq (rg false [oz 8 (.ld true 35 (.t 1)),oz 9 (.call H4 [(.t 8)]),oz 10 (.un .not (.t 9))]) (.cond (.t 10) (.seq (rg false [oz 2 (.mv (.k (.s []))),oz 3 (.mv (.k (.b false)))]) .ret) .skip)) (.seq (rg true [oz 11 (.fa 0 (.t 1)),oz 12 (.ld true 32 (.t 11)),oz 13 (.bld Af.zc [(0,1,(.k (.i .i64 1))),(1,32,(.t 12))]),oz 14 (.call Cz [(.t 13)]),oz 15 (.fa 32 (.t 1)),oz 16 (.ld false 1 (.t 15)),oz 17 (.cvi .u64 (.t 16)),oz 18 (.bld Af.zc [(0,1,(.k (.i .i64 2))),(33,1,(.t 17))]),oz 19 (.call Cz [(.t 18)]),oz 20 (.bin .add (.t 14) (.t 19)),oz 21 (.fa 33 (.t 1)),oz 22 (.ld false 1 (.t 21)),oz 23 (.cvi .u64 (.t 22)),oz 24 (.bld Af.zc [(0,1,(.k (.i .i64 3))),(33,1,(.t 23))]),oz 25 (.call Cz [(.t 24)]),oz 26 (.bin .add (.t 20) (.t 25)),oz 4 (.mv (.t 26))]) (.seq (.seq (rg false [oz 5 (.mv (.k (.i .i64 0)))]) (.blk 0 (.loop [1,4,5] YZ))) (.seq (rg false [oz 96 (.mv (.t 4)),oz 97 (.call FQ [(.k (.i .i64 0))]),oz 98 (.bin .add (.t 96) (.t 97)),oz 2 (.mv (.t 98)),oz 3 (.mv (.k (.b true)))]) .ret)))))⟩
noncomputable def XK:AC:=(.seq (.seq (rg false [oz 54 (.mv (.t 6)),oz 55 (.mv (.t 4)),oz 56 (.bin .lss (.t 54) (.t 55))]) (.cond (.t 56) .skip (.exit 2))) (.seq (.blk 3 (.seq (rg true [oz 59 (.fa 34 (.t 1)),oz 60 (.ld false 1 (.t 59)),oz 61 (.mv (.t 6)),oz 62 (.ias 86 (.t 60) (.t 61)),oz 63 (.fa 0 (.t 62)),oz 64 (.ld true 32 (.t 63)),oz 65 (.fa 0 (.t 5)),oz 66 (.ld true 32 (.t 65)),oz 67 (.eq false (.agg (kk [(32, .i .u8)])) (.t 64) (.t 66))]) (.cond (.t 67) (.seq (rg false [oz 2 (.mv (.k (.b false)))]) .ret) .skip))) (rg false [oz 57 (.mv (.t 6)),oz 58 (.bin .add (.t 57) (.k (.i .i64 1))),oz 6 (.mv (.t 58))])))
noncomputable def XJ:AC:=(.seq (.seq (rg false [oz 98 (.mv (.t 9)),oz 99 (.mv (.t 3)),oz 100 (.len (.t 99)),oz 101 (.bin .lss (.t 98) (.t 100))]) (.cond (.t 101) .skip (.exit 6))) (.seq (.blk 7 (.seq (rg true [oz 104 (.mv (.t 3)),oz 105 (.mv (.t 9)),oz 106 (.ias 18 (.t 104) (.t 105)),oz 107 (.ld true 18 (.t 106)),oz 108 (.ld true 18 (.t 8)),oz 109 (.eq false (.agg (kk [(1, .i .i64),(16, .i .u8),(1, .i .i64)])) (.t 107) (.t 108))]) (.cond (.t 109) (.seq (rg false [oz 2 (.mv (.k (.b false)))]) .ret) .skip))) (rg false [oz 102 (.mv (.t 9)),oz 103 (.bin .add (.t 102) (.k (.i .i64 1))),oz 9 (.mv (.t 103))])))
noncomputable def XI:AC:=(.seq (.seq (rg false [oz 68 (.mv (.t 7)),oz 69 (.fa 85 (.t 5)),oz 70 (.ld false 1 (.t 69)),oz 71 (.len (.t 70)),oz 72 (.bin .lss (.t 68) (.t 71))]) (.cond (.t 72) .skip (.exit 4))) (.seq (.blk 5 (.seq (rg false [oz 75 (.fa 85 (.t 5)),oz 76 (.ld false 1 (.t 75)),oz 77 (.mv (.t 7)),oz 78 (.ias 18 (.t 76) (.t 77)),oz 79 (.ld true 18 (.t 78)),oz 8 (.alloc 91 Aj.zc),on (.st 18 (.t 8) (.t 79))]) (.seq (.seq (rg true [oz 80 (.ld true 18 (.t 8)),oz 81 (.call Gx [(.t 80)]),oz 82 (.un .not (.t 81)),oz 83 (.mv (.t 82)),⟨some 84,some (83,false), .mv (.t 7)⟩,⟨some 85,some (83,false), .bin .gtr (.t 84) (.k (.i .i64 0))⟩,⟨some 86,some (83,false), .mv (.t 85)⟩,⟨some 87,some (86,true), .fa 85 (.t 5)⟩,⟨some 88,some (86,true), .ld false 1 (.t 87)⟩,⟨some 89,some (86,true), .mv (.t 7)⟩,⟨some 90,some (86,true), .bin .sub (.t 89) (.k (.i .i64 1))⟩,⟨some 91,some (86,true), .ias 18 (.t 88) (.t 90)⟩,⟨some 92,some (86,true), .ld true 18 (.t 91)⟩,⟨some 93,some (86,true), .ld true 18 (.t 8)⟩,⟨some 94,some (86,true), .call IR [(.t 92),(.t 93)]⟩,⟨some 95,some (86,true), .un .not (.t 94)⟩,⟨some 96,some (83,false), .pick (.t 86) (.t 95) (.k (.b false))⟩,oz 97 (.pick (.t 83) (.k (.b true)) (.t 96))]) (.cond (.t 97) (.seq (rg false [oz 2 (.mv (.k (.b false)))]) .ret) .skip)) (.seq (.seq (rg false [oz 9 (.mv (.k (.i .i64 0)))]) (.blk 6 (.loop [1,3,4,5,7,8,9] XJ))) (rg false [oz 110 (.mv (.t 3)),oz 111 (.ld true 18 (.t 8)),oz 112 (.bll 18 (List.replicate 1 Aj.zc) [(0,(.t 111))]),oz 113 (.app 91 18 32 (.t 110) (.t 112)),oz 3 (.mv (.t 113))])))))
 (rg false [oz 73 (.mv (.t 7)),oz 74 (.bin .add (.t 73) (.k (.i .i64 1))),oz 7 (.mv (.t 74))])))
noncomputable def XH:AC:=(.seq (.seq (rg false [oz 20 (.mv (.t 4)),oz 21 (.fa 34 (.t 1)),oz 22 (.ld false 1 (.t 21)),oz 23 (.len (.t 22)),oz 24 (.bin .lss (.t 20) (.t 23))]) (.cond (.t 24) .skip (.exit 0))) (.seq (.blk 1 (.seq (rg false [oz 27 (.fa 34 (.t 1)),oz 28 (.ld false 1 (.t 27)),oz 29 (.mv (.t 4)),oz 30 (.ias 86 (.t 28) (.t 29)),oz 31 (.ld true 86 (.t 30)),oz 5 (.alloc 89 A5.zc),on (.st 86 (.t 5) (.t 31))]) (.seq (.seq (rg false [oz 32 (.fa 0 (.t 5)),oz 33 (.ld true 32 (.t 32)),oz 34 (.bld (Ay 32 T.u8).zc []),oz 35 (.eq false (.agg (kk [(32, .i .u8)])) (.t 33) (.t 34)),oz 36 (.mv (.t 35)),⟨some 37,some (36,false), .fa 82 (.t 5)⟩,⟨some 38,some (36,false), .ld false 1 (.t 37)⟩,⟨some 39,some (36,false), .call Hh [(.t 38)]⟩,⟨some 40,some (36,false), .un .not (.t 39)⟩,oz 41 (.pick (.t 36) (.k (.b true)) (.t 40)),oz 42 (.mv (.t 41)),⟨some 43,some (42,false), .fa 64 (.t 5)⟩,⟨some 44,some (42,false), .ld true 18 (.t 43)⟩,⟨some 45,some (42,false), .bld Ao.zc []⟩,⟨some 46,some (42,false), .eq true (.agg (kk [(1, .i .i64),(16, .i .u8),(1, .i .i64)])) (.t 44) (.t 45)⟩,⟨some 47,some (42,false), .mv (.t 46)⟩,⟨some 48,some (47,true), .fa 64 (.t 5)⟩,⟨some 49,some (47,true), .ld true 18 (.t 48)⟩,⟨some 50,some (47,true), .call Gw [(.t 49)]⟩,⟨some 51,some (47,true), .un .not (.t 50)⟩,⟨some 52,some (42,false), .pick (.t 47) (.t 51) (.k (.b false))⟩,oz 53 (.pick (.t 42) (.k (.b true)) (.t 52))]) (.cond (.t 53) (.seq (rg false [oz 2 (.mv (.k (.b false)))]) .ret) .skip)) (.seq (.seq (rg false [oz 6 (.mv (.k (.i .i64 0)))])
  (.blk 2 (.loop [1,3,4,5,6] XK))) (.seq (rg false [oz 7 (.mv (.k (.i .i64 0)))]) (.blk 4 (.loop [1,3,4,5,7] XI))))))) (rg false [oz 25 (.mv (.t 4)),oz 26 (.bin .add (.t 25) (.k (.i .i64 1))),oz 4 (.mv (.t 26))])))
noncomputable def Mm:CI:=⟨false,1,117,[.tmp 2],(.seq (rg false [oz 1 (.box 54 35 (.t 0)),oz 2 (.mv (.k (.b false)))]) (.seq (.seq (rg false [oz 10 (.fa 32 (.t 1)),oz 11 (.ld false 1 (.t 10)),oz 12 (.call Hh [(.t 11)]),oz 13 (.un .not (.t 12)),oz 14 (.mv (.t 13)),⟨some 15,some (14,false), .fa 34 (.t 1)⟩,⟨some 16,some (14,false), .ld false 1 (.t 15)⟩,⟨some 17,some (14,false), .len (.t 16)⟩,⟨some 18,some (14,false), .bin .gtr (.t 17) (.k (.i .i64 16))⟩,oz 19 (.pick (.t 14) (.k (.b true)) (.t 18))]) (.cond (.t 19) (.seq (rg false [oz 2 (.mv (.k (.b false)))]) .ret) .skip)) (.seq (rg false [oz 3 (.mv (.k (.nils)))]) (.seq (.seq (rg false [oz 4 (.mv (.k (.i .i64 0)))]) (.blk 0 (.loop [1,3,4] XH))) (.seq (rg false [oz 114 (.mv (.t 3)),oz 115 (.len (.t 114)),oz 116 (.bin .leq (.t 115) (.k (.i .i64 64))),oz 2 (.mv (.t 116))]) .ret)))))⟩
noncomputable def HL:CI:=⟨false,1,21,[.tmp 2],(.seq (rg false [oz 2 (.mv (.k (.s [])))]) (.seq (.seq (rg false [oz 5 (.mv (.t 0)),oz 6 (.bin .lss (.t 5) (.k (.i .i64 0))),oz 7 (.mv (.t 6)),⟨some 8,some (7,false), .mv (.t 0)⟩,⟨some 9,some (7,false), .bin .gtr (.t 8) (.k (.i .i64 20))⟩,oz 10 (.pick (.t 7) (.k (.b true)) (.t 9))]) (.cond (.t 10) (rg false [oz 0 (.mv (.k (.i .i64 1)))]) .skip)) (.seq (rg false [oz 12 (.mv (.t 0)),oz 13 (.cvi .u64 (.t 12)),oz 14 (.bld Af.zc [(0,1,(.k (.i .i64 16))),(33,1,(.t 13))]),oz 15 (.bll 70 (List.replicate 1 Af.zc) [(0,(.t 14))]),oz 16 (.call Et [(.t 15)]),oz 17 (.call DA [(.t 16)]),oz 11 (.mv (.t 17)),oz 18 (.ext (.t 11) 0),oz 19 (.ext (.t 11) 1),oz 3 (.mv (.t 18)),oz 4 (.mv (.t 19))]) (.seq (rg false [oz 20 (.mv (.t 3)),oz 2 (.mv (.t 20))]) .ret))))⟩
noncomputable def Kh:CI:=⟨false,1,14,[.tmp 2],(.seq (rg false [oz 2 (.mv (.k (.s [])))]) (.seq (.seq (rg false [oz 3 (.mv (.t 0)),oz 4 (.bin .lss (.t 3) (.k (.i .i64 0))),oz 5 (.mv (.t 4)),⟨some 6,some (5,false), .mv (.t 0)⟩,⟨some 7,some (5,false), .bin .gtr (.t 6) (.k (.i .i64 20))⟩,oz 8 (.pick (.t 5) (.k (.b true)) (.t 7))]) (.cond (.t 8) (rg false [oz 0 (.mv (.k (.i .i64 1)))]) .skip)) (.seq (rg false [oz 9 (.mv (.t 0)),oz 10 (.cvi .u64 (.t 9)),oz 11 (.call Dc [(.t 10)]),oz 12 (.bin .add (.k (.s [101,114,114,110,111,61])) (.t 11)),oz 13 (.bin .add (.t 12) (.k (.s [10,10]))),oz 2 (.mv (.t 13))]) .ret)))⟩
noncomputable def Mo:CI:=⟨false,1,16,[.tmp 2],(.seq (rg false [oz 1 (.box 27 18 (.t 0)),oz 2 (.mv (.k (.b false)))]) (.seq (rg false [oz 3 (.fa 0 (.t 1)),oz 4 (.ld true 17 (.t 3)),oz 5 (.call Ea [(.t 4)]),oz 6 (.mv (.t 5)),⟨some 7,some (6,true), .fa 17 (.t 1)⟩,⟨some 8,some (6,true), .ld false 1 (.t 7)⟩,⟨some 9,some (6,true), .bin .geq (.t 8) (.k (.i .i64 1))⟩,oz 10 (.pick (.t 6) (.t 9) (.k (.b false))),oz 11 (.mv (.t 10)),⟨some 12,some (11,true), .fa 17 (.t 1)⟩,⟨some 13,some (11,true), .ld false 1 (.t 12)⟩,⟨some 14,some (11,true), .bin .leq (.t 13) (.k (.i .i64 65535))⟩,oz 15 (.pick (.t 11) (.t 14) (.k (.b false))),oz 2 (.mv (.t 15))]) .ret))⟩
noncomputable def Ta:AC:=(.seq (rg false [oz 42 (.bin .lss (.t 41) (.t 40))]) (.seq (.cond (.t 42) .skip (.exit 1)) (.seq (.blk 2 (.seq (rg false [oz 43 (.ias 1 (.t 39) (.t 41)),oz 44 (.ld false 1 (.t 43)),oz 7 (.mv (.t 44))]) (.seq (.seq (rg false [oz 45 (.mv (.t 7)),oz 46 (.lens (.t 45)),oz 47 (.mv (.t 5)),oz 48 (.bin .sub (.k (.i .i64 9223372036854775807)) (.t 47)),oz 49 (.bin .gtr (.t 46) (.t 48))]) (.cond (.t 49) (rg false [oz 50 (.mkif 9 (.k (.s [115,116,114,105,110,103,115,58,32,74,111,105,110,32,111,117,116,112,117,116,32,108,101,110,103,116,104,32,111,118,101,114,102,108,111,119]))),on (.die)]) .skip)) (rg false [oz 51 (.mv (.t 5)),oz 52 (.mv (.t 7)),oz 53 (.lens (.t 52)),oz 54 (.bin .add (.t 51) (.t 53)),oz 5 (.mv (.t 54))])))) (rg false [oz 55 (.bin .add (.t 41) (.k (.i .i64 1))),oz 41 (.mv (.t 55))]))))
noncomputable def SZ:AC:=(.seq (rg false [oz 66 (.bin .lss (.t 65) (.t 64))]) (.seq (.cond (.t 66) .skip (.exit 3)) (.seq (.blk 4 (.seq (rg false [oz 67 (.ias 1 (.t 63) (.t 65)),oz 68 (.ld false 1 (.t 67)),oz 10 (.mv (.t 68))]) (.seq (rg false [oz 69 (.mv (.t 1)),oz 70 (.call Bd [(.t 8),(.t 69)])]) (rg false [oz 71 (.mv (.t 10)),oz 72 (.call Bd [(.t 8),(.t 71)])])))) (rg false [oz 73 (.bin .add (.t 65) (.k (.i .i64 1))),oz 65 (.mv (.t 73))]))))
noncomputable def Jp:CI:=⟨false,2,75,[.tmp 4],(.seq (rg false [oz 4 (.mv (.k (.s [])))]) (.seq (.seq (rg false [oz 11 (.mv (.t 0)),oz 12 (.len (.t 11))]) (.blk 0 (.seq (rg false [oz 14 (.bin .eql (.t 12) (.k (.i .i64 0))),oz 13 (.mv (.t 14))]) (.cond (.t 13) (.seq (rg false [oz 4 (.mv (.k (.s [])))]) .ret) (.seq (rg false [oz 16 (.bin .eql (.t 12) (.k (.i .i64 1))),oz 15 (.mv (.t 16))]) (.cond (.t 15) (.seq (rg false [oz 17 (.mv (.t 0)),oz 18 (.ias 1 (.t 17) (.k (.i .i64 0))),oz 19 (.ld false 1 (.t 18)),oz 4 (.mv (.t 19))]) .ret) .skip)))))) (.seq (rg false [oz 5 (.mv (.k (.i .i64 0)))]) (.seq (.seq (rg false [oz 20 (.mv (.t 1)),oz 21 (.lens (.t 20)),oz 22 (.bin .gtr (.t 21) (.k (.i .i64 0)))]) (.cond (.t 22) (.seq (.seq (rg false [oz 23 (.mv (.t 1)),oz 24 (.lens (.t 23)),oz 25 (.mv (.t 0)),oz 26 (.len (.t 25)),oz 27 (.bin .sub (.t 26) (.k (.i .i64 1))),oz 28 (.bin .quo (.k (.i .i64 9223372036854775807)) (.t 27)),oz 29 (.bin .geq (.t 24) (.t 28))]) (.cond (.t 29) (rg false [oz 30 (.mkif 9 (.k (.s [115,116,114,105,110,103,115,58,32,74,111,105,110,32,111,117,116,112,117,116,32,108,101,110,103,116,104,32,111,118,101,114,102,108,111,119]))),on (.die)]) .skip)) (rg false [oz 31 (.mv (.t 5)),oz 32 (.mv (.t 1)),oz 33 (.lens (.t 32)),oz 34 (.mv (.t 0)),oz 35 (.len (.t 34)),oz 36 (.bin .sub (.t 35) (.k (.i .i64 1))),oz 37 (.bin .mul (.t 33) (.t 36)),oz 38 (.bin .add (.t 31) (.t 37)),oz 5 (.mv (.t 38))])) .skip)) (.seq (.seq (rg false [oz 39 (.mv (.t 0)),oz 40 (.len (.t 39)),oz 41 (.mv (.k (.i .i64 0)))])
 (.blk 1 (.loop [0,1,5,39,40,41] Ta))) (.seq (rg false [oz 8 (.alloc 107 (zz [(1, .nilp),(1, .nils)]))]) (.seq (rg false [oz 56 (.mv (.t 5)),oz 57 (.call CU [(.t 8),(.t 56)])]) (.seq (rg false [oz 58 (.mv (.t 0)),oz 59 (.ias 1 (.t 58) (.k (.i .i64 0))),oz 60 (.ld false 1 (.t 59)),oz 61 (.call Bd [(.t 8),(.t 60)])]) (.seq (.seq (rg false [oz 62 (.mv (.t 0)),oz 63 (.sll 1 (.t 62) (some (.k (.i .i64 1))) none),oz 64 (.len (.t 63)),oz 65 (.mv (.k (.i .i64 0)))]) (.blk 3 (.loop [1,8,63,64,65] SZ))) (.seq (rg false [oz 74 (.call BE [(.t 8)]),oz 4 (.mv (.t 74))]) .ret))))))))))⟩
noncomputable def VJ:AC:=(.seq (.seq (rg false [oz 5 (.mv (.t 4)),oz 6 (.mv (.t 0)),oz 7 (.len (.t 6)),oz 8 (.bin .lss (.t 5) (.t 7))]) (.cond (.t 8) .skip (.exit 0))) (.seq (.blk 1 (rg true [oz 11 (.mv (.t 3)),oz 12 (.mv (.t 0)),oz 13 (.mv (.t 4)),oz 14 (.ias 1 (.t 12) (.t 13)),oz 15 (.ld false 1 (.t 14)),oz 16 (.cvi .i64 (.t 15)),oz 17 (.bin .quo (.t 16) (.k (.i .i64 16))),oz 18 (.call E2 [(.t 17)]),oz 19 (.bin .add (.t 11) (.t 18)),oz 20 (.mv (.t 0)),oz 21 (.mv (.t 4)),oz 22 (.ias 1 (.t 20) (.t 21)),oz 23 (.ld false 1 (.t 22)),oz 24 (.cvi .i64 (.t 23)),oz 25 (.bin .rem (.t 24) (.k (.i .i64 16))),oz 26 (.call E2 [(.t 25)]),oz 27 (.bin .add (.t 19) (.t 26)),oz 3 (.mv (.t 27))])) (rg false [oz 9 (.mv (.t 4)),oz 10 (.bin .add (.t 9) (.k (.i .i64 1))),oz 4 (.mv (.t 10))])))
noncomputable def Ln:CI:=⟨false,1,29,[.tmp 2],(.seq (rg false [oz 2 (.mv (.k (.s [])))]) (.seq (rg false [oz 3 (.mv (.k (.s [])))]) (.seq (.seq (rg false [oz 4 (.mv (.k (.i .i64 0)))]) (.blk 0 (.loop [0,3,4] VJ))) (.seq (rg false [oz 28 (.mv (.t 3)),oz 2 (.mv (.t 28))]) .ret))))⟩
noncomputable def XO:AC:=(.seq (.seq (rg false [oz 5 (.mv (.t 4)),oz 6 (.bin .lss (.t 5) (.k (.i .i64 32)))]) (.cond (.t 6) .skip (.exit 0))) (.seq (.blk 1 (rg false [oz 9 (.mv (.t 3)),oz 10 (.mv (.t 4)),oz 11 (.iaa 32 1 (.t 1) (.t 10)),oz 12 (.ld false 1 (.t 11)),oz 13 (.bll 1 (List.replicate 1 T.u8.zc) [(0,(.t 12))]),oz 14 (.app 5 1 1 (.t 9) (.t 13)),oz 3 (.mv (.t 14))])) (rg false [oz 7 (.mv (.t 4)),oz 8 (.bin .add (.t 7) (.k (.i .i64 1))),oz 4 (.mv (.t 8))])))
noncomputable def Mt:CI:=⟨false,1,16,[.tmp 2],(.seq (rg false [oz 1 (.box 29 32 (.t 0)),oz 2 (.mv (.k (.nils)))]) (.seq (rg false [oz 3 (.mv (.k (.nils)))]) (.seq (.seq (rg false [oz 4 (.mv (.k (.i .i64 0)))]) (.blk 0 (.loop [1,3,4] XO))) (.seq (rg false [oz 15 (.mv (.t 3)),oz 2 (.mv (.t 15))]) .ret))))⟩
noncomputable def O3:CI:=⟨false,1,28,[.tmp 2],(.seq (rg false [oz 1 (.box 27 18 (.t 0)),oz 2 (.mv (.k (.s [])))]) (.seq (.seq (rg false [oz 4 (.ld true 18 (.t 1)),oz 5 (.call Gw [(.t 4)]),oz 6 (.un .not (.t 5))]) (.cond (.t 6) (.seq (rg false [oz 2 (.mv (.k (.s [])))]) .ret) .skip)) (.seq (rg false [oz 7 (.fa 17 (.t 1)),oz 8 (.ld false 1 (.t 7)),oz 9 (.cvi .u64 (.t 8)),oz 10 (.call Dc [(.t 9)]),oz 11 (.bin .add (.k (.s [58])) (.t 10)),oz 3 (.mv (.t 11))]) (.seq (.seq (rg false [oz 12 (.fa 0 (.t 1)),oz 13 (.fa 0 (.t 12)),oz 14 (.ld false 1 (.t 13)),oz 15 (.bin .eql (.t 14) (.k (.i .i64 6)))]) (.cond (.t 15) (.seq (rg false [oz 16 (.fa 0 (.t 1)),oz 17 (.ld true 17 (.t 16)),oz 18 (.call Ge [(.t 17)]),oz 19 (.bin .add (.k (.s [91])) (.t 18)),oz 20 (.bin .add (.t 19) (.k (.s [93]))),oz 21 (.mv (.t 3)),oz 22 (.bin .add (.t 20) (.t 21)),oz 2 (.mv (.t 22))]) .ret) .skip)) (.seq (rg false [oz 23 (.fa 0 (.t 1)),oz 24 (.ld true 17 (.t 23)),oz 25 (.call Ge [(.t 24)]),oz 26 (.mv (.t 3)),oz 27 (.bin .add (.t 25) (.t 26)),oz 2 (.mv (.t 27))]) .ret)))))⟩
noncomputable def OB:CI:=⟨false,1,18,[.tmp 2],(.seq (rg false [oz 2 (.mv (.k (.s [])))]) (.seq (rg false [oz 4 (.mv (.t 0)),oz 5 (.bin .rem (.t 4) (.k (.i .u64 10))),oz 6 (.bin .add (.k (.i .u64 48)) (.t 5)),oz 7 (.cvi .u8 (.t 6)),oz 8 (.bls 5 1 (List.replicate 1 T.u8.zc) [(0,(.t 7))]),oz 9 (.cvs (.t 8)),oz 3 (.mv (.t 9))]) (.seq (.seq (rg false [oz 10 (.mv (.t 0)),oz 11 (.bin .lss (.t 10) (.k (.i .u64 10)))]) (.cond (.t 11) (.seq (rg false [oz 12 (.mv (.t 3)),oz 2 (.mv (.t 12))]) .ret) .skip)) (.seq (rg false [oz 13 (.mv (.t 0)),oz 14 (.bin .quo (.t 13) (.k (.i .u64 10))),oz 15 (.call Dc [(.t 14)]),oz 16 (.mv (.t 3)),oz 17 (.bin .add (.t 15) (.t 16)),oz 2 (.mv (.t 17))]) .ret))))⟩
noncomputable def XP:AC:=(.seq (.seq (rg false [oz 8 (.mv (.t 7)),oz 9 (.mv (.t 0)),oz 10 (.lens (.t 9)),oz 11 (.bin .lss (.t 8) (.t 10))]) (.cond (.t 11) .skip (.exit 0))) (.seq (.blk 1 (.seq (rg false [oz 14 (.mv (.t 0)),oz 15 (.mv (.t 7)),oz 16 (.ixs (.t 14) (.t 15)),oz 17 (.mv (.t 1)),oz 18 (.bin .eql (.t 16) (.t 17))]) (.cond (.t 18) (.seq (rg false [oz 19 (.mv (.t 6)),oz 20 (.mv (.t 0)),oz 21 (.mv (.t 5)),oz 22 (.mv (.t 7)),oz 23 (.sls (.t 20) (some (.t 21)) (some (.t 22))),oz 24 (.bll 1 (List.replicate 1 Ax.zc) [(0,(.t 23))]),oz 25 (.app 9 1 16 (.t 19) (.t 24)),oz 6 (.mv (.t 25))]) (rg false [oz 26 (.mv (.t 7)),oz 27 (.bin .add (.t 26) (.k (.i .i64 1))),oz 5 (.mv (.t 27))])) .skip))) (rg false [oz 12 (.mv (.t 7)),oz 13 (.bin .add (.t 12) (.k (.i .i64 1))),oz 7 (.mv (.t 13))])))
noncomputable def Mu:CI:=⟨false,2,34,[.tmp 4],(.seq (rg false [oz 4 (.mv (.k (.nils)))]) (.seq (rg false [oz 5 (.mv (.k (.i .i64 0)))]) (.seq (rg false [oz 6 (.mv (.k (.nils)))]) (.seq (.seq (rg false [oz 7 (.mv (.k (.i .i64 0)))]) (.blk 0 (.loop [0,1,5,6,7] XP))) (.seq (rg false [oz 28 (.mv (.t 6)),oz 29 (.mv (.t 0)),oz 30 (.mv (.t 5)),oz 31 (.sls (.t 29) (some (.t 30)) none),oz 32 (.bll 1 (List.replicate 1 Ax.zc) [(0,(.t 31))]),oz 33 (.app 9 1 16 (.t 28) (.t 32)),oz 4 (.mv (.t 33))]) .ret)))))⟩
noncomputable def VK:AC:=(.seq (rg false [oz 9 (.bin .lss (.t 8) (.t 7))]) (.seq (.cond (.t 9) .skip (.exit 0)) (.seq (.blk 1 (.seq (rg false [oz 10 (.ias 1 (.t 6) (.t 8)),oz 11 (.ld false 1 (.t 10)),oz 5 (.mv (.t 11))]) (.seq (rg false [oz 12 (.mv (.t 5)),oz 13 (.call Bd [(.t 3),(.t 12)])]) (rg false [oz 14 (.call Bd [(.t 3),(.k (.s [10]))])])))) (rg false [oz 15 (.bin .add (.t 8) (.k (.i .i64 1))),oz 8 (.mv (.t 15))]))))
noncomputable def Lo:CI:=⟨false,1,17,[.tmp 2],(.seq (rg false [oz 2 (.mv (.k (.s [])))]) (.seq (rg false [oz 3 (.alloc 107 (zz [(1, .nilp),(1, .nils)]))]) (.seq (.seq (rg false [oz 6 (.mv (.t 0)),oz 7 (.len (.t 6)),oz 8 (.mv (.k (.i .i64 0)))]) (.blk 0 (.loop [3,6,7,8] VK))) (.seq (rg false [oz 16 (.call BE [(.t 3)]),oz 2 (.mv (.t 16))]) .ret))))⟩
noncomputable def VH:AC:=(.seq (rg false [oz 63 (.bin .lss (.t 62) (.t 61))]) (.seq (.cond (.t 63) .skip (.exit 2)) (.seq (.blk 3 (.seq (rg false [oz 64 (.ias 18 (.t 60) (.t 62)),oz 65 (.ld true 18 (.t 64)),oz 8 (.alloc 91 Aj.zc),on (.st 18 (.t 8) (.t 65))]) (.seq (.seq (rg false [oz 66 (.mv (.t 4)),oz 67 (.ld true 18 (.t 8)),oz 68 (.lkp (.agg (kk [(1, .i .i64),(16, .i .u8),(1, .i .i64)])) (.b false) false (.t 66) (.t 67))]) (.cond (.t 68) (.seq (rg false [oz 2 (.mv (.k (.b false)))]) .ret) .skip)) (rg false [oz 69 (.mv (.t 4)),oz 70 (.ld true 18 (.t 8)),on (.mup (.agg (kk [(1, .i .i64),(16, .i .u8),(1, .i .i64)])) (.t 69) (.t 70) (.k (.b true)))])))) (rg false [oz 71 (.bin .add (.t 62) (.k (.i .i64 1))),oz 62 (.mv (.t 71))]))))
noncomputable def VG:AC:=(.seq (rg false [oz 27 (.bin .lss (.t 26) (.t 25))]) (.seq (.cond (.t 27) .skip (.exit 0)) (.seq (.blk 1 (.seq (rg false [oz 28 (.ias 86 (.t 24) (.t 26)),oz 29 (.ld true 86 (.t 28)),oz 6 (.alloc 89 A5.zc),on (.st 86 (.t 6) (.t 29))]) (.seq (.seq (rg false [oz 30 (.mv (.t 3)),oz 31 (.fa 0 (.t 6)),oz 32 (.ld true 32 (.t 31)),oz 33 (.lkp (.agg (kk [(32, .i .u8)])) (.b false) false (.t 30) (.t 32)),oz 34 (.mv (.t 33)),⟨some 35,some (34,false), .fa 82 (.t 6)⟩,⟨some 36,some (34,false), .ld false 1 (.t 35)⟩,⟨some 37,some (34,false), .call F6 [(.t 36)]⟩,⟨some 38,some (34,false), .un .not (.t 37)⟩,oz 39 (.pick (.t 34) (.k (.b true)) (.t 38)),oz 40 (.mv (.t 39)),⟨some 41,some (40,false), .fa 85 (.t 6)⟩,⟨some 42,some (40,false), .ld false 1 (.t 41)⟩,⟨some 43,some (40,false), .call FP [(.t 42)]⟩,⟨some 44,some (40,false), .un .not (.t 43)⟩,oz 45 (.pick (.t 40) (.k (.b true)) (.t 44))]) (.cond (.t 45) (.seq (rg false [oz 2 (.mv (.k (.b false)))]) .ret) .skip)) (.seq (.seq (rg false [oz 46 (.fa 64 (.t 6)),oz 47 (.ld true 18 (.t 46)),oz 48 (.call DT [(.t 47)]),oz 49 (.un .not (.t 48)),oz 50 (.mv (.t 49)),⟨some 51,some (50,true), .fa 64 (.t 6)⟩,⟨some 52,some (50,true), .ld true 18 (.t 51)⟩,⟨some 53,some (50,true), .call Dd [(.t 52)]⟩,⟨some 54,some (50,true), .un .not (.t 53)⟩,oz 55 (.pick (.t 50) (.t 54) (.k (.b false)))]) (.cond (.t 55) (.seq (rg false [oz 2 (.mv (.k (.b false)))]) .ret) .skip)) (.seq (rg false [oz 56 (.mv (.t 3)),oz 57 (.fa 0 (.t 6)),oz 58 (.ld true 32 (.t 57)),on (.mup (.agg (kk [(32, .i .u8)])) (.t 56) (.t 58) (.k (.b true)))])
  (.seq (rg false [oz 59 (.fa 85 (.t 6)),oz 60 (.ld false 1 (.t 59)),oz 61 (.len (.t 60)),oz 62 (.mv (.k (.i .i64 0)))]) (.blk 2 (.loop [3,4,24,25,26,60,61,62] VH)))))))) (rg false [oz 72 (.bin .add (.t 26) (.k (.i .i64 1))),oz 26 (.mv (.t 72))]))))
noncomputable def Ll:CI:=⟨false,1,76,[.tmp 2],(.seq (rg false [oz 1 (.box 54 35 (.t 0)),oz 2 (.mv (.k (.b false)))]) (.seq (.seq (rg false [oz 9 (.fa 32 (.t 1)),oz 10 (.ld false 1 (.t 9)),oz 11 (.call F6 [(.t 10)]),oz 12 (.un .not (.t 11)),oz 13 (.mv (.t 12)),⟨some 14,some (13,false), .fa 34 (.t 1)⟩,⟨some 15,some (13,false), .ld false 1 (.t 14)⟩,⟨some 16,some (13,false), .len (.t 15)⟩,⟨some 17,some (13,false), .bin .gtr (.t 16) (.k (.i .i64 16))⟩,oz 18 (.pick (.t 13) (.k (.b true)) (.t 17))]) (.cond (.t 18) (.seq (rg false [oz 2 (.mv (.k (.b false)))]) .ret) .skip)) (.seq (rg false [oz 19 (.mkm),oz 20 (.bld (Ay 32 T.u8).zc []),on (.mup (.agg (kk [(32, .i .u8)])) (.t 19) (.t 20) (.k (.b true))),oz 21 (.mv (.t 19)),oz 22 (.mkm),oz 3 (.mv (.t 21)),oz 4 (.mv (.t 22))]) (.seq (.seq (rg false [oz 23 (.fa 34 (.t 1)),oz 24 (.ld false 1 (.t 23)),oz 25 (.len (.t 24)),oz 26 (.mv (.k (.i .i64 0)))]) (.blk 0 (.loop [3,4,24,25,26] VG))) (.seq (rg false [oz 73 (.mv (.t 4)),oz 74 (.lenm (.t 73)),oz 75 (.bin .leq (.t 74) (.k (.i .i64 64))),oz 2 (.mv (.t 75))]) .ret)))))⟩
noncomputable def Uk:AC:=(.seq (rg false [oz 41 (.bin .lss (.t 40) (.t 39))]) (.seq (.cond (.t 41) .skip (.exit 0)) (.seq (.blk 1 (.seq (rg false [oz 42 (.ias 18 (.t 38) (.t 40)),oz 43 (.ld true 18 (.t 42)),oz 5 (.alloc 91 Aj.zc),on (.st 18 (.t 5) (.t 43))]) (rg false [oz 44 (.mv (.t 3)),oz 45 (.ld true 18 (.t 5)),oz 46 (.bld Af.zc [(0,1,(.k (.i .i64 12))),(52,18,(.t 45))]),oz 47 (.bll 70 (List.replicate 1 Af.zc) [(0,(.t 46))]),oz 48 (.app 93 70 112 (.t 44) (.t 47)),oz 3 (.mv (.t 48))]))) (rg false [oz 49 (.bin .add (.t 40) (.k (.i .i64 1))),oz 40 (.mv (.t 49))]))))
noncomputable def Kj:CI:=⟨false,1,51,[.tmp 2],(.seq (rg false [oz 1 (.box 89 86 (.t 0)),oz 2 (.mv (.k (.nils)))]) (.seq (rg false [oz 6 (.fa 0 (.t 1)),oz 7 (.ld true 32 (.t 6)),oz 8 (.bld Af.zc [(0,1,(.k (.i .i64 5))),(1,32,(.t 7))]),oz 9 (.fa 32 (.t 1)),oz 10 (.ld true 32 (.t 9)),oz 11 (.bld Af.zc [(0,1,(.k (.i .i64 8))),(1,32,(.t 10))]),oz 12 (.bld Af.zc [(0,1,(.k (.i .i64 13))),(33,1,(.k (.i .u64 1)))]),oz 13 (.bls 93 70 (List.replicate 3 Af.zc) [(0,(.t 8)),(1,(.t 11)),(2,(.t 12))]),oz 3 (.mv (.t 13))]) (.seq (.seq (rg false [oz 14 (.fa 64 (.t 1)),oz 15 (.ld true 18 (.t 14)),oz 16 (.call DT [(.t 15)]),oz 17 (.un .not (.t 16))]) (.cond (.t 17) (rg false [oz 18 (.mv (.t 3)),oz 19 (.fa 64 (.t 1)),oz 20 (.ld true 18 (.t 19)),oz 21 (.bld Af.zc [(0,1,(.k (.i .i64 9))),(34,18,(.t 20))]),oz 22 (.bll 70 (List.replicate 1 Af.zc) [(0,(.t 21))]),oz 23 (.app 93 70 112 (.t 18) (.t 22)),oz 3 (.mv (.t 23))]) .skip)) (.seq (rg false [oz 24 (.mv (.t 3)),oz 25 (.fa 83 (.t 1)),oz 26 (.ld false 1 (.t 25)),oz 27 (.bld Af.zc [(0,1,(.k (.i .i64 14))),(33,1,(.t 26))]),oz 28 (.fa 84 (.t 1)),oz 29 (.ld false 1 (.t 28)),oz 30 (.bld Af.zc [(0,1,(.k (.i .i64 15))),(33,1,(.t 29))]),oz 31 (.fa 82 (.t 1)),oz 32 (.ld false 1 (.t 31)),oz 33 (.cvi .u64 (.t 32)),oz 34 (.bld Af.zc [(0,1,(.k (.i .i64 10))),(33,1,(.t 33))]),oz 35 (.bll 70 (List.replicate 3 Af.zc) [(0,(.t 27)),(1,(.t 30)),(2,(.t 34))]),oz 36 (.app 93 70 112 (.t 24) (.t 35)),oz 3 (.mv (.t 36))]) (.seq (.seq (rg false [oz 37 (.fa 85 (.t 1)),oz 38 (.ld false 1 (.t 37)),oz 39 (.len (.t 38)),oz 40 (.mv (.k (.i .i64 0)))])
 (.blk 0 (.loop [3,38,39,40] Uk))) (.seq (rg false [oz 50 (.mv (.t 3)),oz 2 (.mv (.t 50))]) .ret))))))⟩
noncomputable def QF:AC:=(.seq (rg false [oz 15 (.bin .lss (.t 14) (.t 13))]) (.seq (.cond (.t 15) .skip (.exit 0)) (.seq (.blk 1 (.seq (rg false [oz 16 (.ias 2 (.t 12) (.t 14)),oz 17 (.ld true 2 (.t 16)),oz 6 (.alloc 130 Au.zc),on (.st 2 (.t 6) (.t 17))]) (.seq (rg false [oz 19 (.ld true 2 (.t 6)),oz 20 (.call EE [(.t 19)]),oz 18 (.mv (.t 20)),oz 21 (.ext (.t 18) 0),oz 22 (.ext (.t 18) 1),oz 7 (.mv (.t 21)),oz 8 (.mv (.t 22))]) (.seq (.seq (rg false [oz 23 (.mv (.t 8)),oz 24 (.bin .neq (.t 23) (.k (.i .i64 0)))]) (.cond (.t 24) (.seq (rg false [oz 25 (.mv (.t 8)),oz 2 (.mv (.k (.s []))),oz 3 (.mv (.t 25))]) .ret) .skip)) (rg false [oz 26 (.mv (.t 4)),oz 27 (.mv (.t 7)),oz 28 (.bll 1 (List.replicate 1 Ax.zc) [(0,(.t 27))]),oz 29 (.app 9 1 16 (.t 26) (.t 28)),oz 4 (.mv (.t 29))]))))) (rg false [oz 30 (.bin .add (.t 14) (.k (.i .i64 1))),oz 14 (.mv (.t 30))]))))
noncomputable def HJ:CI:=⟨false,1,35,[.tmp 2, .tmp 3],(.seq (rg false [oz 2 (.mv (.k (.s []))),oz 3 (.mv (.k (.i .i64 0)))]) (.seq (.seq (rg false [oz 9 (.mv (.t 0)),oz 10 (.len (.t 9)),oz 11 (.bin .gtr (.t 10) (.k (.i .i64 400)))]) (.cond (.t 11) (.seq (rg false [oz 2 (.mv (.k (.s []))),oz 3 (.mv (.k (.i .i64 4)))]) .ret) .skip)) (.seq (rg false [oz 4 (.mv (.k (.nils)))]) (.seq (.seq (rg false [oz 12 (.mv (.t 0)),oz 13 (.len (.t 12)),oz 14 (.mv (.k (.i .i64 0)))]) (.blk 0 (.loop [4,12,13,14] QF))) (.seq (rg false [oz 31 (.mv (.t 4)),oz 32 (.bll 1 (List.replicate 1 Ax.zc) [(0,(.k (.s [])))]),oz 33 (.app 9 1 16 (.t 31) (.t 32)),oz 34 (.call GJ [(.t 33)]),oz 2 (.mv (.t 34)),oz 3 (.mv (.k (.i .i64 0)))]) .ret)))))⟩
noncomputable def Tc:AC:=(.seq (rg false [oz 11 (.bin .lss (.t 10) (.t 9))]) (.seq (.cond (.t 11) .skip (.exit 0)) (.seq (.blk 1 (.seq (rg false [oz 12 (.ias 70 (.t 8) (.t 10)),oz 13 (.ld true 70 (.t 12)),oz 5 (.alloc 93 Af.zc),on (.st 70 (.t 5) (.t 13))]) (.seq (rg false [oz 15 (.ld true 70 (.t 5)),oz 16 (.call GK [(.t 15)]),oz 14 (.mv (.t 16)),oz 17 (.ext (.t 14) 0),oz 18 (.ext (.t 14) 1),oz 6 (.alloc 130 Au.zc),on (.st 2 (.t 6) (.t 17)),oz 7 (.mv (.t 18))]) (rg false [oz 19 (.mv (.t 3)),oz 20 (.ld true 2 (.t 6)),oz 21 (.bll 2 (List.replicate 1 Au.zc) [(0,(.t 20))]),oz 22 (.app 130 2 32 (.t 19) (.t 21)),oz 3 (.mv (.t 22))])))) (rg false [oz 23 (.bin .add (.t 10) (.k (.i .i64 1))),oz 10 (.mv (.t 23))]))))
noncomputable def Jr:CI:=⟨false,1,25,[.tmp 2],(.seq (rg false [oz 2 (.mv (.k (.nils)))]) (.seq (rg false [oz 3 (.mv (.k (.nils)))]) (.seq (.seq (rg false [oz 8 (.mv (.t 0)),oz 9 (.len (.t 8)),oz 10 (.mv (.k (.i .i64 0)))]) (.blk 0 (.loop [3,8,9,10] Tc))) (.seq (rg false [oz 24 (.mv (.t 3)),oz 2 (.mv (.t 24))]) .ret))))⟩
noncomputable def Ox:CI:=⟨false,1,13,[.tmp 2],(.seq (rg false [oz 1 (.box 93 70 (.t 0)),oz 2 (.mv (.k (.s [])))]) (.seq (rg false [oz 6 (.ld true 70 (.t 1)),oz 7 (.call IM [(.t 6)]),oz 8 (.call IN [(.t 7)]),oz 5 (.mv (.t 8)),oz 9 (.ext (.t 5) 0),oz 10 (.ext (.t 5) 1),oz 3 (.mv (.t 9)),oz 4 (.mv (.t 10))]) (.seq (rg false [oz 11 (.mv (.t 3)),oz 12 (.bin .add (.t 11) (.k (.s [10]))),oz 2 (.mv (.t 12))]) .ret)))⟩
noncomputable def O2:CI:=⟨false,1,9,[.tmp 2],(.seq (rg false [oz 2 (.mv (.k (.b false)))]) (.seq (rg false [oz 3 (.mv (.t 0)),oz 4 (.bin .geq (.t 3) (.k (.i .i64 0))),oz 5 (.mv (.t 4)),⟨some 6,some (5,true), .mv (.t 0)⟩,⟨some 7,some (5,true), .bin .leq (.t 6) (.k (.i .i64 65535))⟩,oz 8 (.pick (.t 5) (.t 7) (.k (.b false))),oz 2 (.mv (.t 8))]) .ret))⟩
noncomputable def Mp:CI:=⟨false,1,28,[.tmp 2],(.seq (rg false [oz 1 (.box 91 18 (.t 0)),oz 2 (.mv (.k (.b false)))]) (.seq (.seq (rg true [oz 3 (.fa 0 (.t 1)),oz 4 (.ld true 17 (.t 3)),oz 5 (.call Ea [(.t 4)]),oz 6 (.un .not (.t 5)),oz 7 (.mv (.t 6)),⟨some 8,some (7,false), .fa 17 (.t 1)⟩,⟨some 9,some (7,false), .ld false 1 (.t 8)⟩,⟨some 10,some (7,false), .bin .lss (.t 9) (.k (.i .i64 0))⟩,oz 11 (.pick (.t 7) (.k (.b true)) (.t 10)),oz 12 (.mv (.t 11)),⟨some 13,some (12,false), .fa 17 (.t 1)⟩,⟨some 14,some (12,false), .ld false 1 (.t 13)⟩,⟨some 15,some (12,false), .fa 0 (.t 1)⟩,⟨some 16,some (12,false), .ld true 17 (.t 15)⟩,⟨some 17,some (12,false), .call Gy [(.t 16)]⟩,⟨some 18,some (12,false), .bin .gtr (.t 14) (.t 17)⟩,oz 19 (.pick (.t 12) (.k (.b true)) (.t 18))]) (.cond (.t 19) (.seq (rg false [oz 2 (.mv (.k (.b false)))]) .ret) .skip)) (.seq (rg true [oz 20 (.fa 0 (.t 1)),oz 21 (.ld true 17 (.t 20)),oz 22 (.fa 0 (.t 1)),oz 23 (.ld true 17 (.t 22)),oz 24 (.fa 17 (.t 1)),oz 25 (.ld false 1 (.t 24)),oz 26 (.call IS [(.t 23),(.t 25)]),oz 27 (.eq false (.agg (kk [(1, .i .i64),(16, .i .u8)])) (.t 21) (.t 26)),oz 2 (.mv (.t 27))]) .ret)))⟩
noncomputable def O5:CI:=⟨false,2,20,[.tmp 4],(.seq (rg false [oz 2 (.box 91 18 (.t 0)),oz 3 (.box 91 18 (.t 1)),oz 4 (.mv (.k (.b false)))]) (.seq (.seq (rg false [oz 5 (.fa 0 (.t 2)),oz 6 (.ld true 17 (.t 5)),oz 7 (.fa 0 (.t 3)),oz 8 (.ld true 17 (.t 7)),oz 9 (.eq true (.agg (kk [(1, .i .i64),(16, .i .u8)])) (.t 6) (.t 8))]) (.cond (.t 9) (.seq (rg false [oz 10 (.fa 0 (.t 2)),oz 11 (.ld true 17 (.t 10)),oz 12 (.fa 0 (.t 3)),oz 13 (.ld true 17 (.t 12)),oz 14 (.call IU [(.t 11),(.t 13)]),oz 4 (.mv (.t 14))]) .ret) .skip)) (.seq (rg false [oz 15 (.fa 17 (.t 2)),oz 16 (.ld false 1 (.t 15)),oz 17 (.fa 17 (.t 3)),oz 18 (.ld false 1 (.t 17)),oz 19 (.bin .lss (.t 16) (.t 18)),oz 4 (.mv (.t 19))]) .ret)))⟩
noncomputable def XN:AC:=(.seq (.seq (rg false [oz 7 (.mv (.t 3)),oz 8 (.bin .lss (.t 7) (.k (.i .i64 16)))]) (.cond (.t 8) .skip (.exit 0))) (.seq (.blk 1 (.seq (rg false [oz 11 (.mv (.t 3)),oz 12 (.fa 1 (.t 1)),oz 13 (.iaa 16 1 (.t 12) (.t 11)),oz 14 (.ld false 1 (.t 13)),oz 15 (.bin .neq (.t 14) (.k (.i .u8 0)))]) (.cond (.t 15) (.seq (rg false [oz 2 (.mv (.k (.b false)))]) .ret) .skip))) (rg false [oz 9 (.mv (.t 3)),oz 10 (.bin .add (.t 9) (.k (.i .i64 1))),oz 3 (.mv (.t 10))])))
noncomputable def Ms:CI:=⟨false,1,19,[.tmp 2],(.seq (rg false [oz 1 (.box 25 17 (.t 0)),oz 2 (.mv (.k (.b false)))]) (.seq (.seq (rg false [oz 4 (.fa 0 (.t 1)),oz 5 (.ld false 1 (.t 4)),oz 6 (.bin .eql (.t 5) (.k (.i .i64 6)))]) (.cond (.t 6) (.seq (rg false [oz 2 (.mv (.k (.b true)))]) .ret) .skip)) (.seq (.seq (rg false [oz 3 (.mv (.k (.i .i64 4)))]) (.blk 0 (.loop [1,3] XN))) (.seq (rg false [oz 16 (.fa 0 (.t 1)),oz 17 (.ld false 1 (.t 16)),oz 18 (.bin .eql (.t 17) (.k (.i .i64 4))),oz 2 (.mv (.t 18))]) .ret))))⟩
noncomputable def FF:CI:=⟨false,2,25,[],(.seq (rg false [oz 4 (.mv (.t 0)),oz 5 (.call B2 [(.t 4)])]) (.seq (.seq (rg false [oz 6 (.mv (.t 1)),oz 7 (.bin .lss (.t 6) (.k (.i .i64 0)))]) (.cond (.t 7) (rg false [oz 8 (.mkif 9 (.k (.s [115,116,114,105,110,103,115,46,66,117,105,108,100,101,114,46,71,114,111,119,58,32,110,101,103,97,116,105,118,101,32,99,111,117,110,116]))),on (.die)]) .skip)) (.seq (rg true [oz 9 (.mv (.t 0)),oz 10 (.nilc (.t 9)),oz 11 (.fa 1 (.t 10)),oz 12 (.ld false 1 (.t 11)),oz 13 (.capn (.t 12)),oz 14 (.mv (.t 0)),oz 15 (.nilc (.t 14)),oz 16 (.fa 1 (.t 15)),oz 17 (.ld false 1 (.t 16)),oz 18 (.len (.t 17)),oz 19 (.bin .sub (.t 13) (.t 18)),oz 20 (.mv (.t 1)),oz 21 (.bin .lss (.t 19) (.t 20))]) (.cond (.t 21) (rg false [oz 22 (.mv (.t 0)),oz 23 (.mv (.t 1)),oz 24 (.call Fc [(.t 22),(.t 23)])]) .skip))))⟩
noncomputable def DJ:CI:=⟨false,2,19,[.tmp 4, .tmp 5],(.seq (rg false [oz 4 (.mv (.k (.i .i64 0))),oz 5 (.mv (.k (.nili)))]) (.seq (rg false [oz 6 (.mv (.t 0)),oz 7 (.call B2 [(.t 6)])]) (.seq (rg false [oz 8 (.mv (.t 0)),oz 9 (.mv (.t 0)),oz 10 (.nilc (.t 9)),oz 11 (.fa 1 (.t 10)),oz 12 (.ld false 1 (.t 11)),oz 13 (.mv (.t 1)),oz 14 (.app 5 1 1 (.t 12) (.t 13)),oz 15 (.nilc (.t 8)),oz 16 (.fa 1 (.t 15)),on (.st 1 (.t 16) (.t 14))]) (.seq (rg false [oz 17 (.mv (.t 1)),oz 18 (.lens (.t 17)),oz 4 (.mv (.t 18)),oz 5 (.mv (.k (.nili)))]) .ret))))⟩
noncomputable def EU:CI:=⟨false,1,14,[.tmp 2],(.seq (rg false [oz 2 (.mv (.k (.s [])))]) (.seq (.regd [oz 3 (.mv (.t 0)),oz 4 (.nilc (.t 3)),oz 5 (.fa 1 (.t 4)),oz 6 (.ld false 1 (.t 5)),oz 7 (.usd (.t 6)),oz 8 (.mv (.t 0)),oz 9 (.nilc (.t 8)),oz 10 (.fa 1 (.t 9)),oz 11 (.ld false 1 (.t 10)),oz 12 (.len (.t 11)),oz 13 (.ust 5 (.t 7) (.t 12)),oz 2 (.mv (.t 13))] [some (0,0),some (0,0),some (0,0),some (0,0),some (0,0),some (0,0),some (0,0),some (0,0),some (0,0),some (0,0),none,some (1,1)]) .ret))⟩
noncomputable def Mw:CI:=⟨false,1,7,[.tmp 2],(.seq (rg false [oz 2 (.mv (.k (.s [])))]) (.seq (rg false [oz 3 (.mv (.t 0)),oz 4 (.mv (.t 0)),oz 5 (.bin .add (.t 4) (.k (.i .i64 1))),oz 6 (.sls (.k (.s [48,49,50,51,52,53,54,55,56,57,97,98,99,100,101,102])) (some (.t 3)) (some (.t 5))),oz 2 (.mv (.t 6))]) .ret))⟩
noncomputable def O6:CI:=⟨false,1,26,[.tmp 2],(.seq (rg false [oz 1 (.box 25 17 (.t 0)),oz 2 (.mv (.k (.s [])))]) (.seq (.seq (rg false [oz 3 (.ld true 17 (.t 1)),oz 4 (.call Ea [(.t 3)]),oz 5 (.un .not (.t 4))]) (.cond (.t 5) (.seq (rg false [oz 2 (.mv (.k (.s [])))]) .ret) .skip)) (.seq (.seq (rg false [oz 6 (.fa 0 (.t 1)),oz 7 (.ld false 1 (.t 6)),oz 8 (.bin .eql (.t 7) (.k (.i .i64 6)))]) (.cond (.t 8) (.seq (rg false [oz 9 (.fa 1 (.t 1)),oz 10 (.ld true 16 (.t 9)),oz 11 (.call IV [(.t 10)]),oz 2 (.mv (.t 11))]) .ret) .skip)) (.seq (rg false [oz 12 (.fa 1 (.t 1)),oz 13 (.iaa 16 1 (.t 12) (.k (.i .i64 0))),oz 14 (.ld false 1 (.t 13)),oz 15 (.fa 1 (.t 1)),oz 16 (.iaa 16 1 (.t 15) (.k (.i .i64 1))),oz 17 (.ld false 1 (.t 16)),oz 18 (.fa 1 (.t 1)),oz 19 (.iaa 16 1 (.t 18) (.k (.i .i64 2))),oz 20 (.ld false 1 (.t 19)),oz 21 (.fa 1 (.t 1)),oz 22 (.iaa 16 1 (.t 21) (.k (.i .i64 3))),oz 23 (.ld false 1 (.t 22)),oz 24 (.bld (Ay 4 T.u8).zc [(0,1,(.t 14)),(1,1,(.t 17)),(2,1,(.t 20)),(3,1,(.t 23))]),oz 25 (.call IW [(.t 24)]),oz 2 (.mv (.t 25))]) .ret))))⟩
noncomputable def Lk:CI:=⟨false,1,9,[.tmp 2],(.seq (rg false [oz 2 (.mv (.k (.b false)))]) (.seq (rg false [oz 3 (.mv (.t 0)),oz 4 (.bin .geq (.t 3) (.k (.i .i64 0))),oz 5 (.mv (.t 4)),⟨some 6,some (5,true), .mv (.t 0)⟩,⟨some 7,some (5,true), .bin .leq (.t 6) (.k (.i .i64 65535))⟩,oz 8 (.pick (.t 5) (.t 7) (.k (.b false))),oz 2 (.mv (.t 8))]) .ret))⟩
noncomputable def Ui:AC:=(.seq (rg false [oz 8 (.bin .lss (.t 7) (.t 6))]) (.seq (.cond (.t 8) .skip (.exit 0)) (.seq (.blk 1 (.seq (rg false [oz 9 (.mv (.t 7)),oz 10 (.ias 18 (.t 5) (.t 7)),oz 11 (.ld true 18 (.t 10)),oz 4 (.alloc 91 Aj.zc),oz 3 (.mv (.t 9)),on (.st 18 (.t 4) (.t 11))]) (.seq (rg true [oz 12 (.ld true 18 (.t 4)),oz 13 (.call EB [(.t 12)]),oz 14 (.un .not (.t 13)),oz 15 (.mv (.t 14)),⟨some 16,some (15,false), .mv (.t 3)⟩,⟨some 17,some (15,false), .bin .gtr (.t 16) (.k (.i .i64 0))⟩,⟨some 18,some (15,false), .mv (.t 17)⟩,⟨some 19,some (18,true), .mv (.t 0)⟩,⟨some 20,some (18,true), .mv (.t 3)⟩,⟨some 21,some (18,true), .bin .sub (.t 20) (.k (.i .i64 1))⟩,⟨some 22,some (18,true), .ias 18 (.t 19) (.t 21)⟩,⟨some 23,some (18,true), .ld true 18 (.t 22)⟩,⟨some 24,some (18,true), .ld true 18 (.t 4)⟩,⟨some 25,some (18,true), .call HD [(.t 23),(.t 24)]⟩,⟨some 26,some (18,true), .un .not (.t 25)⟩,⟨some 27,some (15,false), .pick (.t 18) (.t 26) (.k (.b false))⟩,oz 28 (.pick (.t 15) (.k (.b true)) (.t 27))]) (.cond (.t 28) (.seq (rg false [oz 2 (.mv (.k (.b false)))]) .ret) .skip)))) (rg false [oz 29 (.bin .add (.t 7) (.k (.i .i64 1))),oz 7 (.mv (.t 29))]))))
noncomputable def Kg:CI:=⟨false,1,30,[.tmp 2],(.seq (rg false [oz 2 (.mv (.k (.b false)))]) (.seq (.seq (rg false [oz 5 (.mv (.t 0)),oz 6 (.len (.t 5)),oz 7 (.mv (.k (.i .i64 0)))]) (.blk 0 (.loop [0,5,6,7] Ui))) (.seq (rg false [oz 2 (.mv (.k (.b true)))]) .ret)))⟩
noncomputable def Iq:CI:=⟨false,1,6,[.tmp 2],(.seq (rg false [oz 1 (.box 27 18 (.t 0)),oz 2 (.mv (.k (.b false)))]) (.seq (rg false [oz 3 (.ld true 18 (.t 1)),oz 4 (.bld Ao.zc []),oz 5 (.eq false (.agg (kk [(1, .i .i64),(16, .i .u8),(1, .i .i64)])) (.t 3) (.t 4)),oz 2 (.mv (.t 5))]) .ret))⟩
noncomputable def HK:CI:=⟨false,1,16,[.tmp 2],(.seq (rg false [oz 1 (.box 27 18 (.t 0)),oz 2 (.mv (.k (.b false)))]) (.seq (rg false [oz 3 (.fa 0 (.t 1)),oz 4 (.ld true 17 (.t 3)),oz 5 (.call D6 [(.t 4)]),oz 6 (.mv (.t 5)),⟨some 7,some (6,true), .fa 17 (.t 1)⟩,⟨some 8,some (6,true), .ld false 1 (.t 7)⟩,⟨some 9,some (6,true), .bin .geq (.t 8) (.k (.i .i64 1))⟩,oz 10 (.pick (.t 6) (.t 9) (.k (.b false))),oz 11 (.mv (.t 10)),⟨some 12,some (11,true), .fa 17 (.t 1)⟩,⟨some 13,some (11,true), .ld false 1 (.t 12)⟩,⟨some 14,some (11,true), .bin .leq (.t 13) (.k (.i .i64 65535))⟩,oz 15 (.pick (.t 11) (.t 14) (.k (.b false))),oz 2 (.mv (.t 15))]) .ret))⟩
noncomputable def Io:CI:=⟨false,1,28,[.tmp 2, .tmp 3],(.seq (rg false [oz 1 (.box 130 2 (.t 0)),oz 2 (.mv (.k (.s []))),oz 3 (.mv (.k (.i .i64 0)))]) (.seq (.seq (rg false [oz 5 (.fa 0 (.t 1)),oz 6 (.ld false 1 (.t 5)),oz 7 (.bin .eql (.t 6) (.k (.s []))),oz 8 (.mv (.t 7)),⟨some 9,some (8,false), .fa 0 (.t 1)⟩,⟨some 10,some (8,false), .ld false 1 (.t 9)⟩,⟨some 11,some (8,false), .call CM [(.t 10),(.k (.s [61,10]))]⟩,oz 12 (.pick (.t 8) (.k (.b true)) (.t 11)),oz 13 (.mv (.t 12)),⟨some 14,some (13,false), .fa 1 (.t 1)⟩,⟨some 15,some (13,false), .ld false 1 (.t 14)⟩,⟨some 16,some (13,false), .call DE [(.t 15),(.k (.s [10]))]⟩,oz 17 (.pick (.t 13) (.k (.b true)) (.t 16))]) (.cond (.t 17) (.seq (rg false [oz 2 (.mv (.k (.s []))),oz 3 (.mv (.k (.i .i64 5)))]) .ret) .skip)) (.seq (rg false [oz 18 (.fa 0 (.t 1)),oz 19 (.ld false 1 (.t 18)),oz 20 (.bin .add (.t 19) (.k (.s [61]))),oz 21 (.fa 1 (.t 1)),oz 22 (.ld false 1 (.t 21)),oz 23 (.bin .add (.t 20) (.t 22)),oz 4 (.mv (.t 23))]) (.seq (.seq (rg false [oz 24 (.mv (.t 4)),oz 25 (.lens (.t 24)),oz 26 (.bin .gtr (.t 25) (.k (.i .i64 512)))]) (.cond (.t 26) (.seq (rg false [oz 2 (.mv (.k (.s []))),oz 3 (.mv (.k (.i .i64 4)))]) .ret) .skip)) (.seq (rg false [oz 27 (.mv (.t 4)),oz 2 (.mv (.t 27)),oz 3 (.mv (.k (.i .i64 0)))]) .ret)))))⟩
noncomputable def Lp:CI:=⟨false,1,24,[.cell true 2 2, .tmp 3],(.seq (rg false [oz 1 (.box 93 70 (.t 0)),oz 2 (.alloc 130 Au.zc),oz 3 (.mv (.k (.i .i64 0)))]) (.seq (.seq (rg false [oz 6 (.ld true 70 (.t 1)),oz 7 (.call FV [(.t 6)]),oz 8 (.un .not (.t 7))]) (.cond (.t 8) (.seq (rg false [oz 9 (.bld Au.zc []),on (.st 2 (.t 2) (.t 9)),oz 3 (.mv (.k (.i .i64 1)))]) .ret) .skip)) (.seq (.regd [oz 11 (.fa 0 (.t 1)),oz 12 (.ld false 1 (.t 11)),oz 13 (.call EG [(.t 12)]),oz 14 (.fld false 1 1 (.t 13)),oz 15 (.ld true 70 (.t 1)),oz 16 (.callv (.t 14) [(.t 15)]),oz 10 (.mv (.t 16)),oz 17 (.ext (.t 10) 0),oz 18 (.ext (.t 10) 1),oz 4 (.mv (.t 17)),oz 5 (.mv (.t 18))] [some (0,0),some (0,0),none,some (1,1),some (0,1),none,some (2,2),some (2,2),some (2,2),some (2,2),some (2,2)]) (.seq (rg false [oz 19 (.fa 0 (.t 1)),oz 20 (.ld false 1 (.t 19)),oz 21 (.call F8 [(.t 20)]),oz 22 (.mv (.t 4)),oz 23 (.bld Au.zc [(0,1,(.t 21)),(1,1,(.t 22))]),on (.st 2 (.t 2) (.t 23)),oz 3 (.mv (.k (.i .i64 0)))]) .ret))))⟩
noncomputable def O1:CI:=⟨false,1,33,[.tmp 2, .tmp 3],(.seq (rg false [oz 1 (.box 136 2 (.t 0)),oz 2 (.mv (.k (.s []))),oz 3 (.mv (.k (.i .i64 0)))]) (.seq (.seq (rg false [oz 5 (.fa 0 (.t 1)),oz 6 (.ld false 1 (.t 5)),oz 7 (.bin .eql (.t 6) (.k (.s []))),oz 8 (.mv (.t 7)),⟨some 9,some (8,false), .fa 0 (.t 1)⟩,⟨some 10,some (8,false), .ld false 1 (.t 9)⟩,⟨some 11,some (8,false), .call Hg [(.t 10),(.k (.i .u8 61))]⟩,oz 12 (.pick (.t 8) (.k (.b true)) (.t 11)),oz 13 (.mv (.t 12)),⟨some 14,some (13,false), .fa 0 (.t 1)⟩,⟨some 15,some (13,false), .ld false 1 (.t 14)⟩,⟨some 16,some (13,false), .call Hg [(.t 15),(.k (.i .u8 10))]⟩,oz 17 (.pick (.t 13) (.k (.b true)) (.t 16)),oz 18 (.mv (.t 17)),⟨some 19,some (18,false), .fa 1 (.t 1)⟩,⟨some 20,some (18,false), .ld false 1 (.t 19)⟩,⟨some 21,some (18,false), .call Hg [(.t 20),(.k (.i .u8 10))]⟩,oz 22 (.pick (.t 18) (.k (.b true)) (.t 21))]) (.cond (.t 22) (.seq (rg false [oz 2 (.mv (.k (.s []))),oz 3 (.mv (.k (.i .i64 5)))]) .ret) .skip)) (.seq (rg false [oz 23 (.fa 0 (.t 1)),oz 24 (.ld false 1 (.t 23)),oz 25 (.bin .add (.t 24) (.k (.s [61]))),oz 26 (.fa 1 (.t 1)),oz 27 (.ld false 1 (.t 26)),oz 28 (.bin .add (.t 25) (.t 27)),oz 4 (.mv (.t 28))]) (.seq (.seq (rg false [oz 29 (.mv (.t 4)),oz 30 (.lens (.t 29)),oz 31 (.bin .gtr (.t 30) (.k (.i .i64 512)))]) (.cond (.t 31) (.seq (rg false [oz 2 (.mv (.k (.s []))),oz 3 (.mv (.k (.i .i64 4)))]) .ret) .skip)) (.seq (rg false [oz 32 (.mv (.t 4)),oz 2 (.mv (.t 32)),oz 3 (.mv (.k (.i .i64 0)))])
 .ret)))))⟩
noncomputable def O0:CI:=⟨false,1,37,[.cell true 2 2],(.seq (rg false [oz 1 (.box 93 70 (.t 0)),oz 2 (.alloc 136 C2.zc)]) (.seq (rg false [oz 3 (.mv (.k (.s [116,114,117,101])))]) (.seq (.seq (rg false [oz 4 (.fa 0 (.t 1)),oz 5 (.ld false 1 (.t 4)),oz 6 (.call JO [(.t 5)])]) (.cond (.t 6) (rg false [oz 7 (.fa 1 (.t 1)),oz 8 (.ld true 32 (.t 7)),oz 9 (.call H7 [(.t 8)]),oz 10 (.call GI [(.t 9)]),oz 3 (.mv (.t 10))]) (.seq (rg false [oz 11 (.fa 0 (.t 1)),oz 12 (.ld false 1 (.t 11)),oz 13 (.bin .eql (.t 12) (.k (.i .i64 9)))]) (.cond (.t 13) (rg false [oz 14 (.fa 34 (.t 1)),oz 15 (.ld true 18 (.t 14)),oz 16 (.call IP [(.t 15)]),oz 3 (.mv (.t 16))]) (.seq (rg false [oz 17 (.fa 0 (.t 1)),oz 18 (.ld false 1 (.t 17)),oz 19 (.bin .eql (.t 18) (.k (.i .i64 12)))]) (.cond (.t 19) (rg false [oz 20 (.fa 52 (.t 1)),oz 21 (.ld true 18 (.t 20)),oz 22 (.call IQ [(.t 21)]),oz 3 (.mv (.t 22))]) (.seq (rg false [oz 23 (.fa 0 (.t 1)),oz 24 (.ld false 1 (.t 23)),oz 25 (.call IL [(.t 24)]),oz 26 (.un .not (.t 25))]) (.cond (.t 26) (rg false [oz 27 (.fa 33 (.t 1)),oz 28 (.ld false 1 (.t 27)),oz 29 (.call Dc [(.t 28)]),oz 3 (.mv (.t 29))]) .skip)))))))) (.seq (.regd [oz 30 (.call H3 []),oz 31 (.fa 0 (.t 1)),oz 32 (.ld false 1 (.t 31)),oz 33 (.ias 1 (.t 30) (.t 32)),oz 34 (.ld false 1 (.t 33)),oz 35 (.mv (.t 3)),oz 36 (.bld C2.zc [(0,1,(.t 34)),(1,1,(.t 35))]),on (.st 2 (.t 2) (.t 36))] [some (0,0),some (0,0),some (0,0),some (0,0),some (0,0),some (0,0),some (0,0),none]) .ret))))⟩
noncomputable def Mr:CI:=⟨false,1,9,[.tmp 2],(.seq (rg false [oz 1 (.box 25 17 (.t 0)),oz 2 (.mv (.k (.i .i64 0)))]) (.seq (.seq (rg false [oz 3 (.ld true 17 (.t 1)),oz 4 (.call Ea [(.t 3)]),oz 5 (.un .not (.t 4))]) (.cond (.t 5) (.seq (rg false [oz 2 (.mv (.k (.i .i64 0)))]) .ret) .skip)) (.seq (.seq (rg false [oz 6 (.fa 0 (.t 1)),oz 7 (.ld false 1 (.t 6)),oz 8 (.bin .eql (.t 7) (.k (.i .i64 4)))]) (.cond (.t 8) (.seq (rg false [oz 2 (.mv (.k (.i .i64 32)))]) .ret) .skip)) (.seq (rg false [oz 2 (.mv (.k (.i .i64 128)))]) .ret))))⟩
noncomputable def Zc:AC:=(.seq (.seq (rg false [oz 33 (.mv (.t 9)),oz 34 (.mv (.t 7)),oz 35 (.bin .rem (.t 34) (.k (.i .i64 8))),oz 36 (.bin .lss (.t 33) (.t 35))]) (.cond (.t 36) .skip (.exit 2))) (.seq (.blk 3 (rg false [oz 39 (.mv (.t 8)),oz 40 (.bin .quo (.t 39) (.k (.i .i64 2))),oz 8 (.mv (.t 40))])) (rg false [oz 37 (.mv (.t 9)),oz 38 (.bin .add (.t 37) (.k (.i .i64 1))),oz 9 (.mv (.t 38))])))
noncomputable def Zb:AC:=(.seq (.seq (rg false [oz 19 (.mv (.t 7)),oz 20 (.mv (.t 6)),oz 21 (.bin .lss (.t 19) (.t 20)),oz 22 (.mv (.t 21)),⟨some 23,some (22,true), .mv (.t 7)⟩,⟨some 24,some (22,true), .mv (.t 1)⟩,⟨some 25,some (22,true), .bin .lss (.t 23) (.t 24)⟩,oz 26 (.pick (.t 22) (.t 25) (.k (.b false)))]) (.cond (.t 26) .skip (.exit 0))) (.seq (.blk 1 (.seq (rg false [oz 29 (.ld true 17 (.t 2)),oz 30 (.mv (.t 7)),oz 31 (.call H6 [(.t 29),(.t 30)]),oz 32 (.bin .eql (.t 31) (.k (.i .i64 1)))]) (.cond (.t 32) (.seq (rg false [oz 8 (.mv (.k (.i .i64 128)))]) (.seq (.seq (rg false [oz 9 (.mv (.k (.i .i64 0)))]) (.blk 2 (.loop [1,2,4,5,6,7,8,9] Zc))) (rg false [oz 41 (.mv (.t 7)),oz 42 (.bin .quo (.t 41) (.k (.i .i64 8))),oz 43 (.mv (.t 7)),oz 44 (.bin .quo (.t 43) (.k (.i .i64 8))),oz 45 (.fa 1 (.t 5)),oz 46 (.iaa 16 1 (.t 45) (.t 44)),oz 47 (.ld false 1 (.t 46)),oz 48 (.mv (.t 8)),oz 49 (.cvi .u8 (.t 48)),oz 50 (.bin .add (.t 47) (.t 49)),oz 51 (.fa 1 (.t 5)),oz 52 (.iaa 16 1 (.t 51) (.t 42)),on (.st 1 (.t 52) (.t 50))]))) .skip))) (rg false [oz 27 (.mv (.t 7)),oz 28 (.bin .add (.t 27) (.k (.i .i64 1))),oz 7 (.mv (.t 28))])))
noncomputable def O7:CI:=⟨false,2,54,[.cell true 17 4],(.seq (rg false [oz 2 (.box 25 17 (.t 0)),oz 4 (.alloc 25 Ak.zc)]) (.seq (.seq (rg false [oz 10 (.ld true 17 (.t 2)),oz 11 (.call Ea [(.t 10)]),oz 12 (.un .not (.t 11))]) (.cond (.t 12) (.seq (rg false [oz 13 (.bld Ak.zc []),on (.st 17 (.t 4) (.t 13))]) .ret) .skip)) (.seq (rg false [oz 14 (.fa 0 (.t 2)),oz 15 (.ld false 1 (.t 14)),oz 16 (.bld Ak.zc [(0,1,(.t 15))]),oz 5 (.alloc 25 Ak.zc),on (.st 17 (.t 5) (.t 16))]) (.seq (rg false [oz 17 (.ld true 17 (.t 2)),oz 18 (.call Gy [(.t 17)]),oz 6 (.mv (.t 18))]) (.seq (.seq (rg false [oz 7 (.mv (.k (.i .i64 0)))]) (.blk 0 (.loop [1,2,4,5,6,7] Zb))) (.seq (rg false [oz 53 (.ld true 17 (.t 5)),on (.st 17 (.t 4) (.t 53))]) .ret))))))⟩
noncomputable def Zd:AC:=(.seq (.seq (rg false [oz 16 (.mv (.t 5)),oz 17 (.bin .lss (.t 16) (.k (.i .i64 16)))]) (.cond (.t 17) .skip (.exit 0))) (.seq (.blk 1 (.seq (rg true [oz 20 (.mv (.t 5)),oz 21 (.fa 1 (.t 2)),oz 22 (.iaa 16 1 (.t 21) (.t 20)),oz 23 (.ld false 1 (.t 22)),oz 24 (.mv (.t 5)),oz 25 (.fa 1 (.t 3)),oz 26 (.iaa 16 1 (.t 25) (.t 24)),oz 27 (.ld false 1 (.t 26)),oz 28 (.bin .neq (.t 23) (.t 27))]) (.cond (.t 28) (.seq (rg true [oz 29 (.mv (.t 5)),oz 30 (.fa 1 (.t 2)),oz 31 (.iaa 16 1 (.t 30) (.t 29)),oz 32 (.ld false 1 (.t 31)),oz 33 (.mv (.t 5)),oz 34 (.fa 1 (.t 3)),oz 35 (.iaa 16 1 (.t 34) (.t 33)),oz 36 (.ld false 1 (.t 35)),oz 37 (.bin .lss (.t 32) (.t 36)),oz 4 (.mv (.t 37))]) .ret) .skip))) (rg false [oz 18 (.mv (.t 5)),oz 19 (.bin .add (.t 18) (.k (.i .i64 1))),oz 5 (.mv (.t 19))])))
noncomputable def O8:CI:=⟨false,2,38,[.tmp 4],(.seq (rg false [oz 2 (.box 25 17 (.t 0)),oz 3 (.box 25 17 (.t 1)),oz 4 (.mv (.k (.b false)))]) (.seq (.seq (rg false [oz 6 (.fa 0 (.t 2)),oz 7 (.ld false 1 (.t 6)),oz 8 (.fa 0 (.t 3)),oz 9 (.ld false 1 (.t 8)),oz 10 (.bin .neq (.t 7) (.t 9))]) (.cond (.t 10) (.seq (rg false [oz 11 (.fa 0 (.t 2)),oz 12 (.ld false 1 (.t 11)),oz 13 (.fa 0 (.t 3)),oz 14 (.ld false 1 (.t 13)),oz 15 (.bin .lss (.t 12) (.t 14)),oz 4 (.mv (.t 15))]) .ret) .skip)) (.seq (.seq (rg false [oz 5 (.mv (.k (.i .i64 0)))]) (.blk 0 (.loop [2,3,5] Zd))) (.seq (rg false [oz 4 (.mv (.k (.b false)))]) .ret))))⟩
noncomputable def Tb:AC:=(.seq (rg false [oz 9 (.bin .lss (.t 8) (.t 7))]) (.seq (.cond (.t 9) .skip (.exit 0)) (.seq (.blk 1 (.seq (rg false [oz 10 (.ias 1 (.t 6) (.t 8)),oz 11 (.ld false 1 (.t 10)),oz 5 (.mv (.t 11))]) (.seq (rg false [oz 12 (.mv (.t 5)),oz 13 (.bin .shr (.t 12) (.k (.i .u64 4))),oz 14 (.ixs (.k (.s [48,49,50,51,52,53,54,55,56,57,97,98,99,100,101,102])) (.t 13)),oz 15 (.call BI [(.t 3),(.t 14)])]) (rg false [oz 16 (.mv (.t 5)),oz 17 (.bin .and (.t 16) (.k (.i .u8 15))),oz 18 (.ixs (.k (.s [48,49,50,51,52,53,54,55,56,57,97,98,99,100,101,102])) (.t 17)),oz 19 (.call BI [(.t 3),(.t 18)])])))) (rg false [oz 20 (.bin .add (.t 8) (.k (.i .i64 1))),oz 8 (.mv (.t 20))]))))
noncomputable def Jq:CI:=⟨false,1,22,[.tmp 2],(.seq (rg false [oz 2 (.mv (.k (.s [])))]) (.seq (rg false [oz 3 (.alloc 107 (zz [(1, .nilp),(1, .nils)]))]) (.seq (.seq (rg false [oz 6 (.mv (.t 0)),oz 7 (.len (.t 6)),oz 8 (.mv (.k (.i .i64 0)))]) (.blk 0 (.loop [3,6,7,8] Tb))) (.seq (rg false [oz 21 (.call BE [(.t 3)]),oz 2 (.mv (.t 21))]) .ret))))⟩
noncomputable def Ip:CI:=⟨false,1,28,[.tmp 2],(.seq (rg false [oz 1 (.box 27 18 (.t 0)),oz 2 (.mv (.k (.s [])))]) (.seq (.seq (rg false [oz 4 (.ld true 18 (.t 1)),oz 5 (.call Dd [(.t 4)]),oz 6 (.un .not (.t 5))]) (.cond (.t 6) (.seq (rg false [oz 2 (.mv (.k (.s [])))]) .ret) .skip)) (.seq (rg false [oz 7 (.fa 17 (.t 1)),oz 8 (.ld false 1 (.t 7)),oz 9 (.cvi .u64 (.t 8)),oz 10 (.call Dk [(.t 9)]),oz 3 (.mv (.t 10))]) (.seq (.seq (rg false [oz 11 (.fa 0 (.t 1)),oz 12 (.ld true 17 (.t 11)),oz 13 (.call F9 [(.t 12)]),oz 14 (.bin .gtr (.t 13) (.k (.i .i64 32)))]) (.cond (.t 14) (.seq (rg false [oz 15 (.fa 0 (.t 1)),oz 16 (.ld true 17 (.t 15)),oz 17 (.call Fs [(.t 16)]),oz 18 (.bin .add (.k (.s [91])) (.t 17)),oz 19 (.bin .add (.t 18) (.k (.s [93,58]))),oz 20 (.mv (.t 3)),oz 21 (.bin .add (.t 19) (.t 20)),oz 2 (.mv (.t 21))]) .ret) .skip)) (.seq (rg false [oz 22 (.fa 0 (.t 1)),oz 23 (.ld true 17 (.t 22)),oz 24 (.call Fs [(.t 23)]),oz 25 (.bin .add (.t 24) (.k (.s [58]))),oz 26 (.mv (.t 3)),oz 27 (.bin .add (.t 25) (.t 26)),oz 2 (.mv (.t 27))]) .ret)))))⟩
noncomputable def OC:CI:=⟨false,1,5,[.tmp 2],(.seq (rg false [oz 1 (.box 29 32 (.t 0)),oz 2 (.mv (.k (.s [])))]) (.seq (rg false [oz 3 (.sla 32 1 (.t 1) none none),oz 4 (.call Fd [(.t 3)]),oz 2 (.mv (.t 4))]) .ret))⟩
noncomputable def Jx:CI:=⟨false,1,5,[.tmp 2],(.seq (rg false [oz 2 (.mv (.k (.s [])))]) (.seq (rg false [oz 3 (.mv (.t 0)),oz 4 (.call Dh [(.t 3),(.k (.i .i64 10))]),oz 2 (.mv (.t 4))]) .ret))⟩
noncomputable def Em:CI:=⟨false,1,20,[],(.seq (rg false [oz 2 (.mv (.t 0)),oz 3 (.nilc (.t 2)),oz 4 (.fa 0 (.t 3)),oz 5 (.ld false 1 (.t 4)),oz 6 (.eq false .p (.t 5) (.k (.nilp)))]) (.cond (.t 6) (rg false [oz 7 (.mv (.t 0)),oz 8 (.mv (.t 0)),oz 9 (.cvp (.t 8)),oz 10 (.call F7 [(.t 9)]),oz 11 (.cvu 107 2 (.t 10)),oz 12 (.nilc (.t 7)),oz 13 (.fa 0 (.t 12)),on (.st 1 (.t 13) (.t 11))]) (.seq (rg false [oz 14 (.mv (.t 0)),oz 15 (.nilc (.t 14)),oz 16 (.fa 0 (.t 15)),oz 17 (.ld false 1 (.t 16)),oz 18 (.mv (.t 0)),oz 19 (.eqp true (.t 17) (.t 18))]) (.cond (.t 19) .stop .skip))))⟩
noncomputable def FM:CI:=⟨false,2,8,[.tmp 4],(.seq (rg false [oz 4 (.mv (.k (.i .i64 0)))]) (.seq (rg false [oz 5 (.mv (.t 0)),oz 6 (.mv (.t 1)),oz 7 (.call Bi [(.t 5),(.t 6)]),oz 4 (.mv (.t 7))]) .ret))⟩
noncomputable def Ze:AC:=(.seq (.seq (rg false [oz 9 (.mv (.t 6)),oz 10 (.bin .lss (.t 9) (.k (.i .i64 8)))]) (.cond (.t 10) .skip (.exit 0))) (.seq (.blk 1 (.seq (rg false [oz 13 (.ld true 8 (.t 3)),oz 14 (.mv (.t 6)),oz 15 (.call I7 [(.t 13),(.t 14)]),oz 16 (.mv (.t 5)),oz 17 (.bin .gtr (.t 15) (.t 16))]) (.cond (.t 17) (.seq (rg false [oz 18 (.mv (.t 6)),oz 4 (.mv (.t 18))]) (rg false [oz 19 (.ld true 8 (.t 3)),oz 20 (.mv (.t 6)),oz 21 (.call I7 [(.t 19),(.t 20)]),oz 5 (.mv (.t 21))])) .skip))) (rg false [oz 11 (.mv (.t 6)),oz 12 (.bin .add (.t 11) (.k (.i .i64 1))),oz 6 (.mv (.t 12))])))
noncomputable def O9:CI:=⟨false,1,36,[.tmp 2],(.seq (rg false [oz 1 (.box 23 16 (.t 0)),oz 2 (.mv (.k (.s [])))]) (.seq (rg false [oz 7 (.ld true 16 (.t 1)),oz 8 (.call GH [(.t 7)]),oz 3 (.alloc 185 (Ay 8 (T.int .i64)).zc),on (.st 8 (.t 3) (.t 8))]) (.seq (rg false [oz 4 (.mv (.k (.i .i64 0)))]) (.seq (rg false [oz 5 (.mv (.k (.i .i64 0)))]) (.seq (.seq (rg false [oz 6 (.mv (.k (.i .i64 0)))]) (.blk 0 (.loop [3,4,5,6] Ze))) (.seq (.seq (rg false [oz 22 (.mv (.t 5)),oz 23 (.bin .lss (.t 22) (.k (.i .i64 2)))]) (.cond (.t 23) (.seq (rg false [oz 24 (.ld true 8 (.t 3)),oz 25 (.call Hi [(.t 24),(.k (.i .i64 0)),(.k (.i .i64 8))]),oz 2 (.mv (.t 25))]) .ret) .skip)) (.seq (rg true [oz 26 (.ld true 8 (.t 3)),oz 27 (.mv (.t 4)),oz 28 (.call Hi [(.t 26),(.k (.i .i64 0)),(.t 27)]),oz 29 (.bin .add (.t 28) (.k (.s [58,58]))),oz 30 (.ld true 8 (.t 3)),oz 31 (.mv (.t 4)),oz 32 (.mv (.t 5)),oz 33 (.bin .add (.t 31) (.t 32)),oz 34 (.call Hi [(.t 30),(.t 33),(.k (.i .i64 8))]),oz 35 (.bin .add (.t 29) (.t 34)),oz 2 (.mv (.t 35))]) .ret)))))))⟩
noncomputable def Zf:AC:=(.seq (.seq (rg false [oz 9 (.mv (.t 4)),oz 10 (.bin .lss (.t 9) (.k (.i .i64 4)))]) (.cond (.t 10) .skip (.exit 0))) (.seq (.blk 1 (rg false [oz 13 (.mv (.t 3)),oz 14 (.bin .add (.t 13) (.k (.s [46]))),oz 15 (.mv (.t 4)),oz 16 (.iaa 4 1 (.t 1) (.t 15)),oz 17 (.ld false 1 (.t 16)),oz 18 (.cvi .u64 (.t 17)),oz 19 (.call Dc [(.t 18)]),oz 20 (.bin .add (.t 14) (.t 19)),oz 3 (.mv (.t 20))])) (rg false [oz 11 (.mv (.t 4)),oz 12 (.bin .add (.t 11) (.k (.i .i64 1))),oz 4 (.mv (.t 12))])))
noncomputable def OA:CI:=⟨false,1,22,[.tmp 2],(.seq (rg false [oz 1 (.box 156 4 (.t 0)),oz 2 (.mv (.k (.s [])))]) (.seq (rg false [oz 5 (.iaa 4 1 (.t 1) (.k (.i .i64 0))),oz 6 (.ld false 1 (.t 5)),oz 7 (.cvi .u64 (.t 6)),oz 8 (.call Dc [(.t 7)]),oz 3 (.mv (.t 8))]) (.seq (.seq (rg false [oz 4 (.mv (.k (.i .i64 1)))]) (.blk 0 (.loop [1,3,4] Zf))) (.seq (rg false [oz 21 (.mv (.t 3)),oz 2 (.mv (.t 21))]) .ret))))⟩
noncomputable def Ls:CI:=⟨false,1,20,[.tmp 2],(.seq (rg false [oz 1 (.box 91 18 (.t 0)),oz 2 (.mv (.k (.b false)))]) (.seq (rg false [oz 6 (.fa 0 (.t 1)),oz 7 (.ld true 17 (.t 6)),oz 8 (.fa 17 (.t 1)),oz 9 (.ld false 1 (.t 8)),oz 10 (.call JQ [(.t 7),(.t 9)]),oz 5 (.mv (.t 10)),oz 11 (.ext (.t 5) 0),oz 12 (.ext (.t 5) 1),oz 3 (.alloc 91 Aj.zc),on (.st 18 (.t 3) (.t 11)),oz 4 (.mv (.t 12))]) (.seq (rg false [oz 13 (.mv (.t 4)),oz 14 (.bin .eql (.t 13) (.k (.i .i64 0))),oz 15 (.mv (.t 14)),⟨some 16,some (15,true), .ld true 18 (.t 3)⟩,⟨some 17,some (15,true), .ld true 18 (.t 1)⟩,⟨some 18,some (15,true), .eq false (.agg (kk [(1, .i .i64),(16, .i .u8),(1, .i .i64)])) (.t 16) (.t 17)⟩,oz 19 (.pick (.t 15) (.t 18) (.k (.b false))),oz 2 (.mv (.t 19))]) .ret)))⟩
noncomputable def M2:CI:=⟨false,2,20,[.tmp 4],(.seq (rg false [oz 2 (.box 91 18 (.t 0)),oz 3 (.box 91 18 (.t 1)),oz 4 (.mv (.k (.b false)))]) (.seq (.seq (rg false [oz 5 (.fa 0 (.t 2)),oz 6 (.ld true 17 (.t 5)),oz 7 (.fa 0 (.t 3)),oz 8 (.ld true 17 (.t 7)),oz 9 (.eq false (.agg (kk [(1, .i .i64),(16, .i .u8)])) (.t 6) (.t 8))]) (.cond (.t 9) (.seq (rg false [oz 10 (.fa 17 (.t 2)),oz 11 (.ld false 1 (.t 10)),oz 12 (.fa 17 (.t 3)),oz 13 (.ld false 1 (.t 12)),oz 14 (.bin .lss (.t 11) (.t 13)),oz 4 (.mv (.t 14))]) .ret) .skip)) (.seq (rg false [oz 15 (.fa 0 (.t 2)),oz 16 (.ld true 17 (.t 15)),oz 17 (.fa 0 (.t 3)),oz 18 (.ld true 17 (.t 17)),oz 19 (.call HF [(.t 16),(.t 18)]),oz 4 (.mv (.t 19))]) .ret)))⟩
noncomputable def Lu:CI:=⟨false,1,20,[.tmp 2],(.seq (rg false [oz 1 (.box 25 17 (.t 0)),oz 2 (.mv (.k (.b false)))]) (.seq (rg true [oz 3 (.fa 0 (.t 1)),oz 4 (.ld false 1 (.t 3)),oz 5 (.bin .eql (.t 4) (.k (.i .i64 6))),oz 6 (.mv (.t 5)),⟨some 7,some (6,false), .fa 0 (.t 1)⟩,⟨some 8,some (6,false), .ld false 1 (.t 7)⟩,⟨some 9,some (6,false), .bin .eql (.t 8) (.k (.i .i64 4))⟩,⟨some 10,some (6,false), .mv (.t 9)⟩,⟨some 11,some (10,true), .ld true 17 (.t 1)⟩,⟨some 12,some (10,true), .fa 1 (.t 1)⟩,⟨some 13,some (10,true), .sla 16 1 (.t 12) none (some (.k (.i .i64 4)))⟩,⟨some 14,some (10,true), .s2a 4 1 (.t 13)⟩,⟨some 15,some (10,true), .ld true 4 (.t 14)⟩,⟨some 16,some (10,true), .call HG [(.t 15)]⟩,⟨some 17,some (10,true), .eq false (.agg (kk [(1, .i .i64),(16, .i .u8)])) (.t 11) (.t 16)⟩,⟨some 18,some (6,false), .pick (.t 10) (.t 17) (.k (.b false))⟩,oz 19 (.pick (.t 6) (.k (.b true)) (.t 18)),oz 2 (.mv (.t 19))]) .ret))⟩
noncomputable def EX:CI:=⟨false,2,9,[.tmp 4],(.seq (rg false [oz 4 (.mv (.k (.b false)))]) (.seq (rg false [oz 5 (.mv (.t 0)),oz 6 (.mv (.t 1)),oz 7 (.call DD [(.t 5),(.t 6)]),oz 8 (.bin .geq (.t 7) (.k (.i .i64 0))),oz 4 (.mv (.t 8))]) .ret))⟩
noncomputable def G5:CI:=⟨false,2,9,[.tmp 4],(.seq (rg false [oz 4 (.mv (.k (.b false)))]) (.seq (rg false [oz 5 (.mv (.t 0)),oz 6 (.mv (.t 1)),oz 7 (.call ED [(.t 5),(.t 6)]),oz 8 (.bin .geq (.t 7) (.k (.i .i64 0))),oz 4 (.mv (.t 8))]) .ret))⟩
noncomputable def Kl:CI:=⟨false,1,31,[.tmp 2],(.seq (rg false [oz 1 (.box 93 70 (.t 0)),oz 2 (.mv (.k (.b false)))]) (.seq (.seq (rg false [oz 6 (.fa 0 (.t 1)),oz 7 (.ld false 1 (.t 6)),oz 8 (.call F8 [(.t 7)]),oz 9 (.bin .eql (.t 8) (.k (.s [])))]) (.cond (.t 9) (.seq (rg false [oz 2 (.mv (.k (.b false)))]) .ret) .skip)) (.seq (rg false [oz 10 (.fa 0 (.t 1)),oz 11 (.ld false 1 (.t 10)),oz 12 (.call EG [(.t 11)]),oz 3 (.alloc 168 (zz [(3, .nilf)])),on (.st 3 (.t 3) (.t 12))]) (.seq (rg false [oz 14 (.fa 1 (.t 3)),oz 15 (.ld false 1 (.t 14)),oz 16 (.ld true 70 (.t 1)),oz 17 (.callv (.t 15) [(.t 16)]),oz 13 (.mv (.t 17)),oz 18 (.ext (.t 13) 0),oz 19 (.ext (.t 13) 1),oz 4 (.mv (.t 18)),oz 5 (.mv (.t 19))]) (.seq (.regd [oz 20 (.mv (.t 5)),oz 21 (.mv (.t 20)),⟨some 22,some (21,true), .fa 2 (.t 3)⟩,⟨some 23,some (21,true), .ld false 1 (.t 22)⟩,⟨some 24,some (21,true), .ld true 70 (.t 1)⟩,⟨some 25,some (21,true), .callv (.t 23) [(.t 24)]⟩,⟨some 26,some (21,true), .fa 0 (.t 1)⟩,⟨some 27,some (21,true), .ld false 1 (.t 26)⟩,⟨some 28,some (21,true), .bld Af.zc [(0,1,(.t 27))]⟩,⟨some 29,some (21,true), .eq false (.agg (kk [(1, .i .i64),(32, .i .u8),(1, .i .u64),(1, .i .i64),(16, .i .u8),(2, .i .i64),(16, .i .u8),(1, .i .i64)])) (.t 25) (.t 28)⟩,oz 30 (.pick (.t 21) (.t 29) (.k (.b false))),oz 2 (.mv (.t 30))] [some (0,0),some (0,0),some (0,0),some (0,0),some (0,0),none,some (0,1),some (0,1),some (0,1),some (1,1),some (1,1),some (1,1)]) .ret)))))⟩
noncomputable def KO:CI:=⟨true,1,33,[.cell true 3 2],(.seq (rg false [oz 2 (.alloc 168 (zz [(3, .nilf)]))]) (.seq (.seq (rg false [oz 3 (.mv (.t 0))]) (.blk 0 (.seq (.seq (rg false [oz 5 (.bin .eql (.t 3) (.k (.i .i64 1))),oz 4 (.mv (.t 5))]) (.cond (.t 4) .skip (.seq (rg false [oz 6 (.bin .eql (.t 3) (.k (.i .i64 5))),oz 4 (.mv (.t 6))]) (.cond (.t 4) .skip (rg false [oz 7 (.bin .eql (.t 3) (.k (.i .i64 8))),oz 4 (.mv (.t 7))]))))) (.cond (.t 4) (.seq (rg false [oz 8 (.call Hj []),on (.st 3 (.t 2) (.t 8))]) .ret) (.seq (rg false [oz 10 (.bin .eql (.t 3) (.k (.i .i64 9))),oz 9 (.mv (.t 10))]) (.cond (.t 9) (.seq (rg false [oz 11 (.call Hk []),on (.st 3 (.t 2) (.t 11))]) .ret) (.seq (rg false [oz 13 (.bin .eql (.t 3) (.k (.i .i64 12))),oz 12 (.mv (.t 13))]) (.cond (.t 12) (.seq (rg false [oz 14 (.call FU []),on (.st 3 (.t 2) (.t 14))]) .ret) (.seq (.seq (rg false [oz 16 (.bin .eql (.t 3) (.k (.i .i64 2))),oz 15 (.mv (.t 16))]) (.cond (.t 15) .skip (rg false [oz 17 (.bin .eql (.t 3) (.k (.i .i64 10))),oz 15 (.mv (.t 17))]))) (.cond (.t 15) (.seq (rg false [oz 18 (.call CS [(.k (.i .u64 0)),(.k (.i .u64 65535))]),on (.st 3 (.t 2) (.t 18))]) .ret) (.seq (rg false [oz 20 (.bin .eql (.t 3) (.k (.i .i64 3))),oz 19 (.mv (.t 20))]) (.cond (.t 19) (.seq (rg false [oz 21 (.call CS [(.k (.i .u64 0)),(.k (.i .u64 4294967295))]),on (.st 3 (.t 2) (.t 21))]) .ret) (.seq (rg false [oz 23 (.bin .eql (.t 3) (.k (.i .i64 13))),oz 22 (.mv (.t 23))]) (.cond (.t 22) (.seq (rg false [oz 24 (.call CS [(.k (.i .u64 1)),(.k (.i .u64 1))]),on (.st 3 (.t 2) (.t 24))])
     .ret) (.seq (.seq (rg false [oz 26 (.bin .eql (.t 3) (.k (.i .i64 14))),oz 25 (.mv (.t 26))]) (.cond (.t 25) .skip (rg false [oz 27 (.bin .eql (.t 3) (.k (.i .i64 15))),oz 25 (.mv (.t 27))]))) (.cond (.t 25) (.seq (rg false [oz 28 (.call CS [(.k (.i .u64 0)),(.k (.i .u64 18446744073709551615))]),on (.st 3 (.t 2) (.t 28))]) .ret) (.seq (rg false [oz 30 (.bin .eql (.t 3) (.k (.i .i64 16))),oz 29 (.mv (.t 30))]) (.cond (.t 29) (.seq (rg false [oz 31 (.call CS [(.k (.i .u64 0)),(.k (.i .u64 20))]),on (.st 3 (.t 2) (.t 31))]) .ret) .skip)))))))))))))))))) (.seq (rg false [oz 32 (.call Id []),on (.st 3 (.t 2) (.t 32))]) .ret)))⟩
noncomputable def Lq:CI:=⟨false,1,12,[.tmp 2],(.seq (rg false [oz 2 (.mv (.k (.s [])))]) (.seq (.seq (rg false [oz 3 (.mv (.t 0)),oz 4 (.bin .lss (.t 3) (.k (.i .i64 1))),oz 5 (.mv (.t 4)),⟨some 6,some (5,false), .mv (.t 0)⟩,⟨some 7,some (5,false), .bin .gtr (.t 6) (.k (.i .i64 16))⟩,oz 8 (.pick (.t 5) (.k (.b true)) (.t 7))]) (.cond (.t 8) (.seq (rg false [oz 2 (.mv (.k (.s [])))]) .ret) .skip)) (.seq (rg false [oz 9 (.mv (.t 0)),oz 10 (.iaa 17 1 (.g 0) (.t 9)),oz 11 (.ld false 1 (.t 10)),oz 2 (.mv (.t 11))]) .ret)))⟩
noncomputable def Qq:CI:=⟨false,2,10,[.tmp 4],(.seq (rg false [oz 4 (.mv (.k (.b false)))]) (.seq (rg false [oz 5 (.mv (.t 0)),oz 6 (.mv (.t 1)),oz 7 (.call Gz [(.t 5),(.t 6)]),oz 8 (.len (.t 7)),oz 9 (.bin .gtr (.t 8) (.k (.i .i64 1))),oz 4 (.mv (.t 9))]) .ret))⟩
noncomputable def Qp:CI:=⟨false,1,13,[.tmp 2],(.seq (rg false [oz 2 (.mv (.k (.b false)))]) (.seq (rg false [oz 3 (.mv (.t 0)),oz 4 (.bin .eql (.t 3) (.k (.i .i64 1))),oz 5 (.mv (.t 4)),⟨some 6,some (5,false), .mv (.t 0)⟩,⟨some 7,some (5,false), .bin .eql (.t 6) (.k (.i .i64 5))⟩,oz 8 (.pick (.t 5) (.k (.b true)) (.t 7)),oz 9 (.mv (.t 8)),⟨some 10,some (9,false), .mv (.t 0)⟩,⟨some 11,some (9,false), .bin .eql (.t 10) (.k (.i .i64 8))⟩,oz 12 (.pick (.t 9) (.k (.b true)) (.t 11)),oz 2 (.mv (.t 12))]) .ret))⟩
noncomputable def O4:CI:=⟨false,1,15,[.tmp 2],(.seq (rg false [oz 1 (.box 91 18 (.t 0)),oz 2 (.mv (.k (.s [])))]) (.seq (.seq (rg false [oz 3 (.ld true 18 (.t 1)),oz 4 (.call Gx [(.t 3)]),oz 5 (.un .not (.t 4))]) (.cond (.t 5) (.seq (rg false [oz 2 (.mv (.k (.s [])))]) .ret) .skip)) (.seq (rg true [oz 6 (.fa 0 (.t 1)),oz 7 (.ld true 17 (.t 6)),oz 8 (.call Ge [(.t 7)]),oz 9 (.bin .add (.t 8) (.k (.s [47]))),oz 10 (.fa 17 (.t 1)),oz 11 (.ld false 1 (.t 10)),oz 12 (.cvi .u64 (.t 11)),oz 13 (.call Dc [(.t 12)]),oz 14 (.bin .add (.t 9) (.t 13)),oz 2 (.mv (.t 14))]) .ret)))⟩
noncomputable def Oz:CI:=⟨false,1,17,[.tmp 2],(.seq (rg false [oz 2 (.mv (.k (.b false)))]) (.seq (rg false [oz 3 (.mv (.t 0)),oz 4 (.bin .eql (.t 3) (.k (.i .i64 4))),oz 5 (.mv (.t 4)),⟨some 6,some (5,false), .mv (.t 0)⟩,⟨some 7,some (5,false), .bin .eql (.t 6) (.k (.i .i64 6))⟩,oz 8 (.pick (.t 5) (.k (.b true)) (.t 7)),oz 9 (.mv (.t 8)),⟨some 10,some (9,false), .mv (.t 0)⟩,⟨some 11,some (9,false), .bin .eql (.t 10) (.k (.i .i64 7))⟩,oz 12 (.pick (.t 9) (.k (.b true)) (.t 11)),oz 13 (.mv (.t 12)),⟨some 14,some (13,false), .mv (.t 0)⟩,⟨some 15,some (13,false), .bin .eql (.t 14) (.k (.i .i64 11))⟩,oz 16 (.pick (.t 13) (.k (.b true)) (.t 15)),oz 2 (.mv (.t 16))]) .ret))⟩
noncomputable def Ml:CI:=⟨false,0,2,[.tmp 0],(.seq (rg false [oz 0 (.mv (.k (.nils)))]) (.seq (rg false [oz 1 (.bls 9 1 (List.replicate 17 Ax.zc) [(0,(.k (.s []))),(1,(.k (.s [112,114,105,118,97,116,101,95,107,101,121]))),(2,(.k (.s [108,105,115,116,101,110,95,112,111,114,116]))),(3,(.k (.s [102,119,109,97,114,107]))),(4,(.k (.s [114,101,112,108,97,99,101,95,112,101,101,114,115]))),(5,(.k (.s [112,117,98,108,105,99,95,107,101,121]))),(6,(.k (.s [114,101,109,111,118,101]))),(7,(.k (.s [117,112,100,97,116,101,95,111,110,108,121]))),(8,(.k (.s [112,114,101,115,104,97,114,101,100,95,107,101,121]))),(9,(.k (.s [101,110,100,112,111,105,110,116]))),(10,(.k (.s [112,101,114,115,105,115,116,101,110,116,95,107,101,101,112,97,108,105,118,101,95,105,110,116,101,114,118,97,108]))),(11,(.k (.s [114,101,112,108,97,99,101,95,97,108,108,111,119,101,100,95,105,112,115]))),(12,(.k (.s [97,108,108,111,119,101,100,95,105,112]))),(13,(.k (.s [112,114,111,116,111,99,111,108,95,118,101,114,115,105,111,110]))),(14,(.k (.s [116,120,95,98,121,116,101,115]))),(15,(.k (.s [114,120,95,98,121,116,101,115]))),(16,(.k (.s [101,114,114,110,111])))]),oz 0 (.mv (.t 1))]) .ret))⟩
noncomputable def XM:AC:=(.seq (.seq (rg false [oz 13 (.mv (.t 6)),oz 14 (.mv (.t 1)),oz 15 (.bin .rem (.t 14) (.k (.i .i64 8))),oz 16 (.bin .gtr (.t 13) (.t 15))]) (.cond (.t 16) .skip (.exit 0))) (.seq (.blk 1 (rg false [oz 19 (.mv (.t 5)),oz 20 (.bin .quo (.t 19) (.k (.i .i64 2))),oz 5 (.mv (.t 20))])) (rg false [oz 17 (.mv (.t 6)),oz 18 (.bin .sub (.t 17) (.k (.i .i64 1))),oz 6 (.mv (.t 18))])))
noncomputable def Mq:CI:=⟨false,2,23,[.tmp 4],(.seq (rg false [oz 2 (.box 25 17 (.t 0)),oz 4 (.mv (.k (.i .i64 0)))]) (.seq (rg false [oz 7 (.mv (.t 1)),oz 8 (.bin .quo (.t 7) (.k (.i .i64 8))),oz 9 (.fa 1 (.t 2)),oz 10 (.iaa 16 1 (.t 9) (.t 8)),oz 11 (.ld false 1 (.t 10)),oz 12 (.cvi .i64 (.t 11)),oz 5 (.mv (.t 12))]) (.seq (.seq (rg false [oz 6 (.mv (.k (.i .i64 7)))]) (.blk 0 (.loop [1,5,6] XM))) (.seq (rg false [oz 21 (.mv (.t 5)),oz 22 (.bin .rem (.t 21) (.k (.i .i64 2))),oz 4 (.mv (.t 22))]) .ret))))⟩
noncomputable def En:CI:=⟨false,2,17,[.tmp 4],(.seq (rg false [oz 4 (.mv (.k (.nili)))]) (.seq (rg false [oz 5 (.mv (.t 0)),oz 6 (.call B2 [(.t 5)])]) (.seq (rg false [oz 7 (.mv (.t 0)),oz 8 (.mv (.t 0)),oz 9 (.nilc (.t 8)),oz 10 (.fa 1 (.t 9)),oz 11 (.ld false 1 (.t 10)),oz 12 (.mv (.t 1)),oz 13 (.bll 1 (List.replicate 1 T.u8.zc) [(0,(.t 12))]),oz 14 (.app 5 1 1 (.t 11) (.t 13)),oz 15 (.nilc (.t 7)),oz 16 (.fa 1 (.t 15)),on (.st 1 (.t 16) (.t 14))]) (.seq (rg false [oz 4 (.mv (.k (.nili)))]) .ret))))⟩
noncomputable def Lt:CI:=⟨false,1,11,[.tmp 2],(.seq (rg false [oz 1 (.box 25 17 (.t 0)),oz 2 (.mv (.k (.i .i64 0)))]) (.seq (.blk 0 (.seq (rg false [oz 4 (.ld true 17 (.t 1)),oz 5 (.call D6 [(.t 4)]),oz 6 (.un .not (.t 5)),oz 3 (.mv (.t 6))]) (.cond (.t 3) (.seq (rg false [oz 2 (.mv (.k (.i .i64 0)))]) .ret) (.seq (rg false [oz 8 (.fa 0 (.t 1)),oz 9 (.ld false 1 (.t 8)),oz 10 (.bin .eql (.t 9) (.k (.i .i64 4))),oz 7 (.mv (.t 10))]) (.cond (.t 7) (.seq (rg false [oz 2 (.mv (.k (.i .i64 32)))]) .ret) .skip))))) (.seq (rg false [oz 2 (.mv (.k (.i .i64 128)))]) .ret)))⟩
noncomputable def M3:CI:=⟨false,1,19,[.tmp 2],(.seq (rg false [oz 1 (.box 25 17 (.t 0)),oz 2 (.mv (.k (.s [])))]) (.seq (.blk 0 (.seq (rg false [oz 4 (.ld true 17 (.t 1)),oz 5 (.call D6 [(.t 4)]),oz 6 (.un .not (.t 5)),oz 3 (.mv (.t 6))]) (.cond (.t 3) (.seq (rg false [oz 2 (.mv (.k (.s [])))]) .ret) (.seq (rg false [oz 8 (.fa 0 (.t 1)),oz 9 (.ld false 1 (.t 8)),oz 10 (.bin .eql (.t 9) (.k (.i .i64 4))),oz 7 (.mv (.t 10))]) (.cond (.t 7) (.seq (rg false [oz 11 (.fa 1 (.t 1)),oz 12 (.sla 16 1 (.t 11) none (some (.k (.i .i64 4)))),oz 13 (.s2a 4 1 (.t 12)),oz 14 (.ld true 4 (.t 13)),oz 15 (.call H9 [(.t 14)]),oz 2 (.mv (.t 15))]) .ret) .skip))))) (.seq (rg false [oz 16 (.fa 1 (.t 1)),oz 17 (.ld true 16 (.t 16)),oz 18 (.call GL [(.t 17)]),oz 2 (.mv (.t 18))]) .ret)))⟩
noncomputable def Fu:CI:=⟨false,2,8,[.tmp 4],(.seq (rg false [oz 4 (.mv (.k (.s [])))]) (.seq (rg false [oz 5 (.mv (.t 0)),oz 6 (.mv (.t 1)),oz 7 (.call BJ [(.t 5),(.t 6)]),oz 4 (.mv (.t 7))]) .ret))⟩
noncomputable def C6:CI:=⟨false,2,8,[.tmp 4],(.seq (rg false [oz 4 (.mv (.k (.i .i64 0)))]) (.seq (rg false [oz 5 (.mv (.t 0)),oz 6 (.mv (.t 1)),oz 7 (.call Cj [(.t 5),(.t 6)]),oz 4 (.mv (.t 7))]) .ret))⟩
noncomputable def VI:AC:=(.seq (.seq (rg false [oz 5 (.mv (.t 4)),oz 6 (.bin .lss (.t 5) (.k (.i .i64 8)))]) (.cond (.t 6) .skip (.exit 0))) (.seq (.blk 1 (.regd [oz 9 (.mv (.t 4)),oz 10 (.mv (.t 4)),oz 11 (.bin .mul (.k (.i .i64 2)) (.t 10)),oz 12 (.iaa 16 1 (.t 1) (.t 11)),oz 13 (.ld false 1 (.t 12)),oz 14 (.cvi .i64 (.t 13)),oz 15 (.bin .mul (.k (.i .i64 256)) (.t 14)),oz 16 (.mv (.t 4)),oz 17 (.bin .mul (.k (.i .i64 2)) (.t 16)),oz 18 (.bin .add (.t 17) (.k (.i .i64 1))),oz 19 (.iaa 16 1 (.t 1) (.t 18)),oz 20 (.ld false 1 (.t 19)),oz 21 (.cvi .i64 (.t 20)),oz 22 (.bin .add (.t 15) (.t 21)),oz 23 (.iaa 8 1 (.t 3) (.t 9)),on (.st 1 (.t 23) (.t 22))] [some (0,0),some (0,0),some (0,0),some (0,0),some (0,0),some (0,0),some (0,0),some (0,0),some (0,0),some (0,0),some (0,0),some (0,0),some (0,0),some (0,0),some (0,0),none])) (rg false [oz 7 (.mv (.t 4)),oz 8 (.bin .add (.t 7) (.k (.i .i64 1))),oz 4 (.mv (.t 8))])))
noncomputable def Lm:CI:=⟨false,1,25,[.cell true 8 2],(.seq (rg false [oz 1 (.box 23 16 (.t 0)),oz 2 (.alloc 185 (Ay 8 (T.int .i64)).zc)]) (.seq (rg false [oz 3 (.alloc 185 (Ay 8 (T.int .i64)).zc)]) (.seq (.seq (rg false [oz 4 (.mv (.k (.i .i64 0)))]) (.blk 0 (.loop [1,2,3,4] VI))) (.seq (rg false [oz 24 (.ld true 8 (.t 3)),on (.st 8 (.t 2) (.t 24))]) .ret))))⟩
noncomputable def eG:AC:=(.seq (.seq (rg false [oz 6 (.mv (.t 1)),oz 7 (.mv (.t 5)),oz 8 (.bin .add (.t 6) (.t 7)),oz 9 (.bin .lss (.t 8) (.k (.i .i64 8))),oz 10 (.mv (.t 9)),⟨some 11,some (10,true), .mv (.t 1)⟩,⟨some 12,some (10,true), .mv (.t 5)⟩,⟨some 13,some (10,true), .bin .add (.t 11) (.t 12)⟩,⟨some 14,some (10,true), .iaa 8 1 (.t 2) (.t 13)⟩,⟨some 15,some (10,true), .ld false 1 (.t 14)⟩,⟨some 16,some (10,true), .bin .eql (.t 15) (.k (.i .i64 0))⟩,oz 17 (.pick (.t 10) (.t 16) (.k (.b false)))]) (.cond (.t 17) .skip (.exit 0))) (.blk 1 (rg false [oz 18 (.mv (.t 5)),oz 19 (.bin .add (.t 18) (.k (.i .i64 1))),oz 5 (.mv (.t 19))])))
noncomputable def Qr:CI:=⟨false,2,21,[.tmp 4],(.seq (rg false [oz 2 (.box 185 8 (.t 0)),oz 4 (.mv (.k (.i .i64 0)))]) (.seq (rg false [oz 5 (.mv (.k (.i .i64 0)))]) (.seq (.blk 0 (.loop [1,2,5] eG)) (.seq (rg false [oz 20 (.mv (.t 5)),oz 4 (.mv (.t 20))]) .ret))))⟩
noncomputable def eH:AC:=(.seq (.seq (rg false [oz 10 (.mv (.t 8)),oz 11 (.mv (.t 2)),oz 12 (.bin .lss (.t 10) (.t 11))]) (.cond (.t 12) .skip (.exit 0))) (.seq (.blk 1 (.seq (.seq (rg false [oz 15 (.mv (.t 8)),oz 16 (.mv (.t 1)),oz 17 (.bin .gtr (.t 15) (.t 16))]) (.cond (.t 17) (rg false [oz 18 (.mv (.t 7)),oz 19 (.bin .add (.t 18) (.k (.s [58]))),oz 7 (.mv (.t 19))]) .skip)) (rg false [oz 20 (.mv (.t 7)),oz 21 (.mv (.t 8)),oz 22 (.iaa 8 1 (.t 3) (.t 21)),oz 23 (.ld false 1 (.t 22)),oz 24 (.call E3 [(.t 23)]),oz 25 (.bin .add (.t 20) (.t 24)),oz 7 (.mv (.t 25))]))) (rg false [oz 13 (.mv (.t 8)),oz 14 (.bin .add (.t 13) (.k (.i .i64 1))),oz 8 (.mv (.t 14))])))
noncomputable def Qs:CI:=⟨false,3,27,[.tmp 6],(.seq (rg false [oz 3 (.box 185 8 (.t 0)),oz 6 (.mv (.k (.s [])))]) (.seq (rg false [oz 7 (.mv (.k (.s [])))]) (.seq (.seq (rg false [oz 9 (.mv (.t 1)),oz 8 (.mv (.t 9))]) (.blk 0 (.loop [1,2,3,7,8] eH))) (.seq (rg false [oz 26 (.mv (.t 7)),oz 6 (.mv (.t 26))]) .ret))))⟩
noncomputable def Qt:CI:=⟨false,2,26,[.cell true 18 4, .tmp 5],(.seq (rg false [oz 2 (.box 25 17 (.t 0)),oz 4 (.alloc 91 Aj.zc),oz 5 (.mv (.k (.i .i64 0)))]) (.seq (.blk 0 (.seq (rg false [oz 7 (.ld true 17 (.t 2)),oz 8 (.call D6 [(.t 7)]),oz 9 (.un .not (.t 8)),oz 6 (.mv (.t 9))]) (.cond (.t 6) (.seq (rg false [oz 10 (.bld Aj.zc []),on (.st 18 (.t 4) (.t 10)),oz 5 (.mv (.k (.i .i64 1)))]) .ret) (.seq (rg false [oz 12 (.mv (.t 1)),oz 13 (.bin .lss (.t 12) (.k (.i .i64 0))),oz 14 (.mv (.t 13)),⟨some 15,some (14,false), .mv (.t 1)⟩,⟨some 16,some (14,false), .ld true 17 (.t 2)⟩,⟨some 17,some (14,false), .call F9 [(.t 16)]⟩,⟨some 18,some (14,false), .bin .gtr (.t 15) (.t 17)⟩,oz 19 (.pick (.t 14) (.k (.b true)) (.t 18)),oz 11 (.mv (.t 19))]) (.cond (.t 11) (.seq (rg false [oz 20 (.bld Aj.zc []),on (.st 18 (.t 4) (.t 20)),oz 5 (.mv (.k (.i .i64 6)))]) .ret) .skip))))) (.seq (rg false [oz 21 (.ld true 17 (.t 2)),oz 22 (.mv (.t 1)),oz 23 (.call HE [(.t 21),(.t 22)]),oz 24 (.mv (.t 1)),oz 25 (.bld Aj.zc [(0,17,(.t 23)),(17,1,(.t 24))]),on (.st 18 (.t 4) (.t 25)),oz 5 (.mv (.k (.i .i64 0)))]) .ret)))⟩
noncomputable def M5:CI:=⟨false,2,21,[.tmp 4],(.seq (rg false [oz 2 (.box 25 17 (.t 0)),oz 3 (.box 25 17 (.t 1)),oz 4 (.mv (.k (.b false)))]) (.seq (.seq (rg false [oz 5 (.fa 0 (.t 2)),oz 6 (.ld false 1 (.t 5)),oz 7 (.fa 0 (.t 3)),oz 8 (.ld false 1 (.t 7)),oz 9 (.bin .neq (.t 6) (.t 8))]) (.cond (.t 9) (.seq (rg false [oz 10 (.fa 0 (.t 2)),oz 11 (.ld false 1 (.t 10)),oz 12 (.fa 0 (.t 3)),oz 13 (.ld false 1 (.t 12)),oz 14 (.bin .lss (.t 11) (.t 13)),oz 4 (.mv (.t 14))]) .ret) .skip)) (.seq (rg true [oz 15 (.fa 1 (.t 2)),oz 16 (.sla 16 1 (.t 15) none none),oz 17 (.fa 1 (.t 3)),oz 18 (.sla 16 1 (.t 17) none none),oz 19 (.call EI [(.t 16),(.t 18)]),oz 20 (.bin .lss (.t 19) (.k (.i .i64 0))),oz 4 (.mv (.t 20))]) .ret)))⟩
noncomputable def M6:CI:=⟨false,1,10,[.cell true 17 2],(.seq (rg false [oz 1 (.box 156 4 (.t 0)),oz 2 (.alloc 25 Ak.zc)]) (.seq (rg false [oz 4 (.bld Ak.zc [(0,1,(.k (.i .i64 4)))]),oz 3 (.alloc 25 Ak.zc),on (.st 17 (.t 3) (.t 4))]) (.seq (.regd [oz 5 (.fa 1 (.t 3)),oz 6 (.sla 16 1 (.t 5) none none),oz 7 (.sla 4 1 (.t 1) none none),oz 8 (.cpy 1 (.t 6) (.t 7))] [some (0,0),some (0,0),some (0,0),none]) (.seq (rg false [oz 9 (.ld true 17 (.t 3)),on (.st 17 (.t 2) (.t 9))]) .ret))))⟩
noncomputable def Pg:AC:=(.seq (.seq (rg false [oz 33 (.mv (.t 8)),oz 34 (.mv (.t 0)),oz 35 (.lens (.t 34)),oz 36 (.bin .lss (.t 33) (.t 35))]) (.cond (.t 36) .skip (.exit 0))) (.seq (.blk 1 (.seq (rg false [oz 39 (.mv (.t 0)),oz 40 (.mv (.t 8)),oz 41 (.ixs (.t 39) (.t 40)),oz 42 (.call BH [(.t 6),(.t 41)])]) (.cond (.t 42) (.seq (rg false [oz 43 (.mv (.t 8)),oz 4 (.mv (.t 43))]) .ret) .skip))) (rg false [oz 37 (.mv (.t 8)),oz 38 (.bin .add (.t 37) (.k (.i .i64 1))),oz 8 (.mv (.t 38))])))
noncomputable def Pe:AC:=(.seq (rg false [oz 46 (.nxt (.t 45)),oz 47 (.ext (.t 46) 0)]) (.seq (.cond (.t 47) .skip (.exit 2)) (.blk 3 (.seq (rg false [oz 48 (.ext (.t 46) 1),oz 49 (.ext (.t 46) 2),oz 9 (.mv (.t 48)),oz 10 (.mv (.t 49))]) (.seq (rg false [oz 50 (.mv (.t 1)),oz 51 (.mv (.t 10)),oz 52 (.call CC [(.t 50),(.t 51)]),oz 53 (.bin .geq (.t 52) (.k (.i .i64 0)))]) (.cond (.t 53) (.seq (rg false [oz 54 (.mv (.t 9)),oz 4 (.mv (.t 54))]) .ret) .skip))))))
noncomputable def G4:CI:=⟨false,2,55,[.tmp 4],(.seq (rg false [oz 4 (.mv (.k (.i .i64 0)))]) (.seq (.seq (rg false [oz 11 (.mv (.t 1)),oz 12 (.bin .eql (.t 11) (.k (.s [])))]) (.cond (.t 12) (.seq (rg false [oz 4 (.mv (.k (.i .i64 (-1))))]) .ret) .skip)) (.seq (.seq (rg false [oz 13 (.mv (.t 1)),oz 14 (.lens (.t 13)),oz 15 (.bin .eql (.t 14) (.k (.i .i64 1)))]) (.cond (.t 15) (.seq (rg false [oz 16 (.mv (.t 1)),oz 17 (.ixs (.t 16) (.k (.i .i64 0))),oz 18 (.cvi .i32 (.t 17)),oz 5 (.mv (.t 18))]) (.seq (.seq (rg false [oz 19 (.mv (.t 5)),oz 20 (.bin .geq (.t 19) (.k (.i .i32 128)))]) (.cond (.t 20) (rg false [oz 5 (.mv (.k (.i .i32 65533)))]) .skip)) (.seq (rg false [oz 21 (.mv (.t 0)),oz 22 (.mv (.t 5)),oz 23 (.call CC [(.t 21),(.t 22)]),oz 4 (.mv (.t 23))]) .ret))) .skip)) (.seq (.seq (rg false [oz 24 (.mv (.t 0)),oz 25 (.lens (.t 24)),oz 26 (.call BT [(.t 25)])]) (.cond (.t 26) (.seq (rg false [oz 28 (.mv (.t 1)),oz 29 (.call C9 [(.t 28)]),oz 27 (.mv (.t 29)),oz 30 (.ext (.t 27) 0),oz 31 (.ext (.t 27) 1),oz 6 (.alloc 222 (Ay 256 T.b).zc),on (.st 256 (.t 6) (.t 30)),oz 7 (.mv (.t 31))]) (.seq (rg false [oz 32 (.mv (.t 7))]) (.cond (.t 32) (.seq (.seq (rg false [oz 8 (.mv (.k (.i .i64 0)))]) (.blk 0 (.loop [0,6,8] Pg))) (.seq (rg false [oz 4 (.mv (.k (.i .i64 (-1))))]) .ret)) .skip))) .skip)) (.seq (.seq (rg false [oz 44 (.mv (.t 0)),oz 45 (.rng (.t 44))]) (.blk 2 (.loop [1,45] Pe))) (.seq (rg false [oz 4 (.mv (.k (.i .i64 (-1))))]) .ret))))))⟩
noncomputable def In:CI:=⟨false,2,8,[.tmp 4],(.seq (rg false [oz 4 (.mv (.k (.i .i64 0)))]) (.seq (rg false [oz 5 (.mv (.t 0)),oz 6 (.mv (.t 1)),oz 7 (.call BL [(.t 5),(.t 6)]),oz 4 (.mv (.t 7))]) .ret))⟩
noncomputable def MP:CI:=⟨true,0,2,[.cell true 3 0],(.seq (rg false [oz 0 (.alloc 168 (zz [(3, .nilf)]))]) (.seq (rg false [oz 1 (.bld (zz [(3, .nilf)]) [(0,1,(.f HA)),(1,1,(.f CO)),(2,1,(.f CN))]),on (.st 3 (.t 0) (.t 1))]) .ret))⟩
noncomputable def MQ:CI:=⟨true,0,2,[.cell true 3 0],(.seq (rg false [oz 0 (.alloc 168 (zz [(3, .nilf)]))]) (.seq (rg false [oz 1 (.bld (zz [(3, .nilf)]) [(0,1,(.f HB)),(1,1,(.f CQ)),(2,1,(.f CP))]),on (.st 3 (.t 0) (.t 1))]) .ret))⟩
noncomputable def KQ:CI:=⟨true,0,2,[.cell true 3 0],(.seq (rg false [oz 0 (.alloc 168 (zz [(3, .nilf)]))]) (.seq (rg false [oz 1 (.bld (zz [(3, .nilf)]) [(0,1,(.f G1)),(1,1,(.f Cp)),(2,1,(.f Co))]),on (.st 3 (.t 0) (.t 1))]) .ret))⟩
noncomputable def KP:CI:=⟨true,2,8,[.cell true 3 4],(.seq (rg false [oz 2 (.box 81 1 (.t 0)),oz 3 (.box 81 1 (.t 1)),oz 4 (.alloc 168 (zz [(3, .nilf)]))]) (.seq (rg false [oz 5 (.mkf (.func B9) [] [(.t 3),(.t 2)]),oz 6 (.mkf (.func Bl) [] [(.t 2),(.t 3)]),oz 7 (.bld (zz [(3, .nilf)]) [(0,1,(.t 5)),(1,1,(.t 6)),(2,1,(.f Bh))]),on (.st 3 (.t 4) (.t 7))]) .ret))⟩
noncomputable def OD:CI:=⟨true,0,2,[.cell true 3 0],(.seq (rg false [oz 0 (.alloc 168 (zz [(3, .nilf)]))]) (.seq (rg false [oz 1 (.bld (zz [(3, .nilf)]) [(0,1,(.f Im)),(1,1,(.f Dj)),(2,1,(.f Di))]),on (.st 3 (.t 0) (.t 1))]) .ret))⟩
noncomputable def XQ:AC:=(.seq (rg false [oz 8 (.bin .lss (.t 7) (.k (.i .i64 4)))]) (.seq (.cond (.t 8) .skip (.exit 0)) (.seq (.blk 1 (.seq (rg false [oz 9 (.mv (.t 7)),oz 10 (.ixa 4 1 false (.t 6) (.t 7)),oz 4 (.mv (.t 9)),oz 5 (.mv (.t 10))]) (rg false [oz 11 (.mv (.t 4)),oz 12 (.mv (.t 5)),oz 13 (.cvi .u64 (.t 12)),oz 14 (.call Dk [(.t 13)]),oz 15 (.iaa 4 1 (.t 3) (.t 11)),on (.st 1 (.t 15) (.t 14))]))) (rg false [oz 16 (.bin .add (.t 7) (.k (.i .i64 1))),oz 7 (.mv (.t 16))]))))
noncomputable def My:CI:=⟨false,1,19,[.tmp 2],(.seq (rg false [oz 1 (.box 156 4 (.t 0)),oz 2 (.mv (.k (.s [])))]) (.seq (rg false [oz 3 (.alloc 228 (Ay 4 Ax).zc)]) (.seq (.seq (rg false [oz 6 (.ld true 4 (.t 1)),oz 7 (.mv (.k (.i .i64 0)))]) (.blk 0 (.loop [3,6,7] XQ))) (.seq (rg false [oz 17 (.sla 4 1 (.t 3) none none),oz 18 (.call Es [(.t 17),(.k (.s [46]))]),oz 2 (.mv (.t 18))]) .ret))))⟩
noncomputable def Lr:CI:=⟨false,1,27,[.tmp 2],(.seq (rg false [oz 1 (.box 23 16 (.t 0)),oz 2 (.mv (.k (.s [])))]) (.seq (rg false [oz 6 (.ld true 16 (.t 1)),oz 7 (.call Fg [(.t 6)]),oz 3 (.alloc 229 (Ay 8 T.u16).zc),on (.st 8 (.t 3) (.t 7))]) (.seq (rg false [oz 9 (.ld true 8 (.t 3)),oz 10 (.call EH [(.t 9)]),oz 8 (.mv (.t 10)),oz 11 (.ext (.t 8) 0),oz 12 (.ext (.t 8) 1),oz 4 (.mv (.t 11)),oz 5 (.mv (.t 12))]) (.seq (.seq (rg false [oz 13 (.mv (.t 5)),oz 14 (.bin .lss (.t 13) (.k (.i .i64 2)))]) (.cond (.t 14) (.seq (rg false [oz 15 (.sla 8 1 (.t 3) none none),oz 16 (.call Fq [(.t 15)]),oz 2 (.mv (.t 16))]) .ret) .skip)) (.seq (rg true [oz 17 (.mv (.t 4)),oz 18 (.sla 8 1 (.t 3) none (some (.t 17))),oz 19 (.call Fq [(.t 18)]),oz 20 (.bin .add (.t 19) (.k (.s [58,58]))),oz 21 (.mv (.t 4)),oz 22 (.mv (.t 5)),oz 23 (.bin .add (.t 21) (.t 22)),oz 24 (.sla 8 1 (.t 3) (some (.t 23)) none),oz 25 (.call Fq [(.t 24)]),oz 26 (.bin .add (.t 20) (.t 25)),oz 2 (.mv (.t 26))]) .ret)))))⟩
noncomputable def Df:CI:=⟨false,2,32,[.tmp 4],(.seq (rg false [oz 4 (.mv (.k (.s [])))]) (.seq (.seq (rg false [oz 9 (.mv (.t 1)),oz 10 (.bin .eql (.t 9) (.k (.i .i64 10)))]) (.cond (.t 10) (.seq (.seq (rg false [oz 11 (.mv (.t 0)),oz 12 (.bin .lss (.t 11) (.k (.i .u64 100)))]) (.cond (.t 12) (.seq (rg false [oz 13 (.mv (.t 0)),oz 14 (.cvi .i64 (.t 13)),oz 15 (.call Cn [(.t 14)]),oz 4 (.mv (.t 15))]) .ret) .skip)) (.seq (rg false [oz 5 (.alloc 240 (Ay 24 T.u8).zc)]) (.seq (rg false [oz 16 (.mv (.t 0)),oz 17 (.call BM [(.t 16)]),oz 6 (.mv (.t 17))]) (.seq (rg false [oz 18 (.mv (.t 6)),oz 19 (.sla 24 1 (.t 5) none (some (.t 18))),oz 20 (.mv (.t 0)),oz 21 (.call BW [(.t 19),(.t 20)])]) (.seq (rg false [oz 22 (.mv (.t 6)),oz 23 (.sla 24 1 (.t 5) none (some (.t 22))),oz 24 (.cvs (.t 23)),oz 4 (.mv (.t 24))]) .ret))))) .skip)) (.seq (rg false [oz 26 (.mv (.t 0)),oz 27 (.mv (.t 1)),oz 28 (.call JP [(.k (.nils)),(.t 26),(.t 27),(.k (.b false)),(.k (.b false))]),oz 25 (.mv (.t 28)),oz 29 (.ext (.t 25) 0),oz 30 (.ext (.t 25) 1),oz 7 (.mv (.t 29)),oz 8 (.mv (.t 30))]) (.seq (rg false [oz 31 (.mv (.t 8)),oz 4 (.mv (.t 31))]) .ret))))⟩
noncomputable def Mx:CI:=⟨false,1,14,[.tmp 2],(.seq (rg false [oz 2 (.mv (.k (.s [])))]) (.seq (.seq (rg false [oz 3 (.mv (.t 0)),oz 4 (.bin .lss (.t 3) (.k (.i .i64 16)))]) (.cond (.t 4) (.seq (rg false [oz 5 (.mv (.t 0)),oz 6 (.call E2 [(.t 5)]),oz 2 (.mv (.t 6))]) .ret) .skip)) (.seq (rg false [oz 7 (.mv (.t 0)),oz 8 (.bin .quo (.t 7) (.k (.i .i64 16))),oz 9 (.call E3 [(.t 8)]),oz 10 (.mv (.t 0)),oz 11 (.bin .rem (.t 10) (.k (.i .i64 16))),oz 12 (.call E2 [(.t 11)]),oz 13 (.bin .add (.t 9) (.t 12)),oz 2 (.mv (.t 13))]) .ret)))⟩
noncomputable def XS:AC:=(.seq (rg false [oz 12 (.bin .lss (.t 11) (.k (.i .i64 16)))]) (.seq (.cond (.t 12) .skip (.exit 0)) (.seq (.blk 1 (.seq (rg false [oz 13 (.mv (.t 11)),oz 5 (.mv (.t 13))]) (.seq (rg false [oz 14 (.mv (.t 1)),oz 15 (.mv (.t 5)),oz 16 (.bin .mul (.k (.i .i64 8)) (.t 15)),oz 17 (.bin .sub (.t 14) (.t 16)),oz 18 (.mnx true (.t 17) (.k (.i .i64 0))),oz 19 (.mnx false (.t 18) (.k (.i .i64 8))),oz 6 (.mv (.t 19))]) (.seq (.seq (rg false [oz 20 (.mv (.t 1)),oz 21 (.bin .lss (.t 20) (.k (.i .i64 0)))]) (.cond (.t 21) (rg false [oz 6 (.mv (.k (.i .i64 0)))]) .skip)) (rg false [oz 22 (.mv (.t 5)),oz 23 (.fa 1 (.t 2)),oz 24 (.iaa 16 1 (.t 23) (.t 22)),oz 25 (.ld false 1 (.t 24)),oz 26 (.mv (.t 6)),oz 27 (.bin .sub (.k (.i .i64 8)) (.t 26)),oz 28 (.cvi .u64 (.t 27)),oz 29 (.bin .shl (.k (.i .u8 255)) (.t 28)),oz 30 (.bin .and (.t 25) (.t 29)),oz 31 (.fa 1 (.t 2)),oz 32 (.iaa 16 1 (.t 31) (.t 22)),on (.st 1 (.t 32) (.t 30))]))))) (rg false [oz 33 (.bin .add (.t 11) (.k (.i .i64 1))),oz 11 (.mv (.t 33))]))))
noncomputable def M4:CI:=⟨false,2,35,[.cell true 17 4],(.seq (rg false [oz 2 (.box 25 17 (.t 0)),oz 4 (.alloc 25 Ak.zc)]) (.seq (.seq (rg false [oz 7 (.ld true 17 (.t 2)),oz 8 (.call D6 [(.t 7)]),oz 9 (.un .not (.t 8))]) (.cond (.t 9) (.seq (rg false [oz 10 (.bld Ak.zc []),on (.st 17 (.t 4) (.t 10))]) .ret) .skip)) (.seq (.seq (rg false [oz 11 (.mv (.k (.i .i64 0)))]) (.blk 0 (.loop [1,2,4,11] XS))) (.seq (rg false [oz 34 (.ld true 17 (.t 2)),on (.st 17 (.t 4) (.t 34))]) .ret))))⟩
noncomputable def Iw:CI:=⟨false,2,8,[.tmp 4],(.seq (rg false [oz 4 (.mv (.k (.i .i64 0)))]) (.seq (rg false [oz 5 (.mv (.t 0)),oz 6 (.mv (.t 1)),oz 7 (.call D2 [(.t 5),(.t 6)]),oz 4 (.mv (.t 7))]) .ret))⟩
noncomputable def Ow:AC:=(.seq (rg false [oz 176 (.nxt (.t 175)),oz 177 (.ext (.t 176) 0)]) (.seq (.cond (.t 177) .skip (.exit 9)) (.blk 10 (.seq (rg false [oz 178 (.ext (.t 176) 1),oz 179 (.ext (.t 176) 2),oz 5 (.mv (.t 178)),oz 6 (.mv (.t 179))]) (.seq (rg false [oz 180 (.mv (.t 6)),oz 181 (.bin .eql (.t 180) (.k (.i .i32 65533)))]) (.cond (.t 181) (.seq (rg false [oz 182 (.mv (.t 5)),oz 4 (.mv (.t 182))]) .ret) .skip))))))
noncomputable def Ov:AC:=(.seq (.seq (rg false [oz 48 (.mv (.t 12)),oz 49 (.mv (.t 7)),oz 50 (.lens (.t 49)),oz 51 (.bin .lss (.t 48) (.t 50))]) (.cond (.t 51) .skip (.exit 3))) (.seq (.blk 4 (.seq (rg true [oz 54 (.mv (.t 0)),oz 55 (.mv (.t 9)),oz 56 (.mv (.t 12)),oz 57 (.bin .sub (.t 55) (.t 56)),oz 58 (.ixs (.t 54) (.t 57)),oz 59 (.mv (.t 7)),oz 60 (.mv (.t 8)),oz 61 (.mv (.t 12)),oz 62 (.bin .sub (.t 60) (.t 61)),oz 63 (.ixs (.t 59) (.t 62)),oz 64 (.bin .neq (.t 58) (.t 63))]) (.cond (.t 64) .stop .skip))) (rg false [oz 52 (.mv (.t 12)),oz 53 (.bin .add (.t 52) (.k (.i .i64 1))),oz 12 (.mv (.t 53))])))
noncomputable def Ou:AC:=(.seq (.seq (rg false [oz 23 (.mv (.t 9)),oz 24 (.mv (.t 0)),oz 25 (.lens (.t 24)),oz 26 (.bin .lss (.t 23) (.t 25))]) (.cond (.t 26) .skip (.exit 1))) (.blk 2 (.scope (.seq (.seq (rg true [oz 27 (.mv (.t 0)),oz 28 (.mv (.t 9)),oz 29 (.ixs (.t 27) (.t 28)),oz 30 (.mv (.t 7)),oz 31 (.mv (.t 8)),oz 32 (.ixs (.t 30) (.t 31)),oz 33 (.bin .neq (.t 29) (.t 32))]) (.cond (.t 33) (.seq (rg true [oz 34 (.mv (.t 0)),oz 35 (.mv (.t 9)),oz 36 (.bin .add (.t 35) (.k (.i .i64 1))),oz 37 (.sls (.t 34) (some (.t 36)) none),oz 38 (.mv (.t 7)),oz 39 (.mv (.t 8)),oz 40 (.ixs (.t 38) (.t 39)),oz 41 (.call CD [(.t 37),(.t 40)]),oz 11 (.mv (.t 41))]) (.seq (.seq (rg false [oz 42 (.mv (.t 11)),oz 43 (.bin .lss (.t 42) (.k (.i .i64 0)))]) (.cond (.t 43) (.seq (rg false [oz 4 (.mv (.k (.i .i64 (-1))))]) .ret) .skip)) (rg false [oz 44 (.mv (.t 9)),oz 45 (.mv (.t 11)),oz 46 (.bin .add (.t 45) (.k (.i .i64 1))),oz 47 (.bin .add (.t 44) (.t 46)),oz 9 (.mv (.t 47))]))) .skip)) (.seq (.seq (rg false [oz 12 (.mv (.k (.i .i64 1)))]) (.blk 3 (.loop [0,7,8,9,12] Ov))) (.seq (.seq (rg false [oz 65 (.mv (.t 9)),oz 66 (.mv (.t 8)),oz 67 (.bin .sub (.t 65) (.t 66)),oz 4 (.mv (.t 67))]) .ret) (.seq .skip (.seq (rg false [oz 68 (.mv (.t 10)),oz 69 (.bin .add (.t 68) (.k (.i .i64 1))),oz 10 (.mv (.t 69))]) (.seq (rg false [oz 70 (.mv (.t 9)),oz 71 (.bin .add (.t 70) (.k (.i .i64 1))),oz 9 (.mv (.t 71))]) (.seq (rg false [oz 72 (.mv (.k (.b true))),⟨some 73,some (72,true), .mv (.t 10)⟩,⟨some 74,some (72,true), .mv (.t 9)⟩,⟨some 75,some (72,true), .call D1 [(.t 74)]⟩,⟨some 76,some (72,true), .bin .gtr (.t 73) (.t 75)⟩,oz 77 (.pick (.t 72) (.t 76) (.k (.b false))),oz 78 (.mv (.t 77)),⟨some 79,some (78,true), .mv (.t 9)⟩,⟨some 80,some (78,true), .mv (.t 0)⟩,⟨some 81,some (78,true), .lens (.t 80)⟩,⟨some 82,some (78,true), .bin .lss (.t 79) (.t 81)⟩,oz 83 (.pick (.t 78) (.t 82) (.k (.b false))),oz 84 (.mv (.t 83)),⟨some 85,some (84,false), .mv (.k (.b false))⟩,⟨some 86,some (85,true), .mv (.t 10)⟩,⟨some 87,some (85,true), .mv (.t 9)⟩,⟨some 88,some (85,true), .bin .shr (.t 87) (.k (.i .u64 4))⟩,⟨some 89,some (85,true), .bin .add (.k (.i .i64 4)) (.t 88)⟩,⟨some 90,some (85,true), .bin .geq (.t 86) (.t 89)⟩,⟨some 91,some (84,false), .pick (.t 85) (.t 90) (.k (.b false))⟩,⟨some 92,some (84,false), .mv (.t 91)⟩,⟨some 93,some (92,true), .mv (.t 9)⟩,⟨some 94,some (92,true), .mv (.t 0)⟩,⟨some 95,some (92,true), .lens (.t 94)⟩,⟨some 96,some (92,true), .bin .lss (.t 93) (.t 95)⟩,⟨some 97,some (84,false), .pick (.t 92) (.t 96) (.k (.b false))⟩,oz 98 (.pick (.t 84) (.k (.b true)) (.t 97))])
  (.cond (.t 98) .stop .skip)))))))))))
noncomputable def Ot:AC:=(.seq (.seq (rg false [oz 140 (.mv (.t 16)),oz 141 (.mv (.t 7)),oz 142 (.lens (.t 141)),oz 143 (.bin .lss (.t 140) (.t 142))]) (.cond (.t 143) .skip (.exit 7))) (.seq (.blk 8 (.seq (rg true [oz 146 (.mv (.t 0)),oz 147 (.mv (.t 9)),oz 148 (.mv (.t 16)),oz 149 (.bin .sub (.t 147) (.t 148)),oz 150 (.ixs (.t 146) (.t 149)),oz 151 (.mv (.t 7)),oz 152 (.mv (.t 8)),oz 153 (.mv (.t 16)),oz 154 (.bin .sub (.t 152) (.t 153)),oz 155 (.ixs (.t 151) (.t 154)),oz 156 (.bin .neq (.t 150) (.t 155))]) (.cond (.t 156) (.exit 6) .skip))) (rg false [oz 144 (.mv (.t 16)),oz 145 (.bin .add (.t 144) (.k (.i .i64 1))),oz 16 (.mv (.t 145))])))
noncomputable def Oq:AC:=(.seq (.seq (rg false [oz 121 (.mv (.t 9)),oz 122 (.mv (.t 0)),oz 123 (.lens (.t 122)),oz 124 (.bin .lss (.t 121) (.t 123))]) (.cond (.t 124) .skip (.exit 5))) (.seq (.blk 6 (.seq (rg false [oz 127 (.mv (.t 0)),oz 128 (.mv (.t 9)),oz 129 (.ixs (.t 127) (.t 128)),oz 130 (.mv (.t 14)),oz 131 (.bin .eql (.t 129) (.t 130)),oz 132 (.mv (.t 131)),⟨some 133,some (132,true), .mv (.t 0)⟩,⟨some 134,some (132,true), .mv (.t 9)⟩,⟨some 135,some (132,true), .bin .sub (.t 134) (.k (.i .i64 1))⟩,⟨some 136,some (132,true), .ixs (.t 133) (.t 135)⟩,⟨some 137,some (132,true), .mv (.t 15)⟩,⟨some 138,some (132,true), .bin .eql (.t 136) (.t 137)⟩,oz 139 (.pick (.t 132) (.t 138) (.k (.b false)))]) (.cond (.t 139) (.seq (.seq (rg false [oz 16 (.mv (.k (.i .i64 2)))]) (.blk 7 (.loop [0,7,8,9,14,15,16] Ot))) (.seq (rg false [oz 157 (.mv (.t 9)),oz 158 (.mv (.t 8)),oz 159 (.bin .sub (.t 157) (.t 158)),oz 4 (.mv (.t 159))]) .ret)) .skip))) (rg false [oz 125 (.mv (.t 9)),oz 126 (.bin .add (.t 125) (.k (.i .i64 1))),oz 9 (.mv (.t 126))])))
noncomputable def FL:CI:=⟨false,2,187,[.tmp 4],(.seq (rg false [oz 4 (.mv (.k (.i .i64 0)))]) (.blk 0 (.seq (rg false [oz 161 (.mv (.t 1)),oz 162 (.bin .leq (.k (.i .i32 0)) (.t 161)),oz 163 (.mv (.t 162)),⟨some 164,some (163,true), .mv (.t 1)⟩,⟨some 165,some (163,true), .bin .lss (.t 164) (.k (.i .i32 128))⟩,oz 166 (.pick (.t 163) (.t 165) (.k (.b false))),oz 160 (.mv (.t 166))]) (.cond (.t 160) (.seq (rg false [oz 167 (.mv (.t 0)),oz 168 (.mv (.t 1)),oz 169 (.cvi .u8 (.t 168)),oz 170 (.call CD [(.t 167),(.t 169)]),oz 4 (.mv (.t 170))]) .ret) (.seq (rg false [oz 172 (.mv (.t 1)),oz 173 (.bin .eql (.t 172) (.k (.i .i32 65533))),oz 171 (.mv (.t 173))]) (.cond (.t 171) (.seq (.seq (rg false [oz 174 (.mv (.t 0)),oz 175 (.rng (.t 174))]) (.blk 9 (.loop [175] Ow))) (.seq (rg false [oz 4 (.mv (.k (.i .i64 (-1))))]) .ret)) (.seq (rg false [oz 184 (.mv (.t 1)),oz 185 (.call Cm [(.t 184)]),oz 186 (.un .not (.t 185)),oz 183 (.mv (.t 186))]) (.cond (.t 183) (.seq (rg false [oz 4 (.mv (.k (.i .i64 (-1))))]) .ret) (.scope (.seq (rg false [oz 17 (.mv (.t 1)),oz 18 (.cvc (.t 17)),oz 7 (.mv (.t 18))]) (.seq (rg false [oz 19 (.mv (.t 7)),oz 20 (.lens (.t 19)),oz 21 (.bin .sub (.t 20) (.k (.i .i64 1))),oz 8 (.mv (.t 21))]) (.seq (rg false [oz 22 (.mv (.t 8)),oz 9 (.mv (.t 22))]) (.seq (rg false [oz 10 (.mv (.k (.i .i64 0)))]) (.seq (.blk 1 (.loop [0,7,8,9] Ou)) (.seq (.seq (rg false [oz 4 (.mv (.k (.i .i64 (-1))))]) .ret) (.seq .skip (.seq (.cond (.k (.b true)) (.seq (rg false [oz 99 (.mv (.t 0)),oz 100 (.mv (.t 9)),oz 101 (.mv (.t 8)),oz 102 (.bin .sub (.t 100) (.t 101)),oz 103 (.sls (.t 99) (some (.t 102)) none),oz 104 (.mv (.t 1)),oz 105 (.cvc (.t 104)),oz 106 (.call DI [(.t 103),(.t 105)]),oz 13 (.mv (.t 106))])
    (.seq (rg false [oz 107 (.mv (.t 13)),oz 108 (.bin .geq (.t 107) (.k (.i .i64 0)))]) (.cond (.t 108) (.seq (rg false [oz 109 (.mv (.t 9)),oz 110 (.mv (.t 13)),oz 111 (.bin .add (.t 109) (.t 110)),oz 112 (.mv (.t 8)),oz 113 (.bin .sub (.t 111) (.t 112)),oz 4 (.mv (.t 113))]) .ret) .skip))) (.scope (.seq (rg false [oz 114 (.mv (.t 7)),oz 115 (.mv (.t 8)),oz 116 (.ixs (.t 114) (.t 115)),oz 14 (.mv (.t 116))]) (.seq (rg false [oz 117 (.mv (.t 7)),oz 118 (.mv (.t 8)),oz 119 (.bin .sub (.t 118) (.k (.i .i64 1))),oz 120 (.ixs (.t 117) (.t 119)),oz 15 (.mv (.t 120))]) (.seq .skip (.blk 5 (.loop [0,7,8,9,14,15] Oq))))))) (.seq (rg false [oz 4 (.mv (.k (.i .i64 (-1))))]) .ret))))))))))))))))))⟩
noncomputable def D3:CI:=⟨false,1,5,[.tmp 2],(.seq (rg false [oz 2 (.mv (.k (.b false)))]) (.seq (rg false [oz 3 (.mv (.t 0)),oz 4 (.bin .gtr (.t 3) (.k (.i .i64 8))),oz 2 (.mv (.t 4))]) .ret))⟩
noncomputable def LR:AC:=(.seq (.seq (rg false [oz 6 (.mv (.t 4)),oz 7 (.mv (.t 0)),oz 8 (.lens (.t 7)),oz 9 (.bin .lss (.t 6) (.t 8))]) (.cond (.t 9) .skip (.exit 0))) (.seq (.blk 1 (.seq (rg false [oz 12 (.mv (.t 0)),oz 13 (.mv (.t 4)),oz 14 (.ixs (.t 12) (.t 13)),oz 5 (.mv (.t 14))]) (.seq (.seq (rg false [oz 15 (.mv (.t 5)),oz 16 (.bin .geq (.t 15) (.k (.i .u8 128)))]) (.cond (.t 16) (.seq (rg false [oz 17 (.ld true 256 (.t 2)),on (.st 256 (.t 2) (.t 17)),oz 3 (.mv (.k (.b false)))]) .ret) .skip)) (rg false [oz 18 (.mv (.t 5)),oz 19 (.iaa 256 1 (.t 2) (.t 18)),on (.st 1 (.t 19) (.k (.b true)))])))) (rg false [oz 10 (.mv (.t 4)),oz 11 (.bin .add (.t 10) (.k (.i .i64 1))),oz 4 (.mv (.t 11))])))
noncomputable def E7:CI:=⟨false,1,21,[.cell true 256 2, .tmp 3],(.seq (rg false [oz 2 (.alloc 222 (Ay 256 T.b).zc),oz 3 (.mv (.k (.b false)))]) (.seq (.seq (rg false [oz 4 (.mv (.k (.i .i64 0)))]) (.blk 0 (.loop [0,2,4] LR))) (.seq (rg false [oz 20 (.ld true 256 (.t 2)),on (.st 256 (.t 2) (.t 20)),oz 3 (.mv (.k (.b true)))]) .ret)))⟩
noncomputable def De:CI:=⟨false,2,10,[.tmp 4],(.seq (rg false [oz 4 (.mv (.k (.b false)))]) (.seq (rg false [oz 5 (.mv (.t 0)),oz 6 (.mv (.t 1)),oz 7 (.nilc (.t 5)),oz 8 (.iaa 256 1 (.t 7) (.t 6)),oz 9 (.ld false 1 (.t 8)),oz 4 (.mv (.t 9))]) .ret))⟩
noncomputable def J9:AC:=(.seq (.seq (rg false [oz 57 (.mv (.t 8)),oz 58 (.mv (.t 9)),oz 59 (.bin .lss (.t 57) (.t 58))]) (.cond (.t 59) .skip (.exit 1))) (.blk 2 (.seq (.seq (rg false [oz 60 (.mv (.t 0)),oz 61 (.mv (.t 8)),oz 62 (.ixs (.t 60) (.t 61)),oz 63 (.mv (.t 6)),oz 64 (.bin .neq (.t 62) (.t 63))]) (.cond (.t 64) (.seq (rg false [oz 65 (.mv (.t 0)),oz 66 (.mv (.t 8)),oz 67 (.bin .add (.t 66) (.k (.i .i64 1))),oz 68 (.mv (.t 9)),oz 69 (.sls (.t 65) (some (.t 67)) (some (.t 68))),oz 70 (.mv (.t 6)),oz 71 (.call Bi [(.t 69),(.t 70)]),oz 11 (.mv (.t 71))]) (.seq (.seq (rg false [oz 72 (.mv (.t 11)),oz 73 (.bin .lss (.t 72) (.k (.i .i64 0)))]) (.cond (.t 73) (.seq (rg false [oz 4 (.mv (.k (.i .i64 (-1))))]) .ret) .skip)) (rg false [oz 74 (.mv (.t 8)),oz 75 (.mv (.t 11)),oz 76 (.bin .add (.t 75) (.k (.i .i64 1))),oz 77 (.bin .add (.t 74) (.t 76)),oz 8 (.mv (.t 77))]))) .skip)) (.seq (.seq (rg false [oz 78 (.mv (.t 0)),oz 79 (.mv (.t 8)),oz 80 (.bin .add (.t 79) (.k (.i .i64 1))),oz 81 (.ixs (.t 78) (.t 80)),oz 82 (.mv (.t 7)),oz 83 (.bin .eql (.t 81) (.t 82)),oz 84 (.mv (.t 83)),⟨some 85,some (84,true), .mv (.t 0)⟩,⟨some 86,some (84,true), .mv (.t 8)⟩,⟨some 87,some (84,true), .mv (.t 8)⟩,⟨some 88,some (84,true), .mv (.t 5)⟩,⟨some 89,some (84,true), .bin .add (.t 87) (.t 88)⟩,⟨some 90,some (84,true), .sls (.t 85) (some (.t 86)) (some (.t 89))⟩,⟨some 91,some (84,true), .mv (.t 1)⟩,⟨some 92,some (84,true), .bin .eql (.t 90) (.t 91)⟩,oz 93 (.pick (.t 84) (.t 92) (.k (.b false)))])
  (.cond (.t 93) (.seq (rg false [oz 94 (.mv (.t 8)),oz 4 (.mv (.t 94))]) .ret) .skip)) (.seq (rg false [oz 95 (.mv (.t 8)),oz 96 (.bin .add (.t 95) (.k (.i .i64 1))),oz 8 (.mv (.t 96))]) (.seq (rg false [oz 97 (.mv (.t 10)),oz 98 (.bin .add (.t 97) (.k (.i .i64 1))),oz 10 (.mv (.t 98))]) (.seq (rg false [oz 99 (.mv (.t 5)),oz 100 (.ld false 1 (.g 1)),oz 101 (.bin .leq (.t 99) (.t 100)),oz 102 (.mv (.t 101)),⟨some 103,some (102,true), .mv (.t 10)⟩,⟨some 104,some (102,true), .mv (.t 8)⟩,⟨some 105,some (102,true), .call D1 [(.t 104)]⟩,⟨some 106,some (102,true), .bin .gtr (.t 103) (.t 105)⟩,oz 107 (.pick (.t 102) (.t 106) (.k (.b false)))]) (.cond (.t 107) (.seq (rg false [oz 108 (.mv (.t 0)),oz 109 (.mv (.t 8)),oz 110 (.sls (.t 108) (some (.t 109)) none),oz 111 (.mv (.t 1)),oz 112 (.call DI [(.t 110),(.t 111)]),oz 12 (.mv (.t 112))]) (.seq (.seq (rg false [oz 113 (.mv (.t 12)),oz 114 (.bin .geq (.t 113) (.k (.i .i64 0)))]) (.cond (.t 114) (.seq (rg false [oz 115 (.mv (.t 12)),oz 116 (.mv (.t 8)),oz 117 (.bin .add (.t 115) (.t 116)),oz 4 (.mv (.t 117))]) .ret) .skip)) (.seq (rg false [oz 4 (.mv (.k (.i .i64 (-1))))]) .ret))) (.seq (rg false [oz 118 (.mv (.t 5)),oz 119 (.ld false 1 (.g 1)),oz 120 (.bin .gtr (.t 118) (.t 119)),oz 121 (.mv (.t 120)),⟨some 122,some (121,true), .mv (.t 10)⟩,⟨some 123,some (121,true), .mv (.t 8)⟩,⟨some 124,some (121,true), .bin .shr (.t 123) (.k (.i .u64 4))⟩,⟨some 125,some (121,true), .bin .add (.k (.i .i64 4)) (.t 124)⟩,⟨some 126,some (121,true), .bin .geq (.t 122) (.t 125)⟩,oz 127 (.pick (.t 121) (.t 126) (.k (.b false))),oz 128 (.mv (.t 127)),⟨some 129,some (128,true), .mv (.t 8)⟩,⟨some 130,some (128,true), .mv (.t 9)⟩,⟨some 131,some (128,true), .bin .lss (.t 129) (.t 130)⟩,oz 132 (.pick (.t 128) (.t 131) (.k (.b false)))])
  (.cond (.t 132) (.seq (rg false [oz 133 (.mv (.t 0)),oz 134 (.mv (.t 8)),oz 135 (.sls (.t 133) (some (.t 134)) none),oz 136 (.mv (.t 1)),oz 137 (.call Cs [(.t 135),(.t 136)]),oz 13 (.mv (.t 137))]) (.seq (.seq (rg false [oz 138 (.mv (.t 13)),oz 139 (.bin .lss (.t 138) (.k (.i .i64 0)))]) (.cond (.t 139) (.seq (rg false [oz 4 (.mv (.k (.i .i64 (-1))))]) .ret) .skip)) (.seq (rg false [oz 140 (.mv (.t 8)),oz 141 (.mv (.t 13)),oz 142 (.bin .add (.t 140) (.t 141)),oz 4 (.mv (.t 142))]) .ret))) .skip))))))))))
noncomputable def Dl:CI:=⟨false,2,143,[.tmp 4],(.seq (rg false [oz 4 (.mv (.k (.i .i64 0)))]) (.seq (rg false [oz 14 (.mv (.t 1)),oz 15 (.lens (.t 14)),oz 5 (.mv (.t 15))]) (.seq (.blk 0 (.seq (rg false [oz 17 (.mv (.t 5)),oz 18 (.bin .eql (.t 17) (.k (.i .i64 0))),oz 19 (.mv (.t 18)),⟨some 20,some (19,false), .mv (.t 1)⟩,⟨some 21,some (19,false), .mv (.t 0)⟩,⟨some 22,some (19,false), .bin .eql (.t 20) (.t 21)⟩,oz 23 (.pick (.t 19) (.k (.b true)) (.t 22)),oz 16 (.mv (.t 23))]) (.cond (.t 16) (.seq (rg false [oz 4 (.mv (.k (.i .i64 0)))]) .ret) (.seq (rg false [oz 25 (.mv (.t 5)),oz 26 (.bin .eql (.t 25) (.k (.i .i64 1))),oz 24 (.mv (.t 26))]) (.cond (.t 24) (.seq (rg false [oz 27 (.mv (.t 0)),oz 28 (.mv (.t 1)),oz 29 (.ixs (.t 28) (.k (.i .i64 0))),oz 30 (.call Bi [(.t 27),(.t 29)]),oz 4 (.mv (.t 30))]) .ret) (.seq (rg false [oz 32 (.mv (.t 5)),oz 33 (.mv (.t 0)),oz 34 (.lens (.t 33)),oz 35 (.bin .geq (.t 32) (.t 34)),oz 31 (.mv (.t 35))]) (.cond (.t 31) (.seq (rg false [oz 4 (.mv (.k (.i .i64 (-1))))]) .ret) (.seq (rg false [oz 37 (.mv (.t 5)),oz 38 (.ld false 1 (.g 1)),oz 39 (.bin .leq (.t 37) (.t 38)),oz 40 (.mv (.t 39)),⟨some 41,some (40,true), .mv (.t 0)⟩,⟨some 42,some (40,true), .lens (.t 41)⟩,⟨some 43,some (40,true), .bin .leq (.t 42) (.k (.i .i64 64))⟩,oz 44 (.pick (.t 40) (.t 43) (.k (.b false))),oz 36 (.mv (.t 44))]) (.cond (.t 36) (.seq (rg false [oz 45 (.mv (.t 0)),oz 46 (.mv (.t 1)),oz 47 (.call DI [(.t 45),(.t 46)]),oz 4 (.mv (.t 47))]) .ret) .skip))))))))) (.seq (rg false [oz 48 (.mv (.t 1)),oz 49 (.ixs (.t 48) (.k (.i .i64 0))),oz 6 (.mv (.t 49))])
 (.seq (rg false [oz 50 (.mv (.t 1)),oz 51 (.ixs (.t 50) (.k (.i .i64 1))),oz 7 (.mv (.t 51))]) (.seq (rg false [oz 8 (.mv (.k (.i .i64 0)))]) (.seq (rg false [oz 52 (.mv (.t 0)),oz 53 (.lens (.t 52)),oz 54 (.mv (.t 5)),oz 55 (.bin .sub (.t 53) (.t 54)),oz 56 (.bin .add (.t 55) (.k (.i .i64 1))),oz 9 (.mv (.t 56))]) (.seq (rg false [oz 10 (.mv (.k (.i .i64 0)))]) (.seq (.blk 1 (.loop [0,1,5,6,7,8,9,10] J9)) (.seq (rg false [oz 4 (.mv (.k (.i .i64 (-1))))]) .ret))))))))))⟩
noncomputable def Is:CI:=⟨false,1,7,[.tmp 2, .tmp 3],(.seq (rg false [oz 1 (.box 93 70 (.t 0)),oz 2 (.mv (.k (.s []))),oz 3 (.mv (.k (.b false)))]) (.seq (rg false [oz 4 (.fa 1 (.t 1)),oz 5 (.ld true 32 (.t 4)),oz 6 (.call IX [(.t 5)]),oz 2 (.mv (.t 6)),oz 3 (.mv (.k (.b true)))]) .ret))⟩
noncomputable def Ir:CI:=⟨false,1,6,[.cell true 70 2],(.seq (rg false [oz 1 (.box 93 70 (.t 0)),oz 2 (.alloc 93 Af.zc)]) (.seq (rg false [oz 3 (.bld (Ay 32 T.u8).zc []),oz 4 (.fa 1 (.t 1)),on (.st 32 (.t 4) (.t 3))]) (.seq (rg false [oz 5 (.ld true 70 (.t 1)),on (.st 70 (.t 2) (.t 5))]) .ret)))⟩
noncomputable def Iu:CI:=⟨false,1,10,[.tmp 2, .tmp 3],(.seq (rg false [oz 1 (.box 93 70 (.t 0)),oz 2 (.mv (.k (.s []))),oz 3 (.mv (.k (.b false)))]) (.seq (rg true [oz 4 (.fa 34 (.t 1)),oz 5 (.ld true 18 (.t 4)),oz 6 (.call EF [(.t 5)]),oz 7 (.fa 34 (.t 1)),oz 8 (.ld true 18 (.t 7)),oz 9 (.call Dd [(.t 8)]),oz 2 (.mv (.t 6)),oz 3 (.mv (.t 9))]) .ret))⟩
noncomputable def It:CI:=⟨false,1,6,[.cell true 70 2],(.seq (rg false [oz 1 (.box 93 70 (.t 0)),oz 2 (.alloc 93 Af.zc)]) (.seq (rg false [oz 3 (.bld Ao.zc []),oz 4 (.fa 34 (.t 1)),on (.st 18 (.t 4) (.t 3))]) (.seq (rg false [oz 5 (.ld true 70 (.t 1)),on (.st 70 (.t 2) (.t 5))]) .ret)))⟩
noncomputable def GX:CI:=⟨false,1,10,[.tmp 2, .tmp 3],(.seq (rg false [oz 1 (.box 93 70 (.t 0)),oz 2 (.mv (.k (.s []))),oz 3 (.mv (.k (.b false)))]) (.seq (rg true [oz 4 (.fa 52 (.t 1)),oz 5 (.ld true 18 (.t 4)),oz 6 (.call HC [(.t 5)]),oz 7 (.fa 52 (.t 1)),oz 8 (.ld true 18 (.t 7)),oz 9 (.call EB [(.t 8)]),oz 2 (.mv (.t 6)),oz 3 (.mv (.t 9))]) .ret))⟩
noncomputable def M1:CI:=⟨false,1,15,[.tmp 2],(.seq (rg false [oz 1 (.box 91 18 (.t 0)),oz 2 (.mv (.k (.s [])))]) (.seq (.seq (rg false [oz 3 (.ld true 18 (.t 1)),oz 4 (.call EB [(.t 3)]),oz 5 (.un .not (.t 4))]) (.cond (.t 5) (.seq (rg false [oz 2 (.mv (.k (.s [])))]) .ret) .skip)) (.seq (rg true [oz 6 (.fa 0 (.t 1)),oz 7 (.ld true 17 (.t 6)),oz 8 (.call Fs [(.t 7)]),oz 9 (.bin .add (.t 8) (.k (.s [47]))),oz 10 (.fa 17 (.t 1)),oz 11 (.ld false 1 (.t 10)),oz 12 (.cvi .u64 (.t 11)),oz 13 (.call Dk [(.t 12)]),oz 14 (.bin .add (.t 9) (.t 13)),oz 2 (.mv (.t 14))]) .ret)))⟩
noncomputable def GW:CI:=⟨false,1,6,[.cell true 70 2],(.seq (rg false [oz 1 (.box 93 70 (.t 0)),oz 2 (.alloc 93 Af.zc)]) (.seq (rg false [oz 3 (.bld Aj.zc []),oz 4 (.fa 52 (.t 1)),on (.st 18 (.t 4) (.t 3))]) (.seq (rg false [oz 5 (.ld true 70 (.t 1)),on (.st 70 (.t 2) (.t 5))]) .ret)))⟩
noncomputable def Ju:CI:=⟨true,3,19,[.tmp 4, .tmp 5],(.seq (rg false [oz 3 (.box 93 70 (.t 0)),oz 4 (.mv (.k (.s []))),oz 5 (.mv (.k (.b false)))]) (.seq (rg true [oz 6 (.fa 33 (.t 3)),oz 7 (.ld false 1 (.t 6)),oz 8 (.call Dk [(.t 7)]),oz 9 (.fa 33 (.t 3)),oz 10 (.ld false 1 (.t 9)),oz 11 (.ld false 1 (.t 1)),oz 12 (.bin .geq (.t 10) (.t 11)),oz 13 (.mv (.t 12)),⟨some 14,some (13,true), .fa 33 (.t 3)⟩,⟨some 15,some (13,true), .ld false 1 (.t 14)⟩,⟨some 16,some (13,true), .ld false 1 (.t 2)⟩,⟨some 17,some (13,true), .bin .leq (.t 15) (.t 16)⟩,oz 18 (.pick (.t 13) (.t 17) (.k (.b false))),oz 4 (.mv (.t 8)),oz 5 (.mv (.t 18))]) .ret))⟩
noncomputable def GV:CI:=⟨false,1,5,[.cell true 70 2],(.seq (rg false [oz 1 (.box 93 70 (.t 0)),oz 2 (.alloc 93 Af.zc)]) (.seq (rg false [oz 3 (.fa 33 (.t 1)),on (.st 1 (.t 3) (.k (.i .u64 0)))]) (.seq (rg false [oz 4 (.ld true 70 (.t 1)),on (.st 70 (.t 2) (.t 4))]) .ret)))⟩
noncomputable def Jt:CI:=⟨false,1,4,[.tmp 2, .tmp 3],(.seq (rg false [oz 1 (.box 93 70 (.t 0)),oz 2 (.mv (.k (.s []))),oz 3 (.mv (.k (.b false)))]) (.seq (rg false [oz 2 (.mv (.k (.s [116,114,117,101]))),oz 3 (.mv (.k (.b true)))]) .ret))⟩
noncomputable def Js:CI:=⟨false,1,4,[.cell true 70 2],(.seq (rg false [oz 1 (.box 93 70 (.t 0)),oz 2 (.alloc 93 Af.zc)]) (.seq (rg false [oz 3 (.ld true 70 (.t 1)),on (.st 70 (.t 2) (.t 3))]) .ret))⟩
noncomputable def Te:AC:=(.seq (rg false [oz 8 (.bin .lss (.t 7) (.k (.i .i64 8)))]) (.seq (.cond (.t 8) .skip (.exit 0)) (.seq (.blk 1 (.seq (rg false [oz 9 (.mv (.t 7)),oz 4 (.mv (.t 9))]) (.seq (rg false [oz 11 (.mv (.t 4)),oz 12 (.bin .mul (.k (.i .i64 2)) (.t 11)),oz 13 (.mv (.t 4)),oz 14 (.bin .mul (.k (.i .i64 2)) (.t 13)),oz 15 (.bin .add (.t 14) (.k (.i .i64 2))),oz 16 (.sla 16 1 (.t 1) (some (.t 12)) (some (.t 15))),oz 17 (.call Ff [(.t 16)]),oz 10 (.mv (.t 17)),oz 18 (.ext (.t 10) 0),oz 19 (.ext (.t 10) 1),oz 5 (.mv (.t 18)),oz 6 (.mv (.t 19))]) (rg false [oz 20 (.mv (.t 4)),oz 21 (.mv (.t 5)),oz 22 (.cvi .u16 (.t 21)),oz 23 (.iaa 8 1 (.t 3) (.t 20)),on (.st 1 (.t 23) (.t 22))])))) (rg false [oz 24 (.bin .add (.t 7) (.k (.i .i64 1))),oz 7 (.mv (.t 24))]))))
noncomputable def Jy:CI:=⟨false,1,26,[.cell true 8 2],(.seq (rg false [oz 1 (.box 23 16 (.t 0)),oz 2 (.alloc 229 (Ay 8 T.u16).zc)]) (.seq (rg false [oz 3 (.alloc 229 (Ay 8 T.u16).zc)]) (.seq (.seq (rg false [oz 7 (.mv (.k (.i .i64 0)))]) (.blk 0 (.loop [1,2,3,7] Te))) (.seq (rg false [oz 25 (.ld true 8 (.t 3)),on (.st 8 (.t 2) (.t 25))]) .ret))))⟩
noncomputable def RF:AC:=(.seq (rg false [oz 9 (.bin .lss (.t 8) (.k (.i .i64 8)))]) (.seq (.cond (.t 9) .skip (.exit 0)) (.seq (.blk 1 (.seq (rg false [oz 10 (.mv (.t 8)),oz 11 (.ixa 8 1 false (.t 7) (.t 8)),oz 5 (.mv (.t 10)),oz 6 (.mv (.t 11))]) (.seq (.seq (rg false [oz 12 (.mv (.t 6)),oz 13 (.bin .neq (.t 12) (.k (.i .u16 0)))]) (.cond (.t 13) (.seq (rg false [oz 4 (.mv (.k (.i .i64 0)))]) (.exit 1)) .skip)) (.seq (rg false [oz 14 (.mv (.t 4)),oz 15 (.bin .add (.t 14) (.k (.i .i64 1))),oz 4 (.mv (.t 15))]) (.seq (rg false [oz 16 (.mv (.t 4)),oz 17 (.mv (.t 3)),oz 18 (.bin .gtr (.t 16) (.t 17))]) (.cond (.t 18) (rg false [oz 19 (.mv (.t 5)),oz 20 (.bin .add (.t 19) (.k (.i .i64 1))),oz 21 (.mv (.t 4)),oz 22 (.bin .sub (.t 20) (.t 21)),oz 23 (.mv (.t 4)),oz 2 (.mv (.t 22)),oz 3 (.mv (.t 23))]) .skip)))))) (rg false [oz 24 (.bin .add (.t 8) (.k (.i .i64 1))),oz 8 (.mv (.t 24))]))))
noncomputable def Iv:CI:=⟨false,1,27,[.tmp 2, .tmp 3],(.seq (rg false [oz 1 (.box 229 8 (.t 0)),oz 2 (.mv (.k (.i .i64 0))),oz 3 (.mv (.k (.i .i64 0)))]) (.seq (rg false [oz 4 (.mv (.k (.i .i64 0)))]) (.seq (.seq (rg false [oz 7 (.ld true 8 (.t 1)),oz 8 (.mv (.k (.i .i64 0)))]) (.blk 0 (.loop [2,3,4,7,8] RF))) (.seq (rg false [oz 25 (.mv (.t 2)),oz 26 (.mv (.t 3)),oz 2 (.mv (.t 25)),oz 3 (.mv (.t 26))]) .ret))))⟩
noncomputable def XR:AC:=(.seq (rg false [oz 9 (.bin .lss (.t 8) (.t 7))]) (.seq (.cond (.t 9) .skip (.exit 0)) (.seq (.blk 1 (.seq (rg false [oz 10 (.ias 1 (.t 6) (.t 8)),oz 11 (.ld false 1 (.t 10)),oz 5 (.mv (.t 11))]) (rg false [oz 12 (.mv (.t 3)),oz 13 (.mv (.t 5)),oz 14 (.call FS [(.t 13)]),oz 15 (.bll 1 (List.replicate 1 Ax.zc) [(0,(.t 14))]),oz 16 (.app 9 1 16 (.t 12) (.t 15)),oz 3 (.mv (.t 16))]))) (rg false [oz 17 (.bin .add (.t 8) (.k (.i .i64 1))),oz 8 (.mv (.t 17))]))))
noncomputable def M0:CI:=⟨false,1,20,[.tmp 2],(.seq (rg false [oz 2 (.mv (.k (.s [])))]) (.seq (rg false [oz 3 (.mv (.k (.nils)))]) (.seq (.seq (rg false [oz 6 (.mv (.t 0)),oz 7 (.len (.t 6)),oz 8 (.mv (.k (.i .i64 0)))]) (.blk 0 (.loop [3,6,7,8] XR))) (.seq (rg false [oz 18 (.mv (.t 3)),oz 19 (.call Es [(.t 18),(.k (.s [58]))]),oz 2 (.mv (.t 19))]) .ret))))⟩
noncomputable def Ee:CI:=⟨false,1,15,[.tmp 2],(.seq (rg false [oz 2 (.mv (.k (.s [])))]) (.seq (.seq (rg false [oz 3 (.mv (.t 0)),oz 4 (.bin .lss (.t 3) (.k (.i .i64 10)))]) (.cond (.t 4) (.seq (rg false [oz 5 (.mv (.t 0)),oz 6 (.mv (.t 0)),oz 7 (.bin .add (.t 6) (.k (.i .i64 1))),oz 8 (.sls (.k (.s [48,49,50,51,52,53,54,55,56,57,97,98,99,100,101,102,103,104,105,106,107,108,109,110,111,112,113,114,115,116,117,118,119,120,121,122])) (some (.t 5)) (some (.t 7))),oz 2 (.mv (.t 8))]) .ret) .skip)) (.seq (rg false [oz 9 (.mv (.t 0)),oz 10 (.bin .mul (.t 9) (.k (.i .i64 2))),oz 11 (.mv (.t 0)),oz 12 (.bin .mul (.t 11) (.k (.i .i64 2))),oz 13 (.bin .add (.t 12) (.k (.i .i64 2))),oz 14 (.sls (.k (.s EZ)) (some (.t 10)) (some (.t 13))),oz 2 (.mv (.t 14))]) .ret)))⟩
noncomputable def Dm:CI:=⟨false,1,15,[.tmp 2],(.seq (rg false [oz 2 (.mv (.k (.i .i64 0)))]) (.seq (rg false [oz 4 (.mv (.t 0)),oz 5 (.call DR [(.t 4)]),oz 6 (.call BN [(.t 5)]),oz 3 (.mv (.t 6))]) (.seq (rg false [oz 7 (.mv (.t 3)),oz 8 (.mv (.t 0)),oz 9 (.mv (.t 3)),oz 10 (.iaa 20 1 (.g 2) (.t 9)),oz 11 (.ld false 1 (.t 10)),oz 12 (.bin .geq (.t 8) (.t 11)),oz 13 (.call BO [(.t 12)]),oz 14 (.bin .add (.t 7) (.t 13)),oz 2 (.mv (.t 14))]) .ret)))⟩
noncomputable def IB:AC:=(.seq (.seq (rg false [oz 19 (.mv (.t 4)),oz 20 (.bin .geq (.t 19) (.k (.i .i64 8)))]) (.cond (.t 20) .skip (.exit 0))) (.blk 1 (.seq (rg false [oz 21 (.mv (.t 1)),oz 22 (.bin .rem (.t 21) (.k (.i .u64 100000000))),oz 23 (.cvi .u32 (.t 22)),oz 5 (.mv (.t 23))]) (.seq (rg false [oz 24 (.mv (.t 1)),oz 25 (.bin .quo (.t 24) (.k (.i .u64 100000000))),oz 1 (.mv (.t 25))]) (.seq (rg false [oz 26 (.mv (.t 5)),oz 27 (.bin .quo (.t 26) (.k (.i .u32 10000))),oz 28 (.mv (.t 5)),oz 29 (.bin .rem (.t 28) (.k (.i .u32 10000))),oz 6 (.mv (.t 27)),oz 7 (.mv (.t 29))]) (.seq (rg false [oz 30 (.mv (.t 7)),oz 31 (.bin .quo (.t 30) (.k (.i .u32 100))),oz 32 (.bin .mul (.t 31) (.k (.i .u32 2))),oz 33 (.mv (.t 7)),oz 34 (.bin .rem (.t 33) (.k (.i .u32 100))),oz 35 (.bin .mul (.t 34) (.k (.i .u32 2))),oz 8 (.mv (.t 32)),oz 9 (.mv (.t 35))]) (.seq (rg false [oz 36 (.mv (.t 6)),oz 37 (.bin .quo (.t 36) (.k (.i .u32 100))),oz 38 (.bin .mul (.t 37) (.k (.i .u32 2))),oz 39 (.mv (.t 6)),oz 40 (.bin .rem (.t 39) (.k (.i .u32 100))),oz 41 (.bin .mul (.t 40) (.k (.i .u32 2))),oz 10 (.mv (.t 38)),oz 11 (.mv (.t 41))]) (.seq (.regd [oz 42 (.mv (.t 0)),oz 43 (.mv (.t 4)),oz 44 (.bin .sub (.t 43) (.k (.i .i64 1))),oz 45 (.mv (.t 0)),oz 46 (.mv (.t 4)),oz 47 (.bin .sub (.t 46) (.k (.i .i64 2))),oz 48 (.mv (.t 9)),oz 49 (.bin .add (.t 48) (.k (.i .u32 1))),oz 50 (.ixs (.k (.s EZ)) (.t 49)),oz 51 (.mv (.t 9)),oz 52 (.ixs (.k (.s EZ)) (.t 51)),oz 53 (.ias 1 (.t 42) (.t 44)),on (.st 1 (.t 53) (.t 50)),oz 54 (.ias 1 (.t 45) (.t 47)),on (.st 1 (.t 54) (.t 52))] [some (0,0),some (0,0),some (0,0),some (0,1),some (0,1),some (0,1),some (0,0),some (0,0),some (0,0),some (0,1),some (0,1),some (0,0),none,some (1,1),none])
  (.seq (.regd [oz 55 (.mv (.t 0)),oz 56 (.mv (.t 4)),oz 57 (.bin .sub (.t 56) (.k (.i .i64 3))),oz 58 (.mv (.t 0)),oz 59 (.mv (.t 4)),oz 60 (.bin .sub (.t 59) (.k (.i .i64 4))),oz 61 (.mv (.t 8)),oz 62 (.bin .add (.t 61) (.k (.i .u32 1))),oz 63 (.ixs (.k (.s EZ)) (.t 62)),oz 64 (.mv (.t 8)),oz 65 (.ixs (.k (.s EZ)) (.t 64)),oz 66 (.ias 1 (.t 55) (.t 57)),on (.st 1 (.t 66) (.t 63)),oz 67 (.ias 1 (.t 58) (.t 60)),on (.st 1 (.t 67) (.t 65))] [some (0,0),some (0,0),some (0,0),some (0,1),some (0,1),some (0,1),some (0,0),some (0,0),some (0,0),some (0,1),some (0,1),some (0,0),none,some (1,1),none]) (.seq (.regd [oz 68 (.mv (.t 0)),oz 69 (.mv (.t 4)),oz 70 (.bin .sub (.t 69) (.k (.i .i64 5))),oz 71 (.mv (.t 0)),oz 72 (.mv (.t 4)),oz 73 (.bin .sub (.t 72) (.k (.i .i64 6))),oz 74 (.mv (.t 11)),oz 75 (.bin .add (.t 74) (.k (.i .u32 1))),oz 76 (.ixs (.k (.s EZ)) (.t 75)),oz 77 (.mv (.t 11)),oz 78 (.ixs (.k (.s EZ)) (.t 77)),oz 79 (.ias 1 (.t 68) (.t 70)),on (.st 1 (.t 79) (.t 76)),oz 80 (.ias 1 (.t 71) (.t 73)),on (.st 1 (.t 80) (.t 78))] [some (0,0),some (0,0),some (0,0),some (0,1),some (0,1),some (0,1),some (0,0),some (0,0),some (0,0),some (0,1),some (0,1),some (0,0),none,some (1,1),none]) (.seq (.regd [oz 81 (.mv (.t 0)),oz 82 (.mv (.t 4)),oz 83 (.bin .sub (.t 82) (.k (.i .i64 7))),oz 84 (.mv (.t 0)),oz 85 (.mv (.t 4)),oz 86 (.bin .sub (.t 85) (.k (.i .i64 8))),oz 87 (.mv (.t 10)),oz 88 (.bin .add (.t 87) (.k (.i .u32 1))),oz 89 (.ixs (.k (.s EZ)) (.t 88)),oz 90 (.mv (.t 10)),oz 91 (.ixs (.k (.s EZ)) (.t 90)),oz 92 (.ias 1 (.t 81) (.t 83)),on (.st 1 (.t 92) (.t 89)),oz 93 (.ias 1 (.t 84) (.t 86)),on (.st 1 (.t 93) (.t 91))] [some (0,0),some (0,0),some (0,0),some (0,1),some (0,1),some (0,1),some (0,0),some (0,0),some (0,0),some (0,1),some (0,1),some (0,0),none,some (1,1),none])
  (rg false [oz 94 (.mv (.t 4)),oz 95 (.bin .sub (.t 94) (.k (.i .i64 8))),oz 4 (.mv (.t 95))]))))))))))))
noncomputable def DK:CI:=⟨true,2,167,[],(.seq (rg false [oz 17 (.mv (.t 0)),oz 18 (.len (.t 17)),oz 4 (.mv (.t 18))]) (.seq (.blk 0 (.loop [0,1,4] IB)) (.seq (rg false [oz 96 (.mv (.t 1)),oz 97 (.cvi .u32 (.t 96)),oz 12 (.mv (.t 97))]) (.seq (.seq (rg false [oz 98 (.mv (.t 4)),oz 99 (.bin .geq (.t 98) (.k (.i .i64 4)))]) (.cond (.t 99) (.seq (rg false [oz 100 (.mv (.t 12)),oz 101 (.bin .rem (.t 100) (.k (.i .u32 10000))),oz 13 (.mv (.t 101))]) (.seq (rg false [oz 102 (.mv (.t 12)),oz 103 (.bin .quo (.t 102) (.k (.i .u32 10000))),oz 12 (.mv (.t 103))]) (.seq (rg false [oz 104 (.mv (.t 13)),oz 105 (.bin .quo (.t 104) (.k (.i .u32 100))),oz 106 (.bin .mul (.t 105) (.k (.i .u32 2))),oz 107 (.mv (.t 13)),oz 108 (.bin .rem (.t 107) (.k (.i .u32 100))),oz 109 (.bin .mul (.t 108) (.k (.i .u32 2))),oz 14 (.mv (.t 106)),oz 15 (.mv (.t 109))]) (.seq (.regd [oz 110 (.mv (.t 0)),oz 111 (.mv (.t 4)),oz 112 (.bin .sub (.t 111) (.k (.i .i64 1))),oz 113 (.mv (.t 0)),oz 114 (.mv (.t 4)),oz 115 (.bin .sub (.t 114) (.k (.i .i64 2))),oz 116 (.mv (.t 15)),oz 117 (.bin .add (.t 116) (.k (.i .u32 1))),oz 118 (.ixs (.k (.s EZ)) (.t 117)),oz 119 (.mv (.t 15)),oz 120 (.ixs (.k (.s EZ)) (.t 119)),oz 121 (.ias 1 (.t 110) (.t 112)),on (.st 1 (.t 121) (.t 118)),oz 122 (.ias 1 (.t 113) (.t 115)),on (.st 1 (.t 122) (.t 120))] [some (0,0),some (0,0),some (0,0),some (0,1),some (0,1),some (0,1),some (0,0),some (0,0),some (0,0),some (0,1),some (0,1),some (0,0),none,some (1,1),none]) (.seq (.regd [oz 123 (.mv (.t 0)),oz 124 (.mv (.t 4)),oz 125 (.bin .sub (.t 124) (.k (.i .i64 3))),oz 126 (.mv (.t 0)),oz 127 (.mv (.t 4)),oz 128 (.bin .sub (.t 127) (.k (.i .i64 4))),oz 129 (.mv (.t 14)),oz 130 (.bin .add (.t 129) (.k (.i .u32 1))),oz 131 (.ixs (.k (.s EZ)) (.t 130)),oz 132 (.mv (.t 14)),oz 133 (.ixs (.k (.s EZ)) (.t 132)),oz 134 (.ias 1 (.t 123) (.t 125)),on (.st 1 (.t 134) (.t 131)),oz 135 (.ias 1 (.t 126) (.t 128)),on (.st 1 (.t 135) (.t 133))] [some (0,0),some (0,0),some (0,0),some (0,1),some (0,1),some (0,1),some (0,0),some (0,0),some (0,0),some (0,1),some (0,1),some (0,0),none,some (1,1),none])
  (rg false [oz 136 (.mv (.t 4)),oz 137 (.bin .sub (.t 136) (.k (.i .i64 4))),oz 4 (.mv (.t 137))])))))) .skip)) (.seq (.seq (rg false [oz 138 (.mv (.t 4)),oz 139 (.bin .geq (.t 138) (.k (.i .i64 2)))]) (.cond (.t 139) (.seq (rg false [oz 140 (.mv (.t 12)),oz 141 (.bin .rem (.t 140) (.k (.i .u32 100))),oz 142 (.bin .mul (.t 141) (.k (.i .u32 2))),oz 16 (.mv (.t 142))]) (.seq (rg false [oz 143 (.mv (.t 12)),oz 144 (.bin .quo (.t 143) (.k (.i .u32 100))),oz 12 (.mv (.t 144))]) (.seq (.regd [oz 145 (.mv (.t 0)),oz 146 (.mv (.t 4)),oz 147 (.bin .sub (.t 146) (.k (.i .i64 1))),oz 148 (.mv (.t 0)),oz 149 (.mv (.t 4)),oz 150 (.bin .sub (.t 149) (.k (.i .i64 2))),oz 151 (.mv (.t 16)),oz 152 (.bin .add (.t 151) (.k (.i .u32 1))),oz 153 (.ixs (.k (.s EZ)) (.t 152)),oz 154 (.mv (.t 16)),oz 155 (.ixs (.k (.s EZ)) (.t 154)),oz 156 (.ias 1 (.t 145) (.t 147)),on (.st 1 (.t 156) (.t 153)),oz 157 (.ias 1 (.t 148) (.t 150)),on (.st 1 (.t 157) (.t 155))] [some (0,0),some (0,0),some (0,0),some (0,1),some (0,1),some (0,1),some (0,0),some (0,0),some (0,0),some (0,1),some (0,1),some (0,0),none,some (1,1),none]) (rg false [oz 158 (.mv (.t 4)),oz 159 (.bin .sub (.t 158) (.k (.i .i64 2))),oz 4 (.mv (.t 159))])))) .skip)) (.seq (rg false [oz 160 (.mv (.t 4)),oz 161 (.bin .gtr (.t 160) (.k (.i .i64 0)))]) (.cond (.t 161) (rg false [oz 162 (.mv (.t 0)),oz 163 (.mv (.t 12)),oz 164 (.bin .add (.k (.i .u32 48)) (.t 163)),oz 165 (.cvi .u8 (.t 164)),oz 166 (.ias 1 (.t 162) (.k (.i .i64 0))),on (.st 1 (.t 166) (.t 165))])
  .skip)))))))⟩
noncomputable def Ed:CI:=⟨false,1,17,[.tmp 2],(.seq (rg false [oz 2 (.mv (.k (.b false)))]) (.seq (.blk 0 (.seq (rg false [oz 4 (.mv (.t 0)),oz 5 (.bin .leq (.k (.i .i32 0)) (.t 4)),oz 6 (.mv (.t 5)),⟨some 7,some (6,true), .mv (.t 0)⟩,⟨some 8,some (6,true), .bin .lss (.t 7) (.k (.i .i32 55296))⟩,oz 9 (.pick (.t 6) (.t 8) (.k (.b false))),oz 3 (.mv (.t 9))]) (.cond (.t 3) (.seq (rg false [oz 2 (.mv (.k (.b true)))]) .ret) (.seq (rg false [oz 11 (.mv (.t 0)),oz 12 (.bin .lss (.k (.i .i32 57343)) (.t 11)),oz 13 (.mv (.t 12)),⟨some 14,some (13,true), .mv (.t 0)⟩,⟨some 15,some (13,true), .bin .leq (.t 14) (.k (.i .i32 1114111))⟩,oz 16 (.pick (.t 13) (.t 15) (.k (.b false))),oz 10 (.mv (.t 16))]) (.cond (.t 10) (.seq (rg false [oz 2 (.mv (.k (.b true)))]) .ret) .skip))))) (.seq (rg false [oz 2 (.mv (.k (.b false)))]) .ret)))⟩
noncomputable def Hm:CI:=⟨false,1,6,[.tmp 2],(.seq (rg false [oz 2 (.mv (.k (.i .i64 0)))]) (.seq (rg false [oz 3 (.mv (.t 0)),oz 4 (.bin .add (.t 3) (.k (.i .i64 16))),oz 5 (.bin .quo (.t 4) (.k (.i .i64 8))),oz 2 (.mv (.t 5))]) .ret))⟩
noncomputable def Gd:AC:=(.seq (.seq (rg false [oz 18 (.mv (.t 9)),oz 19 (.mv (.t 7)),oz 20 (.bin .lss (.t 18) (.t 19))]) (.cond (.t 20) .skip (.exit 0))) (.seq (.blk 1 (rg false [oz 23 (.mv (.t 8)),oz 24 (.bin .mul (.t 23) (.k (.i .u32 16777619))),oz 25 (.mv (.t 0)),oz 26 (.mv (.t 9)),oz 27 (.ixs (.t 25) (.t 26)),oz 28 (.cvi .u32 (.t 27)),oz 29 (.bin .add (.t 24) (.t 28)),oz 8 (.mv (.t 29))])) (rg false [oz 21 (.mv (.t 9)),oz 22 (.bin .add (.t 21) (.k (.i .i64 1))),oz 9 (.mv (.t 22))])))
noncomputable def Gc:AC:=(.seq (.seq (rg false [oz 41 (.mv (.t 10)),oz 42 (.mv (.t 0)),oz 43 (.lens (.t 42)),oz 44 (.bin .lss (.t 41) (.t 43))]) (.cond (.t 44) .skip (.exit 2))) (.blk 3 (.seq (rg false [oz 45 (.mv (.t 8)),oz 46 (.bin .mul (.t 45) (.k (.i .u32 16777619))),oz 8 (.mv (.t 46))]) (.seq (rg false [oz 47 (.mv (.t 8)),oz 48 (.mv (.t 0)),oz 49 (.mv (.t 10)),oz 50 (.ixs (.t 48) (.t 49)),oz 51 (.cvi .u32 (.t 50)),oz 52 (.bin .add (.t 47) (.t 51)),oz 8 (.mv (.t 52))]) (.seq (rg false [oz 53 (.mv (.t 8)),oz 54 (.mv (.t 6)),oz 55 (.mv (.t 0)),oz 56 (.mv (.t 10)),oz 57 (.mv (.t 7)),oz 58 (.bin .sub (.t 56) (.t 57)),oz 59 (.ixs (.t 55) (.t 58)),oz 60 (.cvi .u32 (.t 59)),oz 61 (.bin .mul (.t 54) (.t 60)),oz 62 (.bin .sub (.t 53) (.t 61)),oz 8 (.mv (.t 62))]) (.seq (rg false [oz 63 (.mv (.t 10)),oz 64 (.bin .add (.t 63) (.k (.i .i64 1))),oz 10 (.mv (.t 64))]) (.seq (rg false [oz 65 (.mv (.t 8)),oz 66 (.mv (.t 5)),oz 67 (.bin .eql (.t 65) (.t 66)),oz 68 (.mv (.t 67)),⟨some 69,some (68,true), .mv (.t 0)⟩,⟨some 70,some (68,true), .mv (.t 10)⟩,⟨some 71,some (68,true), .mv (.t 7)⟩,⟨some 72,some (68,true), .bin .sub (.t 70) (.t 71)⟩,⟨some 73,some (68,true), .mv (.t 10)⟩,⟨some 74,some (68,true), .sls (.t 69) (some (.t 72)) (some (.t 73))⟩,⟨some 75,some (68,true), .mv (.t 1)⟩,⟨some 76,some (68,true), .bin .eql (.t 74) (.t 75)⟩,oz 77 (.pick (.t 68) (.t 76) (.k (.b false)))]) (.cond (.t 77) (.seq (rg false [oz 78 (.mv (.t 10)),oz 79 (.mv (.t 7)),oz 80 (.bin .sub (.t 78) (.t 79)),oz 4 (.mv (.t 80))])
  .ret) .skip))))))))
noncomputable def C1:CI:=⟨false,2,81,[.tmp 4],(.seq (rg false [oz 4 (.mv (.k (.i .i64 0)))]) (.seq (rg false [oz 12 (.mv (.t 1)),oz 13 (.call B3 [(.t 12)]),oz 11 (.mv (.t 13)),oz 14 (.ext (.t 11) 0),oz 15 (.ext (.t 11) 1),oz 5 (.mv (.t 14)),oz 6 (.mv (.t 15))]) (.seq (rg false [oz 16 (.mv (.t 1)),oz 17 (.lens (.t 16)),oz 7 (.mv (.t 17))]) (.seq (rg false [oz 8 (.mv (.k (.i .u32 0)))]) (.seq (.seq (rg false [oz 9 (.mv (.k (.i .i64 0)))]) (.blk 0 (.loop [0,1,5,6,7,8,9] Gd))) (.seq (.seq (rg false [oz 30 (.mv (.t 8)),oz 31 (.mv (.t 5)),oz 32 (.bin .eql (.t 30) (.t 31)),oz 33 (.mv (.t 32)),⟨some 34,some (33,true), .mv (.t 0)⟩,⟨some 35,some (33,true), .mv (.t 7)⟩,⟨some 36,some (33,true), .sls (.t 34) none (some (.t 35))⟩,⟨some 37,some (33,true), .mv (.t 1)⟩,⟨some 38,some (33,true), .bin .eql (.t 36) (.t 37)⟩,oz 39 (.pick (.t 33) (.t 38) (.k (.b false)))]) (.cond (.t 39) (.seq (rg false [oz 4 (.mv (.k (.i .i64 0)))]) .ret) .skip)) (.seq (.seq (rg false [oz 40 (.mv (.t 7)),oz 10 (.mv (.t 40))]) (.blk 2 (.loop [0,1,5,6,7,8,10] Gc))) (.seq (rg false [oz 4 (.mv (.k (.i .i64 (-1))))]) .ret))))))))⟩
noncomputable def Td:AC:=(.seq (rg false [oz 13 (.bin .lss (.t 12) (.t 11))]) (.seq (.cond (.t 13) .skip (.exit 0)) (.seq (.blk 1 (.seq (rg false [oz 14 (.ias 1 (.t 10) (.t 12)),oz 15 (.ld false 1 (.t 14)),oz 6 (.mv (.t 15))]) (rg false [oz 16 (.mv (.t 4)),oz 17 (.bin .shl (.t 16) (.k (.i .u64 8))),oz 18 (.mv (.t 6)),oz 19 (.cvi .u64 (.t 18)),oz 20 (.bin .or (.t 17) (.t 19)),oz 4 (.mv (.t 20))]))) (rg false [oz 21 (.bin .add (.t 12) (.k (.i .i64 1))),oz 12 (.mv (.t 21))]))))
noncomputable def Jw:CI:=⟨false,1,23,[.tmp 2, .tmp 3],(.seq (rg false [oz 2 (.mv (.k (.i .u64 0))),oz 3 (.mv (.k (.i .i64 0)))]) (.seq (.seq (rg false [oz 7 (.mv (.t 0)),oz 8 (.call Fe [(.t 7)]),oz 9 (.un .not (.t 8))]) (.cond (.t 9) (.seq (rg false [oz 2 (.mv (.k (.i .u64 0))),oz 3 (.mv (.k (.i .i64 1)))]) .ret) .skip)) (.seq (rg false [oz 4 (.mv (.k (.i .u64 0)))]) (.seq (.seq (rg false [oz 10 (.mv (.t 0)),oz 11 (.len (.t 10)),oz 12 (.mv (.k (.i .i64 0)))]) (.blk 0 (.loop [4,10,11,12] Td))) (.seq (rg false [oz 22 (.mv (.t 4)),oz 2 (.mv (.t 22)),oz 3 (.mv (.k (.i .i64 0)))]) .ret)))))⟩
noncomputable def Uj:AC:=(.blk 1 (.seq (rg false [oz 4 (.mv (.t 0)),oz 5 (.bin .and (.t 4) (.k (.i .u16 15))),oz 6 (.ixs (.k (.s [48,49,50,51,52,53,54,55,56,57,97,98,99,100,101,102])) (.t 5)),oz 7 (.cvc (.t 6)),oz 8 (.mv (.t 3)),oz 9 (.bin .add (.t 7) (.t 8)),oz 3 (.mv (.t 9))]) (.seq (rg false [oz 10 (.mv (.t 0)),oz 11 (.bin .shr (.t 10) (.k (.i .u64 4))),oz 0 (.mv (.t 11))]) (.seq (rg false [oz 12 (.mv (.t 0)),oz 13 (.bin .eql (.t 12) (.k (.i .u16 0)))]) (.cond (.t 13) (.seq (rg false [oz 14 (.mv (.t 3)),oz 2 (.mv (.t 14))]) .ret) .skip)))))
noncomputable def Ki:CI:=⟨false,1,15,[.tmp 2],(.seq (rg false [oz 2 (.mv (.k (.s [])))]) (.seq (rg false [oz 3 (.mv (.k (.s [])))]) (.blk 0 (.loop [0,3] Uj))))⟩
noncomputable def Dn:CI:=⟨false,1,6,[.tmp 2],(.seq (rg false [oz 2 (.mv (.k (.i .i64 0)))]) (.seq (rg false [oz 3 (.mv (.t 0)),oz 4 (.bin .mul (.t 3) (.k (.i .i64 78913))),oz 5 (.bin .shr (.t 4) (.k (.i .u64 18))),oz 2 (.mv (.t 5))]) .ret))⟩
noncomputable def GT:CI:=⟨false,1,25,[.tmp 2],(.seq (rg false [oz 2 (.mv (.k (.i .i64 0)))]) (.seq (.seq (rg false [oz 3 (.mv (.t 0)),oz 4 (.bin .geq (.t 3) (.k (.i .u64 4294967296)))]) (.cond (.t 4) (.seq (rg false [oz 5 (.mv (.t 0)),oz 6 (.bin .shr (.t 5) (.k (.i .u64 32))),oz 0 (.mv (.t 6))]) (rg false [oz 2 (.mv (.k (.i .i64 32)))])) .skip)) (.seq (.seq (rg false [oz 7 (.mv (.t 0)),oz 8 (.bin .geq (.t 7) (.k (.i .u64 65536)))]) (.cond (.t 8) (.seq (rg false [oz 9 (.mv (.t 0)),oz 10 (.bin .shr (.t 9) (.k (.i .u64 16))),oz 0 (.mv (.t 10))]) (rg false [oz 11 (.mv (.t 2)),oz 12 (.bin .add (.t 11) (.k (.i .i64 16))),oz 2 (.mv (.t 12))])) .skip)) (.seq (.seq (rg false [oz 13 (.mv (.t 0)),oz 14 (.bin .geq (.t 13) (.k (.i .u64 256)))]) (.cond (.t 14) (.seq (rg false [oz 15 (.mv (.t 0)),oz 16 (.bin .shr (.t 15) (.k (.i .u64 8))),oz 0 (.mv (.t 16))]) (rg false [oz 17 (.mv (.t 2)),oz 18 (.bin .add (.t 17) (.k (.i .i64 8))),oz 2 (.mv (.t 18))])) .skip)) (.seq (rg false [oz 19 (.mv (.t 2)),oz 20 (.mv (.t 0)),oz 21 (.cvi .u8 (.t 20)),oz 22 (.ixs (.k (.s str_1)) (.t 21)),oz 23 (.cvi .i64 (.t 22)),oz 24 (.bin .add (.t 19) (.t 23)),oz 2 (.mv (.t 24))]) .ret)))))⟩
noncomputable def Do:CI:=⟨false,1,4,[.tmp 2],(.seq (rg false [oz 2 (.mv (.k (.i .i64 0)))]) (.seq (.seq (rg false [oz 3 (.mv (.t 0))]) (.cond (.t 3) (.seq (rg false [oz 2 (.mv (.k (.i .i64 1)))]) .ret) .skip)) (.seq (rg false [oz 2 (.mv (.k (.i .i64 0)))]) .ret)))⟩
noncomputable def HS:AC:=(.seq (.seq (rg false [oz 9 (.mv (.t 5)),oz 10 (.mv (.t 0)),oz 11 (.lens (.t 10)),oz 12 (.bin .lss (.t 9) (.t 11))]) (.cond (.t 12) .skip (.exit 0))) (.seq (.blk 1 (rg false [oz 15 (.mv (.t 4)),oz 16 (.bin .mul (.t 15) (.k (.i .u32 16777619))),oz 17 (.mv (.t 0)),oz 18 (.mv (.t 5)),oz 19 (.ixs (.t 17) (.t 18)),oz 20 (.cvi .u32 (.t 19)),oz 21 (.bin .add (.t 16) (.t 20)),oz 4 (.mv (.t 21))])) (rg false [oz 13 (.mv (.t 5)),oz 14 (.bin .add (.t 13) (.k (.i .i64 1))),oz 5 (.mv (.t 14))])))
noncomputable def HR:AC:=(.seq (.seq (rg false [oz 24 (.mv (.t 8)),oz 25 (.bin .gtr (.t 24) (.k (.i .i64 0)))]) (.cond (.t 25) .skip (.exit 2))) (.seq (.blk 3 (.seq (.seq (rg false [oz 28 (.mv (.t 8)),oz 29 (.bin .and (.t 28) (.k (.i .i64 1))),oz 30 (.bin .neq (.t 29) (.k (.i .i64 0)))]) (.cond (.t 30) (rg false [oz 31 (.mv (.t 6)),oz 32 (.mv (.t 7)),oz 33 (.bin .mul (.t 31) (.t 32)),oz 6 (.mv (.t 33))]) .skip)) (rg false [oz 34 (.mv (.t 7)),oz 35 (.mv (.t 7)),oz 36 (.bin .mul (.t 34) (.t 35)),oz 7 (.mv (.t 36))]))) (rg false [oz 26 (.mv (.t 8)),oz 27 (.bin .shr (.t 26) (.k (.i .u64 1))),oz 8 (.mv (.t 27))])))
noncomputable def Cw:CI:=⟨false,1,39,[.tmp 2, .tmp 3],(.seq (rg false [oz 2 (.mv (.k (.i .u32 0))),oz 3 (.mv (.k (.i .u32 0)))]) (.seq (rg false [oz 4 (.mv (.k (.i .u32 0)))]) (.seq (.seq (rg false [oz 5 (.mv (.k (.i .i64 0)))]) (.blk 0 (.loop [0,4,5] HS))) (.seq (rg false [oz 6 (.mv (.k (.i .u32 1))),oz 7 (.mv (.k (.i .u32 16777619)))]) (.seq (.seq (rg false [oz 22 (.mv (.t 0)),oz 23 (.lens (.t 22)),oz 8 (.mv (.t 23))]) (.blk 2 (.loop [4,6,7,8] HR))) (.seq (rg false [oz 37 (.mv (.t 4)),oz 38 (.mv (.t 6)),oz 2 (.mv (.t 37)),oz 3 (.mv (.t 38))]) .ret))))))⟩
noncomputable def Jv:CI:=⟨false,1,11,[.tmp 2],(.seq (rg false [oz 2 (.mv (.k (.b false)))]) (.seq (rg false [oz 3 (.mv (.t 0)),oz 4 (.len (.t 3)),oz 5 (.bin .geq (.t 4) (.k (.i .i64 1))),oz 6 (.mv (.t 5)),⟨some 7,some (6,true), .mv (.t 0)⟩,⟨some 8,some (6,true), .len (.t 7)⟩,⟨some 9,some (6,true), .bin .leq (.t 8) (.k (.i .i64 8))⟩,oz 10 (.pick (.t 6) (.t 9) (.k (.b false))),oz 2 (.mv (.t 10))]) .ret))⟩
def tD:(Ar AM 17):=⟨[[],[112,114,105,118,97,116,101,95,107,101,121],[108,105,115,116,101,110,95,112,111,114,116],[102,119,109,97,114,107],[114,101,112,108,97,99,101,95,112,101,101,114,115],[112,117,98,108,105,99,95,107,101,121],[114,101,109,111,118,101],[117,112,100,97,116,101,95,111,110,108,121],[112,114,101,115,104,97,114,101,100,95,107,101,121],[101,110,100,112,111,105,110,116],[112,101,114,115,105,115,116,101,110,116,95,107,101,101,112,97,108,105,118,101,95,105,110,116,101,114,118,97,108],[114,101,112,108,97,99,101,95,97,108,108,111,119,101,100,95,105,112,115],[97,108,108,111,119,101,100,95,105,112],[112,114,111,116,111,99,111,108,95,118,101,114,115,105,111,110],[116,120,95,98,121,116,101,115],[114,120,95,98,121,116,101,115],[101,114,114,110,111]],rfl⟩
def gl_0:List AV:=tD.l.map AV.s
theorem gm_0:Bg gl_0=0:=uO AV.s (fun _=>rfl) _
theorem gr_0: ∀P H,(Ay 17 Ax).R P H gl_0 tD:=fun _ _=>tab_R tD
def nF:(Ar UInt64 20):=⟨[1,10,100,1000,10000,100000,1000000,10000000,100000000,1000000000,10000000000,100000000000,1000000000000,10000000000000,100000000000000,1000000000000000,10000000000000000,100000000000000000,1000000000000000000,10000000000000000000],rfl⟩
def gl_2:List AV:=nF.l.map (fun(x:UInt64)=>AV.i .u64 x.toNat)
theorem gm_2:Bg gl_2=0:=uO (fun(x:UInt64)=>AV.i .u64 x.toNat) (fun _=>rfl) _
theorem gr_2: ∀P H,(Ay 20 T.u64).R P H gl_2 nF:=fun _ _=>tab_R nF
noncomputable def gll:List (Nat×List AV):=[(0,gl_0),(2,gl_2)]
noncomputable def fnl:List (Nat×CI):=[(DS,GU),(H8,Mv),(H5,Mn),(G0,Mz),(ES,Kk),(IK,Oy),(H4,Mm),(Ep,HL),(FQ,Kh),(Gw,Mo),(Es,Jp),(GI,Ln),(H7,Mt),(IP,O3),(Dc,OB),(Gz,Mu),(GJ,Lo),(GG,Ll),(FT,Kj),(DA,HJ),(Et,Jr),(Cz,Ox),(Hh,O2),(Gx,Mp),(IR,O5),(Ea,Ms),(CU,FF),(Bd,DJ),(BE,EU),(E2,Mw),(Ge,O6),(F6,Lk),(FP,Kg),(DT,Iq),(Dd,HK),(EE,Io),(GK,Lp),(IN,O1),(IM,O0),(Gy,Mr),(IS,O7),(IU,O8),(Fd,Jq),(EF,Ip),(IX,OC),(Dk,Jx),(B2,Em),(CD,FM),(IV,O9),(IW,OA),(EB,Ls),(HD,M2),(D6,Lu),(CM,EX),(DE,G5),(FV,Kl),(EG,KO),(F8,Lq),(Hg,Qq),(JO,Qp),(IQ,O4),(IL,Oz),(H3,Ml),(H6,Mq),(BI,En),(F9,Lt),(Fs,M3),(Dh,Fu),(Bi,C6),(GH,Lm),(I7,Qr),(Hi,Qs),(JQ,Qt),(HF,M5),(HG,M6),(DD,G4),(ED,In),(Hj,MP),(Hk,MQ),(FU,KQ),(CS,KP),(Id,OD),(H9,My),(GL,Lr),(BJ,Df),(E3,Mx),(HE,M4),(EI,Iw),(CC,FL),(BT,D3),(C9,E7),(BH,De),(BL,Dl),(CO,Is),(CN,Ir),(CQ,Iu),(CP,It),(Cp,GX),(HC,M1),(Co,GW),(Bl,Ju),(Bh,GV),(Dj,Jt),(Di,Js),(Fg,Jy),(EH,Iv),(Fq,M0),(Cn,Ee),(BM,Dm),(BW,DK),(Cm,Ed),(D1,Hm),(Cs,C1),(Ff,Jw),(FS,Ki),(BN,Dn),(DR,GT),(BO,Do),(B3,Cw),(Fe,Jv)]
def prl:List (Nat×(List AV→Av→Option (AV×Option Av))):=[(Cj,WP),(F7,OL),(D2,Px),(Fc,(Z3 107 5))]
noncomputable def tb:CW:=⟨fun n=>look n fnl,fun n=>look n gll,fun n=>look n prl⟩
theorem SL:tb.prim DS=none∧tb.fns DS=some GU:=⟨rfl,rfl⟩
theorem jX:tb.prim H8=none∧tb.fns H8=some Mv:=⟨rfl,rfl⟩
theorem jP:tb.prim H5=none∧tb.fns H5=some Mn:=⟨rfl,rfl⟩
theorem kB:tb.prim G0=none∧tb.fns G0=some Mz:=⟨rfl,rfl⟩
theorem YV:tb.prim ES=none∧tb.fns ES=some Kk:=⟨rfl,rfl⟩
theorem nJ:tb.prim IK=none∧tb.fns IK=some Oy:=⟨rfl,rfl⟩
theorem jO:tb.prim H4=none∧tb.fns H4=some Mm:=⟨rfl,rfl⟩
theorem Ug:tb.prim Ep=none∧tb.fns Ep=some HL:=⟨rfl,rfl⟩
theorem YS:tb.prim FQ=none∧tb.fns FQ=some Kh:=⟨rfl,rfl⟩
theorem jQ:tb.prim Gw=none∧tb.fns Gw=some Mo:=⟨rfl,rfl⟩
theorem Xx:tb.prim Es=none∧tb.fns Es=some Jp:=⟨rfl,rfl⟩
theorem dO:tb.prim GI=none∧tb.fns GI=some Ln:=⟨rfl,rfl⟩
theorem jV:tb.prim H7=none∧tb.fns H7=some Mt:=⟨rfl,rfl⟩
theorem nO:tb.prim IP=none∧tb.fns IP=some O3:=⟨rfl,rfl⟩
theorem nW:tb.prim Dc=none∧tb.fns Dc=some OB:=⟨rfl,rfl⟩
theorem jW:tb.prim Gz=none∧tb.fns Gz=some Mu:=⟨rfl,rfl⟩
theorem dP:tb.prim GJ=none∧tb.fns GJ=some Lo:=⟨rfl,rfl⟩
theorem dM:tb.prim GG=none∧tb.fns GG=some Ll:=⟨rfl,rfl⟩
theorem YU:tb.prim FT=none∧tb.fns FT=some Kj:=⟨rfl,rfl⟩
theorem Ue:tb.prim DA=none∧tb.fns DA=some HJ:=⟨rfl,rfl⟩
theorem Xz:tb.prim Et=none∧tb.fns Et=some Jr:=⟨rfl,rfl⟩
theorem nI:tb.prim Cz=none∧tb.fns Cz=some Ox:=⟨rfl,rfl⟩
theorem nN:tb.prim Hh=none∧tb.fns Hh=some O2:=⟨rfl,rfl⟩
theorem jR:tb.prim Gx=none∧tb.fns Gx=some Mp:=⟨rfl,rfl⟩
theorem nQ:tb.prim IR=none∧tb.fns IR=some O5:=⟨rfl,rfl⟩
theorem jU:tb.prim Ea=none∧tb.fns Ea=some Ms:=⟨rfl,rfl⟩
theorem MK:tb.prim CU=none∧tb.fns CU=some FF:=⟨rfl,rfl⟩
theorem Cf:tb.prim Bd=none∧tb.fns Bd=some DJ:=⟨rfl,rfl⟩
theorem ET:tb.prim BE=none∧tb.fns BE=some EU:=⟨rfl,rfl⟩
theorem jY:tb.prim E2=none∧tb.fns E2=some Mw:=⟨rfl,rfl⟩
theorem nR:tb.prim Ge=none∧tb.fns Ge=some O6:=⟨rfl,rfl⟩
theorem dL:tb.prim F6=none∧tb.fns F6=some Lk:=⟨rfl,rfl⟩
theorem YR:tb.prim FP=none∧tb.fns FP=some Kg:=⟨rfl,rfl⟩
theorem V7:tb.prim DT=none∧tb.fns DT=some Iq:=⟨rfl,rfl⟩
theorem Uf:tb.prim Dd=none∧tb.fns Dd=some HK:=⟨rfl,rfl⟩
theorem V5:tb.prim EE=none∧tb.fns EE=some Io:=⟨rfl,rfl⟩
theorem dQ:tb.prim GK=none∧tb.fns GK=some Lp:=⟨rfl,rfl⟩
theorem nM:tb.prim IN=none∧tb.fns IN=some O1:=⟨rfl,rfl⟩
theorem nL:tb.prim IM=none∧tb.fns IM=some O0:=⟨rfl,rfl⟩
theorem jT:tb.prim Gy=none∧tb.fns Gy=some Mr:=⟨rfl,rfl⟩
theorem nS:tb.prim IS=none∧tb.fns IS=some O7:=⟨rfl,rfl⟩
theorem nT:tb.prim IU=none∧tb.fns IU=some O8:=⟨rfl,rfl⟩
theorem Xy:tb.prim Fd=none∧tb.fns Fd=some Jq:=⟨rfl,rfl⟩
theorem V6:tb.prim EF=none∧tb.fns EF=some Ip:=⟨rfl,rfl⟩
theorem nX:tb.prim IX=none∧tb.fns IX=some OC:=⟨rfl,rfl⟩
theorem X4:tb.prim Dk=none∧tb.fns Dk=some Jx:=⟨rfl,rfl⟩
theorem Bx:tb.prim B2=none∧tb.fns B2=some Em:=⟨rfl,rfl⟩
theorem QC:tb.prim CD=none∧tb.fns CD=some FM:=⟨rfl,rfl⟩
theorem nU:tb.prim IV=none∧tb.fns IV=some O9:=⟨rfl,rfl⟩
theorem nV:tb.prim IW=none∧tb.fns IW=some OA:=⟨rfl,rfl⟩
theorem dT:tb.prim EB=none∧tb.fns EB=some Ls:=⟨rfl,rfl⟩
theorem kE:tb.prim HD=none∧tb.fns HD=some M2:=⟨rfl,rfl⟩
theorem dV:tb.prim D6=none∧tb.fns D6=some Lu:=⟨rfl,rfl⟩
theorem Pd:tb.prim CM=none∧tb.fns CM=some EX:=⟨rfl,rfl⟩
theorem RC:tb.prim DE=none∧tb.fns DE=some G5:=⟨rfl,rfl⟩
theorem YW:tb.prim FV=none∧tb.fns FV=some Kl:=⟨rfl,rfl⟩
theorem OQ:tb.prim EG=none∧tb.fns EG=some KO:=⟨rfl,rfl⟩
theorem dR:tb.prim F8=none∧tb.fns F8=some Lq:=⟨rfl,rfl⟩
theorem tI:tb.prim Hg=none∧tb.fns Hg=some Qq:=⟨rfl,rfl⟩
theorem tH:tb.prim JO=none∧tb.fns JO=some Qp:=⟨rfl,rfl⟩
theorem nP:tb.prim IQ=none∧tb.fns IQ=some O4:=⟨rfl,rfl⟩
theorem nK:tb.prim IL=none∧tb.fns IL=some Oz:=⟨rfl,rfl⟩
theorem jN:tb.prim H3=none∧tb.fns H3=some Ml:=⟨rfl,rfl⟩
theorem jS:tb.prim H6=none∧tb.fns H6=some Mq:=⟨rfl,rfl⟩
theorem Gg:tb.prim BI=none∧tb.fns BI=some En:=⟨rfl,rfl⟩
theorem dU:tb.prim F9=none∧tb.fns F9=some Lt:=⟨rfl,rfl⟩
theorem kF:tb.prim Fs=none∧tb.fns Fs=some M3:=⟨rfl,rfl⟩
theorem PH:tb.prim Dh=none∧tb.fns Dh=some Fu:=⟨rfl,rfl⟩
theorem Jn:tb.prim Bi=none∧tb.fns Bi=some C6:=⟨rfl,rfl⟩
theorem dN:tb.prim GH=none∧tb.fns GH=some Lm:=⟨rfl,rfl⟩
theorem tJ:tb.prim I7=none∧tb.fns I7=some Qr:=⟨rfl,rfl⟩
theorem tK:tb.prim Hi=none∧tb.fns Hi=some Qs:=⟨rfl,rfl⟩
theorem tL:tb.prim JQ=none∧tb.fns JQ=some Qt:=⟨rfl,rfl⟩
theorem kH:tb.prim HF=none∧tb.fns HF=some M5:=⟨rfl,rfl⟩
theorem kI:tb.prim HG=none∧tb.fns HG=some M6:=⟨rfl,rfl⟩
theorem RB:tb.prim DD=none∧tb.fns DD=some G4:=⟨rfl,rfl⟩
theorem V4:tb.prim ED=none∧tb.fns ED=some In:=⟨rfl,rfl⟩
theorem Ra:tb.prim Hj=none∧tb.fns Hj=some MP:=⟨rfl,rfl⟩
theorem Rb:tb.prim Hk=none∧tb.fns Hk=some MQ:=⟨rfl,rfl⟩
theorem OR:tb.prim FU=none∧tb.fns FU=some KQ:=⟨rfl,rfl⟩
theorem CH:tb.prim CS=none∧tb.fns CS=some KP:=⟨rfl,rfl⟩
theorem SM:tb.prim Id=none∧tb.fns Id=some OD:=⟨rfl,rfl⟩
theorem kA:tb.prim H9=none∧tb.fns H9=some My:=⟨rfl,rfl⟩
theorem dS:tb.prim GL=none∧tb.fns GL=some Lr:=⟨rfl,rfl⟩
theorem K7:tb.prim BJ=none∧tb.fns BJ=some Df:=⟨rfl,rfl⟩
theorem jZ:tb.prim E3=none∧tb.fns E3=some Mx:=⟨rfl,rfl⟩
theorem kG:tb.prim HE=none∧tb.fns HE=some M4:=⟨rfl,rfl⟩
theorem VD:tb.prim EI=none∧tb.fns EI=some Iw:=⟨rfl,rfl⟩
theorem QB:tb.prim CC=none∧tb.fns CC=some FL:=⟨rfl,rfl⟩
theorem Le:tb.prim BT=none∧tb.fns BT=some D3:=⟨rfl,rfl⟩
theorem Oh:tb.prim C9=none∧tb.fns C9=some E7:=⟨rfl,rfl⟩
theorem K6:tb.prim BH=none∧tb.fns BH=some De:=⟨rfl,rfl⟩
theorem KK:tb.prim BL=none∧tb.fns BL=some Dl:=⟨rfl,rfl⟩
theorem V9:tb.prim CO=none∧tb.fns CO=some Is:=⟨rfl,rfl⟩
theorem V8:tb.prim CN=none∧tb.fns CN=some Ir:=⟨rfl,rfl⟩
theorem VB:tb.prim CQ=none∧tb.fns CQ=some Iu:=⟨rfl,rfl⟩
theorem VA:tb.prim CP=none∧tb.fns CP=some It:=⟨rfl,rfl⟩
theorem SP:tb.prim Cp=none∧tb.fns Cp=some GX:=⟨rfl,rfl⟩
theorem kD:tb.prim HC=none∧tb.fns HC=some M1:=⟨rfl,rfl⟩
theorem SO:tb.prim Co=none∧tb.fns Co=some GW:=⟨rfl,rfl⟩
theorem Mh:tb.prim Bl=none∧tb.fns Bl=some Ju:=⟨rfl,rfl⟩
theorem SN:tb.prim Bh=none∧tb.fns Bh=some GV:=⟨rfl,rfl⟩
theorem X1:tb.prim Dj=none∧tb.fns Dj=some Jt:=⟨rfl,rfl⟩
theorem X0:tb.prim Di=none∧tb.fns Di=some Js:=⟨rfl,rfl⟩
theorem X5:tb.prim Fg=none∧tb.fns Fg=some Jy:=⟨rfl,rfl⟩
theorem VC:tb.prim EH=none∧tb.fns EH=some Iv:=⟨rfl,rfl⟩
theorem kC:tb.prim Fq=none∧tb.fns Fq=some M0:=⟨rfl,rfl⟩
theorem ML:tb.prim Cn=none∧tb.fns Cn=some Ee:=⟨rfl,rfl⟩
theorem KL:tb.prim BM=none∧tb.fns BM=some Dm:=⟨rfl,rfl⟩
theorem J8:tb.prim BW=none∧tb.fns BW=some DK:=⟨rfl,rfl⟩
theorem MJ:tb.prim Cm=none∧tb.fns Cm=some Ed:=⟨rfl,rfl⟩
theorem X3:tb.prim Ff=none∧tb.fns Ff=some Jw:=⟨rfl,rfl⟩
theorem YT:tb.prim FS=none∧tb.fns FS=some Ki:=⟨rfl,rfl⟩
theorem KM:tb.prim BN=none∧tb.fns BN=some Dn:=⟨rfl,rfl⟩
theorem SK:tb.prim DR=none∧tb.fns DR=some GT:=⟨rfl,rfl⟩
theorem KN:tb.prim BO=none∧tb.fns BO=some Do:=⟨rfl,rfl⟩
theorem Jb:tb.prim B3=none∧tb.fns B3=some Cw:=⟨rfl,rfl⟩
theorem X2:tb.prim Fe=none∧tb.fns Fe=some Jv:=⟨rfl,rfl⟩
end Go.Proofs.YtobejhpigbllpaaGreatDoor.Am
end
section
set_option linter.unusedVariables false
namespace Go.Proofs.YtobejhpigbllpaaGreatDoor.Am
open Go.Proofs Go.RowKit
set_option maxHeartbeats 2000000 in
set_option maxRecDepth 1000000 in
theorem yR:lE Tryz.prog 106 5:=by
 intro b n w h1 hb hf hn
 obtain⟨cs,hrun,hle,hmax⟩:=Lib.run_makeNoZero (P:=Tryz.prog) w.drew #[3] 22 5 (by kernel_rfl) n hn
 refine⟨cs,hle,?_⟩
 have hw:IntKind.i64.wrap (IntKind.i64.wrap 0+(n:Int))=n:=by
  rw[IntKind.wrap_i64,IntKind.wrap_i64]
  omega
 have hcall:(callFunc 143 #[.int .i64 (IntKind.i64.wrap (IntKind.i64.wrap 0+(n:Int)))]).run Tryz.prog w.drew= .ok (.value (.slice (some ⟨w.drew.heap.size,0,none⟩) n cs.size)) (w.drew.drew.drew.alloc (.cells cs 5)):=by
  rw[hw,run_callFunc_extern Tryz.func143 (by kernel_rfl) (by kernel_rfl) (by kernel_rfl) (e:=Extern.BytealgMakeNoZero.makeNoZero #[3] #[22]) (by kernel_rfl),hrun]
  rfl
 have c1:w.drew.cell? ⟨b,1,none⟩=some (.slice none 0 0):=h1
 have c2:(w.alloc (.cells cs 5)).cell? ⟨b,1,none⟩=some (.slice none 0 0):=by
  have:(w.alloc (.cells cs 5)).heap[b]? =w.heap[b]? :=(Lib.alloc_old w _ b hb)
  simp only[World.cell?,this];exact h1
 have f2:(w.alloc (.cells cs 5)).frozen? ⟨b,1,none⟩=false:=by
  have:(w.alloc (.cells cs 5)).heap[b]? =w.heap[b]? :=(Lib.alloc_old w _ b hb)
  simp only[World.frozen?,this];exact hf
 have hcopy: ∀W:World,(Builtin.copy_ #[22,22] 3 #[.slice (some ⟨w.heap.size,0,none⟩) 0 cs.size, .slice none 0 0]).run Tryz.prog W= .ok (goInt 0) W:=
  fun W=>run_copy_none W 22 22 3 5 _ _ 0 cs.size 0 0 (by kernel_rfl) (by kernel_rfl) rfl
 clear hw
 go_enter Tryz.func106,Tryz.ntmps106
 go_wp2
 go_region
 all_goals (go_wp2;go_end0;exact⟨rfl,rfl⟩)
end Go.Proofs.YtobejhpigbllpaaGreatDoor.Am
end
section
set_option linter.unusedVariables false
set_option maxRecDepth 100000
set_option maxHeartbeats 4000000
namespace Go.Proofs.YtobejhpigbllpaaGreatDoor.Am
open Go.Proofs
theorem S5:Bn (Bs Tryz.prog) Tryz.prog GU DS=true:=by kernel_rfl
theorem iH:Bn (Bs Tryz.prog) Tryz.prog Mv H8=true:=by kernel_rfl
theorem hZ:Bn (Bs Tryz.prog) Tryz.prog Mn H5=true:=by kernel_rfl
theorem iL:Bn (Bs Tryz.prog) Tryz.prog Mz G0=true:=by kernel_rfl
theorem YL:Bn (Bs Tryz.prog) Tryz.prog Kk ES=true:=by kernel_rfl
theorem mO:Bn (Bs Tryz.prog) Tryz.prog Oy IK=true:=by kernel_rfl
theorem hY:Bn (Bs Tryz.prog) Tryz.prog Mm H4=true:=by kernel_rfl
theorem TV:Bn (Bs Tryz.prog) Tryz.prog HL Ep=true:=by kernel_rfl
theorem YI:Bn (Bs Tryz.prog) Tryz.prog Kh FQ=true:=by kernel_rfl
theorem iA:Bn (Bs Tryz.prog) Tryz.prog Mo Gw=true:=by kernel_rfl
theorem Xa:Bn (Bs Tryz.prog) Tryz.prog Jp Es=true:=by kernel_rfl
theorem cR:Bn (Bs Tryz.prog) Tryz.prog Ln GI=true:=by kernel_rfl
theorem iF:Bn (Bs Tryz.prog) Tryz.prog Mt H7=true:=by kernel_rfl
theorem mT:Bn (Bs Tryz.prog) Tryz.prog O3 IP=true:=by kernel_rfl
theorem nB:Bn (Bs Tryz.prog) Tryz.prog OB Dc=true:=by kernel_rfl
theorem iG:Bn (Bs Tryz.prog) Tryz.prog Mu Gz=true:=by kernel_rfl
theorem cS:Bn (Bs Tryz.prog) Tryz.prog Lo GJ=true:=by kernel_rfl
theorem cP:Bn (Bs Tryz.prog) Tryz.prog Ll GG=true:=by kernel_rfl
theorem YK:Bn (Bs Tryz.prog) Tryz.prog Kj FT=true:=by kernel_rfl
theorem TT:Bn (Bs Tryz.prog) Tryz.prog HJ DA=true:=by kernel_rfl
theorem Xc:Bn (Bs Tryz.prog) Tryz.prog Jr Et=true:=by kernel_rfl
theorem mN:Bn (Bs Tryz.prog) Tryz.prog Ox Cz=true:=by kernel_rfl
theorem mS:Bn (Bs Tryz.prog) Tryz.prog O2 Hh=true:=by kernel_rfl
theorem iB:Bn (Bs Tryz.prog) Tryz.prog Mp Gx=true:=by kernel_rfl
theorem mV:Bn (Bs Tryz.prog) Tryz.prog O5 IR=true:=by kernel_rfl
theorem iE:Bn (Bs Tryz.prog) Tryz.prog Ms Ea=true:=by kernel_rfl
theorem ME:Bn (Bs Tryz.prog) Tryz.prog FF CU=true:=by kernel_rfl
theorem J5:Bn (Bs Tryz.prog) Tryz.prog DJ Bd=true:=by kernel_rfl
theorem LG:Bn (Bs Tryz.prog) Tryz.prog EU BE=true:=by kernel_rfl
theorem iI:Bn (Bs Tryz.prog) Tryz.prog Mw E2=true:=by kernel_rfl
theorem mW:Bn (Bs Tryz.prog) Tryz.prog O6 Ge=true:=by kernel_rfl
theorem cO:Bn (Bs Tryz.prog) Tryz.prog Lk F6=true:=by kernel_rfl
theorem YH:Bn (Bs Tryz.prog) Tryz.prog Kg FP=true:=by kernel_rfl
theorem Vu:Bn (Bs Tryz.prog) Tryz.prog Iq DT=true:=by kernel_rfl
theorem TU:Bn (Bs Tryz.prog) Tryz.prog HK Dd=true:=by kernel_rfl
theorem Vs:Bn (Bs Tryz.prog) Tryz.prog Io EE=true:=by kernel_rfl
theorem cU:Bn (Bs Tryz.prog) Tryz.prog Lp GK=true:=by kernel_rfl
theorem mR:Bn (Bs Tryz.prog) Tryz.prog O1 IN=true:=by kernel_rfl
theorem mQ:Bn (Bs Tryz.prog) Tryz.prog O0 IM=true:=by kernel_rfl
theorem iD:Bn (Bs Tryz.prog) Tryz.prog Mr Gy=true:=by kernel_rfl
theorem mX:Bn (Bs Tryz.prog) Tryz.prog O7 IS=true:=by kernel_rfl
theorem mY:Bn (Bs Tryz.prog) Tryz.prog O8 IU=true:=by kernel_rfl
theorem Xb:Bn (Bs Tryz.prog) Tryz.prog Jq Fd=true:=by kernel_rfl
theorem Vt:Bn (Bs Tryz.prog) Tryz.prog Ip EF=true:=by kernel_rfl
theorem nC:Bn (Bs Tryz.prog) Tryz.prog OC IX=true:=by kernel_rfl
theorem Xh:Bn (Bs Tryz.prog) Tryz.prog Jx Dk=true:=by kernel_rfl
theorem Kz:Bn (Bs Tryz.prog) Tryz.prog Em B2=true:=by kernel_rfl
theorem Q9:Bn (Bs Tryz.prog) Tryz.prog FM CD=true:=by kernel_rfl
theorem mZ:Bn (Bs Tryz.prog) Tryz.prog O9 IV=true:=by kernel_rfl
theorem nA:Bn (Bs Tryz.prog) Tryz.prog OA IW=true:=by kernel_rfl
theorem cX:Bn (Bs Tryz.prog) Tryz.prog Ls EB=true:=by kernel_rfl
theorem iO:Bn (Bs Tryz.prog) Tryz.prog M2 HD=true:=by kernel_rfl
theorem cZ:Bn (Bs Tryz.prog) Tryz.prog Lu D6=true:=by kernel_rfl
theorem Pc:Bn (Bs Tryz.prog) Tryz.prog EX CM=true:=by kernel_rfl
theorem R3:Bn (Bs Tryz.prog) Tryz.prog G5 DE=true:=by kernel_rfl
theorem YO:Bn (Bs Tryz.prog) Tryz.prog Kl FV=true:=by kernel_rfl
theorem Vv:Bn (Bs Tryz.prog) Tryz.prog KO EG=true:=by kernel_rfl
theorem cV:Bn (Bs Tryz.prog) Tryz.prog Lq F8=true:=by kernel_rfl
theorem sR:Bn (Bs Tryz.prog) Tryz.prog Qq Hg=true:=by kernel_rfl
theorem sQ:Bn (Bs Tryz.prog) Tryz.prog Qp JO=true:=by kernel_rfl
theorem mU:Bn (Bs Tryz.prog) Tryz.prog O4 IQ=true:=by kernel_rfl
theorem mP:Bn (Bs Tryz.prog) Tryz.prog Oz IL=true:=by kernel_rfl
theorem hX:Bn (Bs Tryz.prog) Tryz.prog Ml H3=true:=by kernel_rfl
theorem iC:Bn (Bs Tryz.prog) Tryz.prog Mq H6=true:=by kernel_rfl
theorem K0:Bn (Bs Tryz.prog) Tryz.prog En BI=true:=by kernel_rfl
theorem cY:Bn (Bs Tryz.prog) Tryz.prog Lt F9=true:=by kernel_rfl
theorem iP:Bn (Bs Tryz.prog) Tryz.prog M3 Fs=true:=by kernel_rfl
theorem PA:Bn (Bs Tryz.prog) Tryz.prog Fu Dh=true:=by kernel_rfl
theorem Ji:Bn (Bs Tryz.prog) Tryz.prog C6 Bi=true:=by kernel_rfl
theorem cQ:Bn (Bs Tryz.prog) Tryz.prog Lm GH=true:=by kernel_rfl
theorem sS:Bn (Bs Tryz.prog) Tryz.prog Qr I7=true:=by kernel_rfl
theorem sT:Bn (Bs Tryz.prog) Tryz.prog Qs Hi=true:=by kernel_rfl
theorem sU:Bn (Bs Tryz.prog) Tryz.prog Qt JQ=true:=by kernel_rfl
theorem iR:Bn (Bs Tryz.prog) Tryz.prog M5 HF=true:=by kernel_rfl
theorem iS:Bn (Bs Tryz.prog) Tryz.prog M6 HG=true:=by kernel_rfl
theorem R2:Bn (Bs Tryz.prog) Tryz.prog G4 DD=true:=by kernel_rfl
theorem Vr:Bn (Bs Tryz.prog) Tryz.prog In ED=true:=by kernel_rfl
theorem YM:Bn (Bs Tryz.prog) Tryz.prog MP Hj=true:=by kernel_rfl
theorem YN:Bn (Bs Tryz.prog) Tryz.prog MQ Hk=true:=by kernel_rfl
theorem V1:Bn (Bs Tryz.prog) Tryz.prog KQ FU=true:=by kernel_rfl
theorem V0:Bn (Bs Tryz.prog) Tryz.prog KP CS=true:=by kernel_rfl
theorem cT:Bn (Bs Tryz.prog) Tryz.prog OD Id=true:=by kernel_rfl
theorem iK:Bn (Bs Tryz.prog) Tryz.prog My H9=true:=by kernel_rfl
theorem cW:Bn (Bs Tryz.prog) Tryz.prog Lr GL=true:=by kernel_rfl
theorem K1:Bn (Bs Tryz.prog) Tryz.prog Df BJ=true:=by kernel_rfl
theorem iJ:Bn (Bs Tryz.prog) Tryz.prog Mx E3=true:=by kernel_rfl
theorem iQ:Bn (Bs Tryz.prog) Tryz.prog M4 HE=true:=by kernel_rfl
theorem V3:Bn (Bs Tryz.prog) Tryz.prog Iw EI=true:=by kernel_rfl
theorem Q8:Bn (Bs Tryz.prog) Tryz.prog FL CC=true:=by kernel_rfl
theorem Lb:Bn (Bs Tryz.prog) Tryz.prog D3 BT=true:=by kernel_rfl
theorem NX:Bn (Bs Tryz.prog) Tryz.prog E7 C9=true:=by kernel_rfl
theorem Ky:Bn (Bs Tryz.prog) Tryz.prog De BH=true:=by kernel_rfl
theorem KG:Bn (Bs Tryz.prog) Tryz.prog Dl BL=true:=by kernel_rfl
theorem Vx:Bn (Bs Tryz.prog) Tryz.prog Is CO=true:=by kernel_rfl
theorem Vw:Bn (Bs Tryz.prog) Tryz.prog Ir CN=true:=by kernel_rfl
theorem Vz:Bn (Bs Tryz.prog) Tryz.prog Iu CQ=true:=by kernel_rfl
theorem Vy:Bn (Bs Tryz.prog) Tryz.prog It CP=true:=by kernel_rfl
theorem S9:Bn (Bs Tryz.prog) Tryz.prog GX Cp=true:=by kernel_rfl
theorem iN:Bn (Bs Tryz.prog) Tryz.prog M1 HC=true:=by kernel_rfl
theorem S8:Bn (Bs Tryz.prog) Tryz.prog GW Co=true:=by kernel_rfl
theorem S7:Bn (Bs Tryz.prog) Tryz.prog Ju Bl=true:=by kernel_rfl
theorem S6:Bn (Bs Tryz.prog) Tryz.prog GV Bh=true:=by kernel_rfl
theorem Xe:Bn (Bs Tryz.prog) Tryz.prog Jt Dj=true:=by kernel_rfl
theorem Xd:Bn (Bs Tryz.prog) Tryz.prog Js Di=true:=by kernel_rfl
theorem Xi:Bn (Bs Tryz.prog) Tryz.prog Jy Fg=true:=by kernel_rfl
theorem V2:Bn (Bs Tryz.prog) Tryz.prog Iv EH=true:=by kernel_rfl
theorem iM:Bn (Bs Tryz.prog) Tryz.prog M0 Fq=true:=by kernel_rfl
theorem MF:Bn (Bs Tryz.prog) Tryz.prog Ee Cn=true:=by kernel_rfl
theorem KH:Bn (Bs Tryz.prog) Tryz.prog Dm BM=true:=by kernel_rfl
theorem J6:Bn (Bs Tryz.prog) Tryz.prog DK BW=true:=by kernel_rfl
theorem MC:Bn (Bs Tryz.prog) Tryz.prog Ed Cm=true:=by kernel_rfl
theorem LH:Bn (Bs Tryz.prog) Tryz.prog Hm D1=true:=by kernel_rfl
theorem GP:Bn (Bs Tryz.prog) Tryz.prog C1 Cs=true:=by kernel_rfl
theorem Xg:Bn (Bs Tryz.prog) Tryz.prog Jw Ff=true:=by kernel_rfl
theorem YJ:Bn (Bs Tryz.prog) Tryz.prog Ki FS=true:=by kernel_rfl
theorem KI:Bn (Bs Tryz.prog) Tryz.prog Dn BN=true:=by kernel_rfl
theorem S4:Bn (Bs Tryz.prog) Tryz.prog GT DR=true:=by kernel_rfl
theorem KJ:Bn (Bs Tryz.prog) Tryz.prog Do BO=true:=by kernel_rfl
theorem IZ:Bn (Bs Tryz.prog) Tryz.prog Cw B3=true:=by kernel_rfl
theorem Xf:Bn (Bs Tryz.prog) Tryz.prog Jv Fe=true:=by kernel_rfl
theorem I5:dW Tryz.prog Cj=some Extern.BytealgIndexByte.indexByte:=by kernel_rfl
theorem Nq:dW Tryz.prog F7=some Extern.AbiNoEscape.same:=by kernel_rfl
theorem LI:dW Tryz.prog D2=some Extern.BytealgCompare.compare:=by kernel_rfl
theorem MD:entB Tryz.prog Fc=true:=by kernel_rfl
theorem fits:Fits (Bs Tryz.prog) Tryz.prog tb:=by
 refine⟨by kernel_rfl,fun ao o h=>sG ao o h,fun g p h=> ?_,fun g cs h=>(by
  have hm:=P6 h
  have all: ∀x∈gll,Bg x.2=0:=by
   simp only[gll,List.forall_mem_cons]
   exact⟨gm_0,gm_2,fun x h=>(by cases h)⟩
  exact all _ hm),fun g fn h=> ?_⟩
 ·have hm:=P6 h
  have all: ∀x∈prl,Fv Tryz.prog tb fun g args h=>if g=x.1 then x.2 args h else none:=by
   simp only[prl,List.forall_mem_cons]
   exact⟨WO I5,rV Nq,cE LI,rW MD yR,fun x h=>(by cases h)⟩
  exact all _ hm
 have hm:=P6 h
 have all: ∀x∈fnl,Bn (Bs Tryz.prog) Tryz.prog x.2 x.1=true:=by
  simp only[fnl,List.forall_mem_cons]
  exact⟨S5,iH,hZ,iL,YL,mO,hY,TV,YI,iA,Xa,cR,iF,mT,nB,iG,cS,cP,YK,TT,Xc,mN,mS,iB,mV,iE,ME,J5,LG,iI,mW,cO,YH,Vu,TU,Vs,cU,mR,mQ,iD,mX,mY,Xb,Vt,nC,Xh,Kz,Q9,mZ,nA,cX,iO,cZ,Pc,R3,YO,Vv,cV,sR,sQ,mU,mP,hX,iC,K0,cY,iP,PA,Ji,cQ,sS,sT,sU,iR,iS,R2,Vr,YM,YN,V1,V0,cT,iK,cW,K1,iJ,iQ,V3,Q8,Lb,NX,Ky,KG,Vx,Vw,Vz,Vy,S9,iN,S8,S7,S6,Xe,Xd,Xi,V2,iM,MF,KH,J6,MC,LH,GP,Xg,YJ,KI,S4,KJ,IZ,Xf,fun x h=>(by cases h)⟩
 exact all _ hm
end Go.Proofs.YtobejhpigbllpaaGreatDoor.Am
end
namespace Go.Proofs.YtobejhpigbllpaaGreatDoor.Am
def XE(P:Program):Nat→List Field→Option Nat
 |pos,[]=>some pos
 |pos,f::fs=>if Nat.beq f.offset pos then XE P (pos+P.cellsOf f.type) fs else none
def Jh(P:Program):Nat→TypeId→Bool
 |0,_=>false
 |n+1,t=>
  match P.underlying t with
  |some .bool=>Nat.beq (P.cellsOf t) 1
  |some (.int _)=>Nat.beq (P.cellsOf t) 1
  |some .string=>Nat.beq (P.cellsOf t) 1
  |some (.pointer e)=>Nat.beq (P.cellsOf t) 1&&Nat.blt 0 (P.cellsOf e)&&Jh P n e
  |some (.slice e)=>Nat.beq (P.cellsOf t) 1&&Nat.blt 0 (P.cellsOf e)&&Jh P n e
  |some (.struct fs)=>decide (XE P 0 fs.toList=some (P.cellsOf t))&&fs.toList.all fun f=>Jh P n f.type
  |some (.array m e)=>Nat.beq (P.cellsOf t) (m*P.cellsOf e)&&Jh P n e
  |_=>false
def eL(T:TypeId→List AV→Prop):List Field→List AV→Prop
 |[],cs=>cs=[]
 |f::fs,cs=> ∃a b,cs=a++b∧T f.type a∧eL T fs b
def Ga(P:Program):Nat→TypeId→List AV→Prop
 |0,_,_=>False
 |n+1,t,cs=>
  match P.underlying t with
  |some .bool=> ∃b,cs=[.b b]
  |some (.int k)=> ∃x,cs=[.i k x]∧k.has x
  |some .string=> ∃l,cs=[.s l]
  |some (.pointer e)=>cs=[.nilp]∨ ∃ds,cs=[.ip ds 0]∧Ga P n e ds
  |some (.slice e)=>cs=[.nils]∨ ∃els:List (List AV),cs=[.sl (P.cellsOf e) els]∧ ∀x∈els,Ga P n e x
  |some (.struct fs)=>eL (Ga P n) fs.toList cs
  |some (.array m e)=> ∃els:List (List AV),els.length=m∧cs=els.flatten∧ ∀x∈els,Ga P n e x
  |_=>False
section
variable{P:Program}{H:Type}{enc:TypeId×Value→H}{w:World}{spare:Nat→Bool}{held:Bool}
theorem UV{base:Nat}{a:Addr}{n:Nat}{cs:List Value}(h:w.cells? base a n=some cs):cs.length=n∧ ∀(j:Nat) (v:Value),cs[j]? =some v→w.cell? (a.add j)=some v:=by
 unfold World.cells? at h
 split at h
 ·refine⟨by rw[mapM_some_length h];simp,fun j v hj=> ?_⟩
  have hl:j<n:=by have:=AS hj;rw[mapM_some_length h]at this;simpa using this
  have:=mapM_some_get h j j (by simp[hl])
  rw[this,hj]
 ·cases h
theorem zO{a:Addr}{v:Value}(h:w.cell? a=some v):a.spot=none∧a.block<w.heap.size:=by
 unfold World.cell? at h
 split at h
 ·rename_i c e fr hb
  refine⟨?_,(Array.getElem?_eq_some_iff.1 hb).1⟩
  split at h
  ·cases h
  ·rename_i hs;simpa using hs
 ·cases h
theorem SX{base:Nat}{a:Addr}{n:Nat}{cs:List Value}(h:w.cells? base a n=some cs)(hn:0<n): ∃b off,a=⟨b,off,none⟩∧b<w.heap.size∧DH w b off cs∧cs.length=n:=by
 obtain⟨h1,h2⟩:=UV h
 obtain⟨b,off,sp⟩:=a
 have h0:=h2 0 cs[0] (by simp)
 have:=zO h0
 simp only[Addr.add,if_true]at this
 obtain⟨rfl,hlt⟩:=this
 exact⟨b,off,rfl,hlt,fun j v hj=>by have:=h2 j v hj;rwa [FZ]at this,h1⟩
theorem oB{p:Nat→List AV→List Value→Prop}: ∀(len:Nat),(∀i,i<len→ ∃x y,p i x y)→ ∃(xs:List (List AV)) (ys:List (List Value)),xs.length=len∧ys.length=len∧ ∀(i:Nat) x y,xs[i]? =some x→ys[i]? =some y→p i x y
 |0,_=>⟨[],[],rfl,rfl,fun i x y h=>by simp at h⟩
 |n+1,h=>by
  obtain⟨xs,ys,h1,h2,h3⟩:=oB n fun i hi=>h i (by omega)
  obtain⟨x,y,hp⟩:=h n (by omega)
  refine⟨xs++[x],ys++[y],by simp[h1],by simp[h2],fun i u v hu hv=> ?_⟩
  by_cases hi:i<n
  ·rw[List.getElem?_append_left (by omega)]at hu hv
   exact h3 i u v hu hv
  ·have hlt:=AS hu
   simp only[List.length_append,List.length_cons,List.length_nil]at hlt
   obtain rfl:i=n:=by omega
   rw[List.getElem?_append_right (by omega),h1]at hu
   rw[List.getElem?_append_right (by omega),h2]at hv
   simp only[Nat.sub_self,List.getElem?_cons_zero,Option.some.injEq]at hu hv
   subst hu;subst hv
   exact hp
theorem WG{C:Dt}: ∀{xs:List (List AV)} {ys:List (List Value)},xs.length=ys.length→(∀(i:Nat) x y,xs[i]? =some x→ys[i]? =some y→AX C x y)→AN C xs ys
 |[],[],_,_=>rfl
 |[],_::_,h,_=>by simp at h
 |_::_,[],h,_=>by simp at h
 |x::xs,y::ys,h,k=>⟨y,ys,rfl,k 0 x y rfl rfl,WG (by simpa using h) fun i u v hu hv=>k (i+1) u v (by simpa using hu) (by simpa using hv)⟩
theorem Xt{sz:Nat}: ∀(l:List (List Value)),(∀y∈l,y.length=sz)→ ∀(j:Nat) (v:Value),l.flatten[j]? =some v→ ∃(i r:Nat) (y:List Value),j=i*sz+r∧l[i]? =some y∧y[r]? =some v
 |[],_,j,v,h=>by simp at h
 |y::l,hy,j,v,h=>by
  rw[List.flatten_cons]at h
  have hyl:=hy y List.mem_cons_self
  rcases Nat.lt_or_ge j y.length with hlt|hge
  ·rw[List.getElem?_append_left hlt]at h
   exact⟨0,j,y,by simp,rfl,h⟩
  ·rw[List.getElem?_append_right hge]at h
   obtain⟨i,r,u,h1,h2,h3⟩:=Xt l (fun z hz=>hy z (List.mem_cons_of_mem _ hz)) _ _ h
   exact⟨i+1,r,u,by rw[Nat.succ_mul];omega,by simpa using h2,h3⟩
theorem pI(φ:Nat→Place)(w:World)(b:Nat): ¬(⟨φ,[],w⟩:Dt).own b:=by
 rintro⟨id,h,_⟩
 exact absurd h (Nat.not_lt_zero _)
def Reads(P:Program)(φ:Nat→Place)(w:World)(n:Nat)(t:TypeId)(cs:List Value):Prop:=
 ∃cs1:List AV,Ga P n t cs1∧AX ⟨φ,[],w⟩ cs1 cs∧cs1.all scal=true∧cs.length=P.cellsOf t
theorem Sj(φ:Nat→Place)(n:Nat)(T: ∀f:Field,Jh P n f.type=true→ ∀cs:List Value,(∃fuel x,DataW.trod enc P w 0 spare held fuel f.type cs=some x)→Reads P φ w n f.type cs):
  ∀(fs:List Field) (pos tot:Nat) (cs:List Value),fs.all (fun f=>Jh P n f.type)=true→XE P pos fs=some tot→cs.length=tot→
   (∀f∈fs,∃fuel x,DataW.trod enc P w 0 spare held fuel f.type ((cs.drop f.offset).take (P.cellsOf f.type))=some x)→
   ∃cs1:List AV,eL (Ga P n) fs cs1∧AX ⟨φ,[],w⟩ cs1 (cs.drop pos)∧cs1.all scal=true
 |[],pos,tot,cs,_,hc,hl,_=>by
  simp only[XE,Option.some.injEq]at hc
  subst hc
  exact⟨[],rfl,by rw[List.drop_of_length_le (by omega)];rfl,rfl⟩
 |f::fs,pos,tot,cs,hp,hc,hl,hr=>by
  simp only[List.all_cons,Bool.and_eq_true]at hp
  simp only[XE]at hc
  split at hc
  ·rename_i ho
   rw[Nat.beq_eq]at ho
   obtain⟨cs1,t1,r1,s1,l1⟩:=T f hp.1 _ (hr f List.mem_cons_self)
   obtain⟨bs,t2,r2,s2⟩:=Sj φ n T fs _ tot cs hp.2 hc hl fun g hg=>hr g (List.mem_cons_of_mem _ hg)
   refine⟨cs1++bs,⟨cs1,bs,rfl,t1,t2⟩,?_,by simp only[List.all_append,s1,s2,Bool.and_self]⟩
   rw[ho]at r1 l1
   have hsplit:cs.drop pos=(cs.drop pos).take (P.cellsOf f.type)++cs.drop (pos+P.cellsOf f.type):=by
    rw[←List.drop_drop,List.take_append_drop]
   rw[hsplit]
   exact AX.app r1 r2
  ·cases hc
theorem Pk(φ:Nat→Place): ∀(n:Nat) (t:TypeId),Jh P n t=true→ ∀(fuel:Nat) (cs:List Value) (x:DataW H×List MemPlace),DataW.trod enc P w 0 spare held fuel t cs=some x→Reads P φ w n t cs
 |0,_,h=>by simp[Jh]at h
 |n+1,t,h=>by
  intro fuel cs x hx
  simp only[Jh]at h
  cases hu:P.underlying t with
  |none=>rw[hu]at h;simp at h
  |some d=>
   rw[hu]at h
   cases fuel with
   |zero=>simp[DataW.trod]at hx
   |succ fuel=>
    cases d<;>simp only[Bool.false_eq_true]at h
    case bool=>
     rw[Nat.beq_eq]at h
     rcases cs with _|⟨v,_|⟨u,r⟩⟩
     ·simp[DataW.trod,hu]at hx
     ·cases v<;>simp[DataW.trod,hu]at hx
      rename_i b
      exact⟨[.b b],by simp only[Ga,hu];exact⟨b,rfl⟩,⟨_,_,rfl,rfl,rfl⟩,rfl,h.symm⟩
     ·cases v<;>simp[DataW.trod,hu]at hx
    case int k=>
     rw[Nat.beq_eq]at h
     rcases cs with _|⟨v,_|⟨u,r⟩⟩
     ·simp[DataW.trod,hu]at hx
     ·cases v<;>simp[DataW.trod,hu]at hx
      rename_i k' z
      obtain⟨⟨rfl,hwf⟩,_⟩:=hx
      refine⟨[.i k' z],?_,⟨_,_,rfl,rfl,rfl⟩,rfl,h.symm⟩
      simp only[Ga,hu]
      simp only[Lit.wf,Bool.and_eq_true,decide_eq_true_eq]at hwf
      exact⟨z,rfl,hwf⟩
     ·cases v<;>simp[DataW.trod,hu]at hx
    case string=>
     rw[Nat.beq_eq]at h
     rcases cs with _|⟨v,_|⟨u,r⟩⟩
     ·simp[DataW.trod,hu]at hx
     ·cases v<;>simp[DataW.trod,hu]at hx
      rename_i b
      exact⟨[.s b.data.toList],by simp only[Ga,hu];exact⟨_,rfl⟩,⟨_,_,rfl,by simp[FI],rfl⟩,rfl,h.symm⟩
     ·cases v<;>simp[DataW.trod,hu]at hx
    case pointer e=>
     simp only[Bool.and_eq_true,Nat.beq_eq,Nat.blt_eq]at h
     obtain⟨⟨h1,h2⟩,h3⟩:=h
     rcases cs with _|⟨v,_|⟨u,r⟩⟩
     ·simp[DataW.trod,hu]at hx
     ·cases v<;>try (simp[DataW.trod,hu]at hx;done)
      rename_i p
      cases p with
      |none=>exact⟨[.nilp],by simp only[Ga,hu];left;trivial,⟨_,_,rfl,rfl,rfl⟩,rfl,h1.symm⟩
      |some p=>
       simp only[DataW.trod,hu]at hx
       obtain⟨y,hy,_⟩:=Option.map_eq_some_iff.1 hx
       obtain⟨cs',hc,ht⟩:=Option.bind_eq_some_iff.1 hy
       obtain⟨b,off,rfl,hlt,hh,hl⟩:=SX hc h2
       obtain⟨cs1,t1,r1,s1,l1⟩:=Pk φ n e h3 fuel cs' y ht
       refine⟨[.ip cs1 0],by simp only[Ga,hu];exact .inr ⟨cs1,rfl,t1⟩,⟨_,_,rfl,⟨b,off,cs',rfl,hlt,pI φ w b,hh,s1,r1⟩,rfl⟩,rfl,h1.symm⟩
     ·cases v<;>simp[DataW.trod,hu]at hx
    case slice e=>
     simp only[Bool.and_eq_true,Nat.beq_eq,Nat.blt_eq]at h
     obtain⟨⟨h1,h2⟩,h3⟩:=h
     rcases Go.Deep.open_slice hu hx with ⟨rfl,_⟩|⟨a,len,cap,m,n',D,Pl,rfl,hb,hl,hm,hmm,rfl,hel⟩
     ·exact⟨[.nils],by simp only[Ga,hu];left;trivial,⟨_,_,rfl,rfl,rfl⟩,rfl,h1.symm⟩
     ·have hlm:len≤m:=by rw[hmm];split<;>omega
      obtain⟨xs,ys,x1,y1,hp⟩:=oB (p:=fun i x y=>Ga P n e x∧AX ⟨φ,[],w⟩ x y∧x.all scal=true∧y.length=P.cellsOf e∧w.cells? 0 (a.add (i*P.cellsOf e)) (P.cellsOf e)=some y) len fun i hi=>by
       obtain⟨cs',c1,c2⟩:=hel i (by omega)
       obtain⟨cs1,t1,r1,s1,l1⟩:=Pk φ n e h3 n' cs' _ c2
       exact⟨cs1,cs',t1,r1,s1,l1,c1⟩
      have getx: ∀x∈xs,∃(i:Nat) (y:List Value),xs[i]? =some x∧ys[i]? =some y:=by
       intro x hx
       obtain⟨i,hi⟩:=List.mem_iff_getElem?.1 hx
       have:=AS hi
       exact⟨i,ys[i]'(by omega),hi,List.getElem?_eq_getElem (by omega)⟩
      have gety: ∀y∈ys,y.length=P.cellsOf e:=by
       intro y hy
       obtain⟨i,hi⟩:=List.mem_iff_getElem?.1 hy
       have:=AS hi
       exact(hp i (xs[i]'(by omega)) y (List.getElem?_eq_getElem (by omega)) hi).2.2.2.1
      refine⟨[.sl (P.cellsOf e) xs],?_,⟨_,_,rfl,?_,rfl⟩,rfl,h1.symm⟩
      ·simp only[Ga,hu]
       refine .inr ⟨xs,rfl,fun x hx=> ?_⟩
       obtain⟨i,y,hi,hy⟩:=getx x hx
       exact(hp i x y hi hy).1
      ·by_cases h0:len=0
       ·subst h0
        exact .inr ⟨List.eq_nil_of_length_eq_zero x1,a,cap,rfl⟩
       ·have hpos:0<len:=by omega
        obtain⟨y0,hy0⟩: ∃y,ys[0]? =some y:=⟨_,List.getElem?_eq_getElem (by omega)⟩
        obtain⟨x0,hx0⟩: ∃y,xs[0]? =some y:=⟨_,List.getElem?_eq_getElem (by omega)⟩
        have hc0:=(hp 0 x0 y0 hx0 hy0).2.2.2.2
        simp only[Nat.zero_mul,Addr.add,if_true]at hc0
        obtain⟨b,off,rfl,hlt,_,_⟩:=SX hc0 h2
        refine .inl ⟨b,off,cap,ys,by rw[x1],by rw[x1];exact hl,hlt,pI φ w b,?_,fun x hx=> ?_,WG (by rw[x1,y1]) fun i x y hi hy=>(hp i x y hi hy).2.1⟩
        ·intro j v hj
         obtain⟨i,r,y,rfl,hy,hr⟩:=Xt ys gety j v hj
         have hi:=AS hy
         have hc:=(hp i (xs[i]'(by omega)) y (List.getElem?_eq_getElem (by omega)) hy).2.2.2.2
         have:=(UV hc).2 r v hr
         rwa [FZ,FZ,Nat.add_assoc]at this
        ·obtain⟨i,y,hi,hy⟩:=getx x hx
         have:=hp i x y hi hy
         exact⟨by rw[←this.2.1.length];exact this.2.2.2.1,this.2.2.1⟩
    case struct fs=>
     simp only[Bool.and_eq_true,decide_eq_true_eq]at h
     obtain⟨h1,h2⟩:=h
     simp only[DataW.trod,hu]at hx
     split at hx
     ·rename_i hl
      obtain⟨xs,hxs,_⟩:=Option.map_eq_some_iff.1 hx
      obtain⟨cs1,t1,r1,s1⟩:=Sj (enc:=enc) (spare:=spare) (held:=held) φ n (fun f hf cs hh=>by obtain⟨fl,x,hh⟩:=hh;exact Pk φ n f.type hf fl cs x hh) fs.toList 0 _ cs h2 h1 hl fun f hf=>by
       obtain⟨i,hi⟩:=List.mem_iff_getElem?.1 hf
       have:=mapM_some_get hxs i f hi
       have hlen:=mapM_some_length hxs
       have hi':=AS hi
       rw[List.getElem?_eq_getElem (by omega)]at this
       exact⟨fuel,_,this⟩
      exact⟨cs1,by simp only[Ga,hu];exact t1,by simpa using r1,s1,hl⟩
     ·cases hx
    case array m e=>
     simp only[Bool.and_eq_true,Nat.beq_eq]at h
     obtain⟨h1,h2⟩:=h
     simp only[DataW.trod,hu]at hx
     split at hx
     ·rename_i hl
      obtain⟨xs,hxs,_⟩:=Option.map_eq_some_iff.1 hx
      have hxl:=mapM_some_length hxs
      simp only[List.length_range]at hxl
      obtain⟨els,ys,x1,y1,hp⟩:=oB (p:=fun i x y=>Ga P n e x∧AX ⟨φ,[],w⟩ x y∧x.all scal=true∧y=(cs.drop (i*P.cellsOf e)).take (P.cellsOf e)∧y.length=P.cellsOf e) m fun i hi=>by
       have:=mapM_some_get hxs i i (by simp[hi])
       rw[List.getElem?_eq_getElem (by omega)]at this
       obtain⟨cs1,t1,r1,s1,l1⟩:=Pk φ n e h2 fuel _ _ this
       exact⟨cs1,_,t1,r1,s1,rfl,l1⟩
      have hys: ∀k,k≤m→(ys.take k).flatten=cs.take (k*P.cellsOf e):=by
       intro k
       induction k with
       |zero=>intro _;simp
       |succ k ih=>
        intro hk
        obtain⟨y,hy⟩: ∃y,ys[k]? =some y:=⟨_,List.getElem?_eq_getElem (by omega)⟩
        have:=hp k (els[k]'(by omega)) y (List.getElem?_eq_getElem (by omega)) hy
        rw[List.take_add_one,hy,List.flatten_append,ih (by omega)]
        simp only[Option.toList_some,List.flatten_cons,List.flatten_nil,List.append_nil]
        rw[this.2.2.2.1,Nat.succ_mul,List.take_add]
      have hfl:ys.flatten=cs:=by
       have:=hys m (Nat.le_refl _)
       rwa [List.take_of_length_le (by omega),List.take_of_length_le (by omega)]at this
      refine⟨els.flatten,?_,?_,?_,hl⟩
      ·simp only[Ga,hu]
       refine⟨els,x1,rfl,fun x hx=> ?_⟩
       obtain⟨i,hi⟩:=List.mem_iff_getElem?.1 hx
       have:=AS hi
       exact(hp i x (ys[i]'(by omega)) hi (List.getElem?_eq_getElem (by omega))).1
      ·have:=AN.flat (WG (C:=⟨φ,[],w⟩) (by rw[x1,y1]) fun i x y hi hy=>(hp i x y hi hy).2.1)
       rwa [hfl]at this
      ·refine L2 fun x hx=> ?_
       obtain⟨i,hi⟩:=List.mem_iff_getElem?.1 hx
       have:=AS hi
       exact(hp i x (ys[i]'(by omega)) hi (List.getElem?_eq_getElem (by omega))).2.2.1
     ·cases hx
end
end Go.Proofs.YtobejhpigbllpaaGreatDoor.Am
